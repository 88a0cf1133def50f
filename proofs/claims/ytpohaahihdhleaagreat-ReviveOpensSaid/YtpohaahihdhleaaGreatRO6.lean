/- Parts of the proof of one statement of the seat. -/
import Derived.Test.YtpohaahihdhleaaGreatRO5
import Derived.Deep.Slices
import Derived.Deep.Fields
import Derived.ChangeSame
import Derived.OpenShut
import Derived.Deep.Cut
set_option linter.unusedVariables false
set_option maxHeartbeats 16000000
set_option maxRecDepth 100000
open Go.RowKit
namespace Go.Proofs.YtpohaahihdhleaaGreat
section
open Go.Maps
theorem Jdt {l:List Bool} {M E M2 E2:Int→Option Int} {a m s0 e0:Nat} (hM:MOf l M) (hE:EOf l E) (hm:1≤m) (ha:a+m≤l.length) (h0:Qby l a m=false)
  (hs:s0=a∧E a=none∨E a=some (s0:Int)) (he:e0=a+m∧M ((a:Int)+m)=none∨M ((a:Int)+m)=some ((e0:Int)-(a+m)))
  (hM2:∀s,s≠(s0:Int)→M2 s=if s=(a:Int)+m then none else M s) (hE2:∀e,e≠(e0:Int)→E2 e=if e=(a:Int) then none else E e) :
  MOf (Qk4 l a true m) (Qua M2 s0 ((e0:Int)-s0))∧EOf (Qk4 l a true m) (Qua E2 e0 s0)∧s0≤a∧a+m≤e0∧e0≤l.length:=by
 have hfa:fb l a=false:=Qdc h0 a NR (by omega);have hS:s0=a∧(∀b,b+1=a→fb l b=false)∨s0<a∧Qel (fb l) s0 (a-s0):=by
  rcases hs with ⟨h1,h2⟩ | h1
  ·refine .inl ⟨h1,fun b hb=>?_⟩
   cases hf:fb l b with
   | false=>rfl
   | true =>
    exfalso
    obtain ⟨s,n,hr,h3,h4⟩:=Qq8 (f:=fb l) (L:=l.length) (fun x hx=>Qsc l x hx) hf;have h5:s+n=a:=by
     rcases Nat.lt_or_ge a (s+n) with h6 | h6
     ·have:=hr.2.1 a (by omega) h6;rw [hfa] at this;cases this
     ·omega
    have:=(hE (a:Int) (s:Int)).2 ⟨by omega,by omega,by rw [show ((a:Int)-(s:Int)).toNat=n by omega];exact hr⟩;rw [h2] at this;cases this
  ·obtain ⟨h2,h3,h4⟩:=(hE _ _).1 h1;have e:((a:Int)-(s0:Int)).toNat=a-s0:=by omega
   rw [e] at h4;have:=h4.1;exact .inr ⟨by omega,h4⟩
 have hEE:e0=a+m∧fb l (a+m)=false∨a+m<e0∧Qel (fb l) (a+m) (e0-(a+m)):=by
  rcases he with ⟨h1,h2⟩ | h1
  ·refine .inl ⟨h1,?_⟩
   cases hf:fb l (a+m) with
   | false=>rfl
   | true =>
    exfalso
    obtain ⟨s,n,hr,h3,h4⟩:=Qq8 (f:=fb l) (L:=l.length) (fun x hx=>Qsc l x hx) hf;have h5:s=a+m:=by
     rcases Nat.lt_or_ge s (a+m) with h6 | h6
     ·have:=hr.2.1 (a+m-1) (by omega) (by omega);rw [Qdc h0 _ (by omega) (by omega)] at this;cases this
     ·omega
    have:=(hM ((a:Int)+m) (n:Int)).2 ⟨by omega,by omega,by rw [show ((a:Int)+m).toNat=s by omega];simpa using hr⟩;rw [h2] at this;cases this
  ·obtain ⟨h2,h3,h4⟩:=(hM _ _).1 h1;have e1:((a:Int)+(m:Int)).toNat=a+m:=by omega
   have e2:((e0:Int)-((a:Int)+(m:Int))).toNat=e0-(a+m):=by omega
   rw [e1,e2] at h4;have:=h4.1;exact .inr ⟨by omega,h4⟩
 have hb1:s0≤a:=by rcases hS with ⟨h,_⟩|⟨h,_⟩ <;> omega
 have hb2:a+m≤e0:=by rcases hEE with ⟨h,_⟩|⟨h,_⟩ <;> omega
 have hb3:e0≤l.length:=by
  rcases hEE with ⟨h,_⟩|⟨h,hr⟩
  ·omega
  ·have:=Jan hr;omega
 refine ⟨Jhu hM hm ha h0 hS hEE (by simp [Qua]) ?_ ?_,Jhw hE hm ha h0 hS hEE (by simp [Qua]) ?_ ?_,hb1,hb2,hb3⟩
 ·intro s h1 h2;simp only [Qua,if_neg h1]
  rw [hM2 s h1];rcases h2 with h2 | h2
  ·rw [if_pos h2]
  ·exfalso
   obtain ⟨h3,h4,h5⟩:=(hM _ _).1 h2;have h6:=h5.1;rcases hS with ⟨_,h7⟩|⟨h7,h8⟩
   ·have:=h5.2.1 (a-1) (by omega) (by omega);rw [h7 _ (by omega)] at this;cases this
   ·have:=(h5.back h8 (by omega)).1;omega
 ·intro s h1 h2 h3;simp only [Qua,if_neg h1]
  rw [hM2 s h1,if_neg h2]
 ·intro e h1 h2;simp only [Qua,if_neg h1]
  rw [hE2 e h1];rcases h2 with h2 | h2
  ·rw [if_pos h2]
  ·exfalso
   obtain ⟨h3,h4,h5⟩:=(hE _ _).1 h2;have h6:=h5.1;have e1:((a:Int)+(m:Int)).toNat=a+m:=by omega
   rw [e1] at h5;rcases hEE with ⟨_,h7⟩|⟨h7,h8⟩
   ·have:=h5.2.1 (a+m) (by omega) (by omega);rw [h7] at this;cases this
   ·have:=h5.one h8;omega
 ·intro e h1 h2 h3;simp only [Qua,if_neg h1]
  rw [hE2 e h1,if_neg h2]
theorem Qov.mono {w:World} {T:Tri} {n m:Nat} {l:List Bool} (h:Qov w T n l) (hn:n≤m):Qov w T m l:=by
 obtain ⟨M,E,h1,h2⟩:=h;exact ⟨M,E,h1.mono hn,h2⟩
theorem Qwt (l:List Bool) (b:Nat):Jbb l (b:Int)=fb l b:=by simp [Jbb]
theorem Qt1 (l:List Bool) (a b:Nat) (h:a≤b):Qby l a (b+1-a)=(Qby l a (b-a) || fb l b):=by
 rw [show b+1-a=(b-a)+1 by omega,Qby,show a+(b-a)=b by omega]
def Qed (w:World) (T:Tri) (n:Nat) (l:List Bool) (a m:Int):Ending→World→Prop:=fun e w' =>
 e=.returned (.int .i64 (Qep l a m).2)∧Qov w' T (n+1) (Qep l a m).1∧Qam [T.s,T.e] w w'
theorem Jb0 {l:List Bool} {a m:Int} (h:a<1∨m<1∨(l.length:Int)≤a∨(l.length:Int)-a<m):Qep l a m=(l,1):=by
 unfold Qep;rw [if_pos h]
theorem Qvf {l:List Bool} {a m:Nat} (h:1≤a∧1≤m∧a+m≤l.length) (h0:Qby l a m=true):Qep l a m=(l,41):=by
 unfold Qep;rw [if_neg (by omega)];simp [h0]
theorem Qmx {l:List Bool} {a m:Nat} (h:1≤a∧1≤m∧a+m≤l.length) (h0:Qby l a m=false):Qep l a m=(Qk4 l a true m,0):=by
 unfold Qep;rw [if_neg (by omega)];simp [h0]
theorem Jbs {w:World} {T:Tri} {n:Nat} {l:List Bool} (h:Qov w T n l) (hl:l.length≤1000000000000) (a m:Int) (hbad:a<1∨m<1∨(l.length:Int)≤a∨(l.length:Int)-a<m) :
  Calls Tryz.prog 157 #[.pointer (some ⟨T.p,0,none⟩),.int .i64 a,.int .i64 m] w (Qed w T n l a m):=by
 have hR:=Jb0 hbad;have HP:Hid (Qed w T n l a m (.returned (.int .i64 1)) w):=LH (by unfold Qed;rw [hR];exact ⟨rfl,h.mono (by omega),Qam.refl _ _⟩);obtain ⟨M,E,hA,_,_⟩:=h;have e2:w.cell? ⟨T.p,2,none⟩=some (.int .i64 (l.length:Int)):=hA.row.cell rfl;have hcase:a<1∨(1≤a∧m<1)∨(1≤a∧1≤m∧(l.length:Int)≤a)∨(1≤a∧1≤m∧a<(l.length:Int)∧(l.length:Int)-a<m):=by omega
 clear hA hR hbad;generalize Qed w T n l a m=Post at *;generalize l.length=len at *;rcases hcase with h1 | ⟨h1,h2⟩|⟨h1,h2,h3⟩|⟨h1,h2,h3,h4⟩
 all_goals
  go_enter Tryz.func157,Tryz.ntmps157;go_wp2_with fail;exact HP.out
theorem Qdm.cast {w:World} {T:Tri} {n lim:Nat} {M E M' E':Int→Option Int} (h:Qdm w T n lim M E) (h1:M=M') (h2:E=E'):Qdm w T n lim M' E':=by
 subst h1;subst h2;exact h
theorem Jb3 {w w':World} {T:Tri} {n:Nat} {l:List Bool} {a m s0 e0:Nat} {M E M2 E2:Int→Option Int} (hb:1≤a∧1≤m∧a+m≤l.length) (h0:Qby l a m=false) (hM:MOf l M) (hE:EOf l E)
  (hs:s0=a∧E a=none∨E a=some (s0:Int)) (he:e0=a+m∧M ((a:Int)+m)=none∨M ((a:Int)+m)=some ((e0:Int)-(a+m)))
  (hM2:∀s,s≠(s0:Int)→M2 s=if s=(a:Int)+m then none else M s) (hE2:∀e,e≠(e0:Int)→E2 e=if e=(a:Int) then none else E e)
  (hA:Qdm w' T (n+1) l.length (Qua M2 s0 ((e0:Int)-s0)) (Qua E2 e0 s0)) (ht:Qam [T.s,T.e] w w'):Qed w T n l a m (.returned (.int .i64 0)) w':=by
 obtain ⟨h1,h2,_⟩:=Jdt hM hE hb.2.1 hb.2.2 h0 hs he hM2 hE2;unfold Qed;rw [Qmx hb h0];exact ⟨rfl,⟨_,_,by rw [Qdp];exact hA,h1,h2⟩,ht⟩
theorem Jai {w:World} {T:Tri} {n:Nat} {l:List Bool} (h:Qov w T n l) (hl:l.length≤1000000000000) (hn:n<1000000000000) (a m:Nat) (hb:1≤a∧1≤m∧a+m≤l.length) :
  Calls Tryz.prog 157 #[.pointer (some ⟨T.p,0,none⟩),.int .i64 (a:Int),.int .i64 (m:Int)] w (Qed w T n l a m):=by
 have HI:=LH h;have HB:=LH hb;have HTw:Hid (Qby l a m=true→∀w',Below w.heap.size w w'→Qed w T n l a m (.returned (.int .i64 41)) w'):=LH (fun hf w' hb'=>by
  unfold Qed;rw [Qvf hb hf];exact ⟨rfl,(h.mono (by omega)).below hb',Qam.ofBelow hb'⟩)
 obtain ⟨M,E,hA,hM,hE⟩:=h;have e2:w.cell? ⟨T.p,2,none⟩=some (.int .i64 (l.length:Int)):=hA.row.cell rfl;have HA:=LH hA;have HM:=LH hM;have HE:=LH hE;obtain ⟨g1,g2,g3⟩:=hb;have HEnd:Hid (∀(s0 e0:Nat) (M2 E2:Int→Option Int) (w':World),Qby l a m=false→(s0=a∧E a=none∨E a=some (s0:Int))→(e0=a+m∧M ((a:Int)+m)=none∨M ((a:Int)+m)=some ((e0:Int)-(a+m)))→
   (∀s,s≠(s0:Int)→M2 s=if s=(a:Int)+m then none else M s)→(∀e,e≠(e0:Int)→E2 e=if e=(a:Int) then none else E e)→
   Qdm w' T (n+1) l.length (Qua M2 s0 ((e0:Int)-s0)) (Qua E2 e0 s0)→Qam [T.s,T.e] w w'→Qed w T n l a m (.returned (.int .i64 0)) w') :=
  LH (fun s0 e0 M2 E2 w' h0 hs he hM2 hE2 hA ht=>Jb3 HB.out h0 hM hE hs he hM2 hE2 hA ht)
 clear hA hM hE;generalize Qed w T n l a m=Post at *;obtain ⟨len,hlen⟩:∃len,len=l.length:=⟨_,rfl⟩
 rw [← hlen] at g3 hl e2;have HLen:=LH hlen;clear hlen;have q1:decide ((a:Int)<1)=false:=by simp;omega
 have q2:decide ((m:Int)<1)=false:=by simp;omega
 have q3:decide (len≤a)=false:=by simp;omega
 have q4:decide ((len:Int)-(a:Int)<(m:Int))=false:=by simp;omega
 go_enter Tryz.func157,Tryz.ntmps157;go_wp2_with fail
 go_loopw [6,7] (fun _ i wr=>∃b:Nat,a≤b∧b≤a+m∧i=.int .i64 (b:Int)∧Qby l a (b-a)=false∧Below w.heap.size w wr) (fun _ i _=>a+m-(intOf i).toNat)
 case atStart=>exact ⟨a,Nat.le_refl _,by omega,rfl,by rw [Nat.sub_self];rfl,Below.refl _ _⟩
 case round =>
  obtain ⟨b,hab,hbm,rfl,hfree,hbe⟩:=hrel;have HF:=LH hfree;have HBe:=LH hbe;clear hfree hbe
  by_cases hlt:b<a+m
  ·have hlt':(b:Int)<(a:Int)+(m:Int):=by omega
   cases hfb:fb l b with
   | true =>
    have hall:Qby l a m=true:=Qom hab hlt hfb;have HAll:=LH hall;have HHas:Hid (Jbb l (b:Int)=true):=LH (by rw [Qwt];exact hfb);clear hall hfb;go_wp2_with fail;refine (Ja4 (HI.out.below HBe.out) (by rw [← HLen.out];exact hl) (b:Int)).mono ?_;rintro e w1 ⟨rfl,hb1⟩;rw [HHas.out];have HB1:=LH hb1;clear hb1;go_wp2_with fail;exact HTw.out HAll.out _ (HBe.out.trans (HB1.out.mono HBe.out.size))
   | false =>
    have HN:Hid (Qby l a (b+1-a)=false):=LH (by rw [Qt1 l a b hab,HF.out,hfb];rfl);have HHas:Hid (Jbb l (b:Int)=false):=LH (by rw [Qwt];exact hfb);clear hfb;go_wp2_with fail;refine (Ja4 (HI.out.below HBe.out) (by rw [← HLen.out];exact hl) (b:Int)).mono ?_;rintro e w1 ⟨rfl,hb1⟩;rw [HHas.out];have HB1:=LH hb1;clear hb1;go_wp2_with fail
    go_roundw
    case rel =>
     exact ⟨b+1,by omega,by omega,Qb2 (by omega),HN.out,HBe.out.trans (HB1.out.mono HBe.out.size)⟩
    case measure=>simp [intOf];omega
  ·obtain rfl:b=a+m:=by omega
   have HFr:Hid (Qby l a m=false):=LH (by have:=HF.out;rwa [show a+m-a=m by omega] at this);have HA1:=LH (HA.out.below HBe.out);have HT1:=LH (Qam.ofBelow (L:=[T.s,T.e]) HBe.out);clear hlt hab hbm HF;have f0:wr.cell? ⟨T.p,0,none⟩=some (.map (some T.s)):=HA1.out.row.cell rfl;have f1:wr.cell? ⟨T.p,1,none⟩=some (.map (some T.e)):=HA1.out.row.cell rfl;have hlt':decide (((a+m:Nat):Int)<(a:Int)+(m:Int))=false:=by simp
   have HWa:=LH (Qqy (x:=(a:Int)) (by omega) (by omega));have HWe:=LH (Qqy (x:=(a:Int)+(m:Int)) (by omega) (by omega));obtain ⟨ea,hea⟩:∃ea,E (a:Int)=ea:=⟨_,rfl⟩
   obtain ⟨mb,hmb⟩:∃mb,M ((a:Int)+m)=mb:=⟨_,rfl⟩
   have hbeh:mb=none∨∃e0:Nat,mb=some ((e0:Int)-((a:Int)+(m:Int)))∧a+m<e0∧e0≤len:=by
    cases mb with
    | none=>exact .inl rfl
    | some c =>
     have h1:=HM.out.bounds hmb;rw [← HLen.out] at h1;exact .inr ⟨(c+((a:Int)+m)).toNat,by congr 1;omega,by omega,by omega⟩
   have HMb:=LH hmb;clear hmb
   cases ea with
   | none =>
    have HEa:=LH hea;clear hea;rcases hbeh with rfl | ⟨e0,rfl,h1,h2⟩
    ·go_wp2_with (first | (refine Qcj rfl _ _ 217 rfl 3 Tryz.underlying3 Tryz.underlying217 (by kernel_rfl) T.e n E rfl HA1.out.byE (a:Int) rfl HWa.out ?_;rw [HEa.out,Option.getD_none,Option.isSome_none]) | (refine Qcj rfl _ _ 217 rfl 3 Tryz.underlying3 Tryz.underlying217 (by kernel_rfl) T.s n M rfl HA1.out.byS ((a:Int)+(m:Int)) rfl HWe.out ?_;rw [HMb.out,Option.getD_none,Option.isSome_none]))
     refine (Qqm HA1.out hn (s:=(a:Int)) (c:=(m:Int)) (by omega) (by omega) (by omega)).mono ?_;rintro e w2 ⟨rfl,hA2,ht2⟩;have HA2:=LH hA2;have HT2:=LH ht2;clear hA2 ht2;go_wp2_with fail;refine HEnd.out a (a+m) M E _ HFr.out (.inl ⟨rfl,HEa.out⟩) (.inl ⟨rfl,HMb.out⟩) (fun s _=>?_) (fun e _=>?_) ?_ (HT1.out.trans HT2.out)
     ·by_cases x:s=(a:Int)+m
      ·rw [if_pos x,x,HMb.out]
      ·rw [if_neg x]
     ·by_cases x:e=(a:Int)
      ·rw [if_pos x,x,HEa.out]
      ·rw [if_neg x]
     ·exact HA2.out.cast (by congr 1;omega) (by congr 1)
    ·go_wp2_with (first | (refine Qcj rfl _ _ 217 rfl 3 Tryz.underlying3 Tryz.underlying217 (by kernel_rfl) T.e n E rfl HA1.out.byE (a:Int) rfl HWa.out ?_;rw [HEa.out,Option.getD_none,Option.isSome_none]) | (refine Qcj rfl _ _ 217 rfl 3 Tryz.underlying3 Tryz.underlying217 (by kernel_rfl) T.s n M rfl HA1.out.byS ((a:Int)+(m:Int)) rfl HWe.out ?_;rw [HMb.out,Option.getD_some,Option.isSome_some]))
     refine (Qqj HA1.out HMb.out (by omega) (by omega) (by omega)).mono ?_;rintro e w2 ⟨rfl,hA2,ht2⟩;have HA2:=LH hA2;have HT2:=LH ht2;clear hA2 ht2;go_wp2_with fail;refine (Qqm HA2.out hn (by omega) (by omega) (by omega)).mono ?_;rintro e w3 ⟨rfl,hA3,ht3⟩;have HA3:=LH hA3;have HT3:=LH ht3;clear hA3 ht3;go_wp2_with fail;refine HEnd.out a e0 (Qrl M ((a:Int)+m)) (Qrl E ((a:Int)+m+((e0:Int)-((a:Int)+m)))) _ HFr.out (.inl ⟨rfl,HEa.out⟩) (.inr HMb.out) (fun s _=>rfl) (fun e he=>?_) ?_ (HT1.out.trans (HT2.out.trans HT3.out))
     ·unfold Qrl;rw [if_neg (by omega)]
      by_cases x:e=(a:Int)
      ·rw [if_pos x,x,HEa.out]
      ·rw [if_neg x]
     ·exact HA3.out.cast (by congr 1;omega) (by congr 1;omega)
   | some before =>
    obtain ⟨k1,k2,k3⟩:=(HE.out _ _).1 hea;have k4:=k3.1;obtain ⟨s0,rfl⟩:=Int.eq_ofNat_of_zero_le k1;have HEa:=LH hea;have HMs:Hid (M (s0:Int)=some ((a:Int)-(s0:Int))):=LH ((HM.out _ _).2 ⟨by omega,by omega,k3⟩);have hsa:(s0:Int)<(a:Int):=by omega
    clear hea k1 k2 k3 k4;have HWs:=LH (Qqy (x:=(s0:Int)) (by omega) (by omega));have HWe2:=LH (Qqy (x:=(s0:Int)+((m:Int)+((a:Int)-(s0:Int)))) (by omega) (by omega));have HMb2:Hid (Qrl M s0 ((s0:Int)+((m:Int)+((a:Int)-(s0:Int))))=mb):=LH (by
     rw [show (s0:Int)+((m:Int)+((a:Int)-(s0:Int)))=(a:Int)+m by omega]
     unfold Qrl;rw [if_neg (by omega)];exact HMb.out)
    go_wp2_with (first | (refine Qcj rfl _ _ 217 rfl 3 Tryz.underlying3 Tryz.underlying217 (by kernel_rfl) T.e n E rfl HA1.out.byE (a:Int) rfl HWa.out ?_;rw [HEa.out,Option.getD_some,Option.isSome_some]) | (refine Qlq rfl _ _ 217 rfl 3 Tryz.underlying3 Tryz.underlying217 (by kernel_rfl) T.s n M rfl HA1.out.byS (s0:Int) rfl HWs.out ?_;rw [HMs.out,Option.getD_some]))
    refine (Qqj HA1.out HMs.out (by omega) (by omega) (by omega)).mono ?_;rintro e w2 ⟨rfl,hA2,ht2⟩;have HA2:=LH hA2;have HT2:=LH ht2;have f2:w2.cell? ⟨T.p,0,none⟩=some (.map (some T.s)):=HA2.out.row.cell rfl;clear hA2 ht2;rcases hbeh with rfl | ⟨e0,rfl,h1,h2⟩
    ·go_wp2_with (refine Qcj rfl _ _ 217 rfl 3 Tryz.underlying3 Tryz.underlying217 (by kernel_rfl) T.s n (Qrl M s0) rfl HA2.out.byS ((s0:Int)+((m:Int)+((a:Int)-(s0:Int)))) rfl HWe2.out ?_;rw [HMb2.out,Option.getD_none,Option.isSome_none])
     refine (Qqm HA2.out hn (by omega) (by omega) (by omega)).mono ?_;rintro e w3 ⟨rfl,hA3,ht3⟩;have HA3:=LH hA3;have HT3:=LH ht3;clear hA3 ht3;go_wp2_with fail;refine HEnd.out s0 (a+m) (Qrl M s0) (Qrl E ((s0:Int)+((a:Int)-(s0:Int)))) _ HFr.out (.inr HEa.out) (.inl ⟨rfl,HMb.out⟩) (fun s hs=>?_) (fun e _=>?_) ?_ (HT1.out.trans (HT2.out.trans HT3.out))
     ·unfold Qrl;rw [if_neg hs]
      by_cases x:s=(a:Int)+m
      ·rw [if_pos x,x,HMb.out]
      ·rw [if_neg x]
     ·unfold Qrl;rw [show (s0:Int)+((a:Int)-(s0:Int))=a by omega]
     ·exact HA3.out.cast (by congr 1;omega) (by congr 1;omega)
    ·go_wp2_with (refine Qcj rfl _ _ 217 rfl 3 Tryz.underlying3 Tryz.underlying217 (by kernel_rfl) T.s n (Qrl M s0) rfl HA2.out.byS ((s0:Int)+((m:Int)+((a:Int)-(s0:Int)))) rfl HWe2.out ?_;rw [HMb2.out,Option.getD_some,Option.isSome_some])
     refine (Qqj HA2.out HMb2.out (by omega) (by omega) (by omega)).mono ?_;rintro e w3 ⟨rfl,hA3,ht3⟩;have HA3:=LH hA3;have HT3:=LH ht3;clear hA3 ht3;go_wp2_with fail;refine (Qqm HA3.out hn (by omega) (by omega) (by omega)).mono ?_;rintro e w4 ⟨rfl,hA4,ht4⟩;have HA4:=LH hA4;have HT4:=LH ht4;clear hA4 ht4;go_wp2_with fail;refine HEnd.out s0 e0 _ _ _ HFr.out (.inr HEa.out) (.inr HMb.out) (fun s hs=>?_) (fun e he=>?_) (HA4.out.cast (M':=Qua (Qrl (Qrl M s0) ((s0:Int)+((m:Int)+((a:Int)-(s0:Int))))) s0 ((e0:Int)-s0)) (E':=Qua (Qrl (Qrl E ((s0:Int)+((a:Int)-(s0:Int)))) ((s0:Int)+((m:Int)+((a:Int)-(s0:Int)))+((e0:Int)-((a:Int)+(m:Int))))) e0 s0) (by congr 1;omega) (by congr 1;omega)) (HT1.out.trans (HT2.out.trans (HT3.out.trans HT4.out)))
     ·unfold Qrl;rw [show (s0:Int)+((m:Int)+((a:Int)-(s0:Int)))=(a:Int)+m by omega,if_neg hs]
     ·unfold Qrl;rw [if_neg (by omega),show (s0:Int)+((a:Int)-(s0:Int))=a by omega]
theorem Qaq.owned2 {w:World} {base e n size cap:Nat} {a:Option Addr} {xs:List Value} (h:w.ownsRow base e size (.slice a n cap) n xs):Qaq w a xs:=by
 rcases h.2 with ⟨_,h0⟩|⟨g,cap',cur,hv,_⟩
 ·exact .inl (List.eq_nil_of_length_eq_zero (by have:=h.1;rw [h0] at this;simpa using this))
 ·refine .inr ⟨g,0,by simp at hv;exact hv.1,fun i v hi=>?_⟩;simp at hv
  obtain ⟨rfl,_⟩:=hv;have:=h.cells (g:=g) rfl i v hi;have ha:(⟨g,0,none⟩:Addr).add i=⟨g,0+i,none⟩:=by unfold Addr.add;split <;> simp_all
  rwa [ha] at this
theorem Jbn (l:List Bool) (a m:Int):(Qep l a m).1.length=l.length:=by
 unfold Qep
 split
 ·rfl
 ·split
  ·rfl
  ·rw [Qdp]
end
section
theorem wf_i64 {z:Int} (h:(Lit.int .i64 z).wf=true):-9223372036854775808≤z∧z≤9223372036854775807:=by
 simp [Lit.wf,IntKind.min,IntKind.max,IntKind.signed,IntKind.bits] at h;omega
end
section
open Go.ChangeShapes Go.WideShapes Go.Deep
section
variable {H:Type} {enc:TypeId × Value→H} {P:Program} {w:World} {base:Nat} {spare:Nat→Bool} {held:Bool}
theorem Qsz {t e:TypeId} {k:IntKind} {fuel:Nat} {v:Value} {y:DataW H × List MemPlace} (ht:P.underlying t=some (.slice e)) (he:P.underlying e=some (.int k)) (hc:P.cellsOf e=1)
  (h:DataW.trod enc P w base spare held fuel t [v]=some y) :
  ∃(a:Option Addr) (len cap:Nat) (zs:List Int),v=.slice a len cap∧zs.length=len∧Qaq w a (zs.map (Value.int k))∧(∀z∈zs,(Lit.int k z).wf=true)∧len≤cap∧cap≤maxLen:=by
 rcases open_ints ht he hc h with ⟨hcs,_⟩|⟨x,l,c,zs,hcs,_,hl,hm,hz,_,hcell,hwz⟩
 ·simp at hcs
  exact ⟨none,0,0,[],hcs,rfl,Qaq.nil _ _,by simp,Nat.le_refl _,Nat.zero_le _⟩
 ·simp at hcs
  have hzl:l≤zs.length:=by rw [hz];split <;> omega
  refine ⟨some x,l,c,zs.take l,hcs,by rw [List.length_take];omega,?_,fun z hz=>hwz z (List.mem_of_mem_take hz),hl,hm⟩
  by_cases h0:l=0
  ·subst h0;simp;exact Qaq.nil _ _
  ·obtain ⟨b,off,spot⟩:=x;have hs:=hcell 0 (by omega);have hspot:spot=none:=by simpa [Addr.add] using World.cell?_spot hs
   subst hspot;refine .inr ⟨b,off,rfl,fun i v hi=>?_⟩;rw [List.getElem?_map] at hi;obtain ⟨z,hz',rfl⟩:=Option.map_eq_some_iff.1 hi;rw [List.getElem?_take] at hz'
   split at hz'
   ·rename_i hlt
    have:=hcell i (by omega);have e:(⟨b,off,none⟩:Addr).add i=⟨b,off+i,none⟩:=by unfold Addr.add;split <;> simp_all
    rw [e,GD,hz'] at this;exact this
   ·simp at hz'
theorem Qzn {t e:TypeId} {k:IntKind} {B:Nat} (hB:∀z:Int,(Lit.int k z).wf=true→0≤z∧z<B) {fuel:Nat} {v:Value} {y:DataW H × List MemPlace} (ht:P.underlying t=some (.slice e)) (he:P.underlying e=some (.int k)) (hc:P.cellsOf e=1)
  (h:DataW.trod enc P w base spare held fuel t [v]=some y) :
  ∃(a:Option Addr) (len cap:Nat) (zs:List Nat),v=.slice a len cap∧zs.length=len∧Qaq w a (zs.map (fun n:Nat=>Value.int k (n:Int)))∧(∀z∈zs,z<B)∧len≤cap∧cap≤maxLen:=by
 obtain ⟨a,len,cap,zs,hv,hl,hcs,hw,h1,h2⟩:=Qsz ht he hc h;refine ⟨a,len,cap,zs.map Int.toNat,hv,by rw [List.length_map];exact hl,?_,?_,h1,h2⟩
 ·have e:(zs.map Int.toNat).map (fun n:Nat=>Value.int k (n:Int))=zs.map (Value.int k):=by
   rw [List.map_map]
   apply List.map_congr_left
   intro z hz;have:=hB z (hw z hz);simp only [Function.comp]
   rw [Int.toNat_of_nonneg this.1]
  rw [e];exact hcs
 ·intro z hz;rw [List.mem_map] at hz;obtain ⟨y,hy,rfl⟩:=hz;have:=hB y (hw y hy);omega
theorem Qsr {t e:TypeId} {fs:Array Field} {fuel:Nat} {v:Value} {y:DataW H × List MemPlace} (ht:P.underlying t=some (.slice e)) (he:P.underlying e=some (.struct fs))
  (hone:oneCellFields P fs=true) (hC:P.cellsOf e=fs.size) (hpos:0<fs.size) (h:DataW.trod enc P w base spare held fuel t [v]=some y) :
  ∃(a:Option Addr) (len cap:Nat) (n:Nat→Nat),v=.slice a len cap∧len≤cap∧cap≤maxLen∧(len=0∨∃b off,a=some ⟨b,off,none⟩∧∀i,i<len→∀(j:Nat) (f:Field),fs[j]?=some f→
   ∃(u:Value) (z:DataW H × List MemPlace),w.cell? ⟨b,off+(i*fs.size+j),none⟩=some u∧DataW.trod enc P w base spare held (n i) f.type [u]=some z):=by
 rcases open_slice ht h with ⟨hcs,_⟩|⟨a,len,cap,m,n,D,Pl,hcs,_,hl,hm,hmm,_,hi⟩
 ·simp at hcs
  exact ⟨none,0,0,fun _=>0,hcs,Nat.le_refl _,Nat.zero_le _,.inl rfl⟩
 ·simp at hcs
  have hlm:len≤m:=by rw [hmm];split <;> omega
  by_cases h0:len=0
  ·exact ⟨some a,len,cap,fun _=>0,hcs,hl,hm,.inl h0⟩
  have each:∀i,i<len→∃n',∀(j:Nat) (f:Field),fs[j]?=some f→∃(u:Value) (z:DataW H × List MemPlace),w.cell? (a.add (i*fs.size+j))=some u∧DataW.trod enc P w base spare held n' f.type [u]=some z:=by
   intro i hil;obtain ⟨cs',hc,ht'⟩:=hi i (by omega);rw [hC] at hc;obtain ⟨ys,n',_,_,_,hyl,hf⟩:=DataW.trod_struct he ht';obtain ⟨_,hcl,hat⟩:=World.cells?_some hc;refine ⟨n',fun j f hj=>?_⟩;obtain ⟨ho,hk⟩:=hone_of hone j f hj;have hjl:j<fs.size:=(Array.getElem?_eq_some_iff.1 hj).1;have hcell:=hat j hjl;have hv:cs'[j]?=some (cs'[j]'(by omega)):=GE (by omega);have h1:=hf j f hj;rw [ho,hk] at h1;have hone':(cs'.drop j).take 1=[cs'[j]'(by omega)]:=by
    rw [List.drop_eq_getElem_cons (by omega)]
    rfl
   rw [hone'] at h1;have hys:ys[j]?=some (ys[j]'(by omega)):=GE (by omega);refine ⟨_,_,?_,h1.trans hys⟩;rw [← Go.Deep.add_add,hcell,hv]
  obtain ⟨nf,hnf⟩:=choose_lt each;obtain ⟨f0,hf0⟩:∃f0,fs[0]?=some f0:=⟨fs[0],by simp [hpos]⟩
  obtain ⟨u,_,hu,_⟩:=hnf 0 (by omega) 0 f0 hf0;obtain ⟨b,off,spot⟩:=a;have hspot:spot=none:=by simpa [Addr.add] using World.cell?_spot hu
  subst hspot;refine ⟨_,len,cap,nf,hcs,hl,hm,.inr ⟨b,off,rfl,fun i hil j f hj=>?_⟩⟩;obtain ⟨u,z,hu,hz⟩:=hnf i hil j f hj;have e:(⟨b,off,none⟩:Addr).add (i*fs.size+j)=⟨b,off+(i*fs.size+j),none⟩:=by unfold Addr.add;split <;> simp_all
  rw [e] at hu;exact ⟨u,z,hu,hz⟩
end
def Qrh {α:Type} (f:α→List Value) (l:List α):List Value:=l.flatMap f
theorem Qjh {α:Type} {f:α→List Value} {n:Nat} (hf:∀x,(f x).length=n) (l:List α):(Qrh f l).length=l.length*n:=by
 induction l with
 | nil=>simp [Qrh]
 | cons x l ih=>unfold Qrh at *;rw [List.flatMap_cons,List.length_append,ih,hf,List.length_cons,Nat.succ_mul,Nat.add_comm]
theorem Qvs {α:Type} (f:α→List Value) (l m:List α):Qrh f (l ++ m)=Qrh f l ++ Qrh f m:=by simp [Qrh]
theorem Jbe {α:Type} {f:α→List Value} {n:Nat} (hf:∀x,(f x).length=n) (d:α) (l:List α) (i:Nat) (hi:i<l.length):∀j v,(f (l.getD i d))[j]?=some v→(Qrh f l)[i*n+j]?=some v:=by
 intro j v hj;have e:l=l.take i ++ (l[i] :: l.drop (i+1)):=by simp
 have hl:(Qrh f (l.take i)).length=i*n:=by rw [Qjh hf,List.length_take,Nat.min_eq_left (by omega)]
 have hg:l.getD i d=l[i]:=by simp [hi]
 rw [hg] at hj;have hj3:j<(f l[i]).length:=(List.getElem?_eq_some_iff.1 hj).1;rw [e,Qvs,List.getElem?_append_right (by omega),hl,show i*n+j-i*n=j by omega];unfold Qrh;rw [List.flatMap_cons,List.getElem?_append_left hj3];exact hj
theorem Qpf {α:Type} {f:α→List Value} {n:Nat} (hf:∀x,(f x).length=n) (hn:0<n) (d:α) {w:World} {a:Option Addr} {l:List α} (h:Qaq w a (Qrh f l)) {j:Nat} (hj:j<l.length) :
  ∃b off,a=some ⟨b,off,none⟩∧b<w.heap.size∧∀i v,(f (l.getD j d))[i]?=some v→w.cell? ⟨b,off+j*n+i,none⟩=some v:=by
 have hl:=Qjh hf l;have hlt:0<(Qrh f l).length:=by rw [hl];exact Nat.mul_pos (by omega) hn
 obtain ⟨b,off,rfl,hb,hc⟩:=h.at hlt;refine ⟨b,off,rfl,hb,fun i v hi=>?_⟩;rw [Nat.add_assoc];exact hc _ _ (Jbe hf d l j hj i v hi)
section
variable {H:Type} {enc:TypeId × Value→H} {P:Program} {w:World} {base:Nat} {spare:Nat→Bool} {held:Bool}
theorem Qxo {t e:TypeId} {size:Nat} {fuel:Nat} {v:Value} {y:DataW H × List MemPlace} (ht:P.underlying t=some (.slice e)) (hC:P.cellsOf e=size) (hpos:0<size) (h:DataW.trod enc P w base spare held fuel t [v]=some y) :
  ∃(a:Option Addr) (len cap m:Nat),v=.slice a len cap∧len≤cap∧cap≤maxLen∧(len=0∨∃b off,a=some ⟨b,off,none⟩∧∀i,i<len→
   ∃(us:List Value) (z:DataW H × List MemPlace),us.length=size∧(∀r u,us[r]?=some u→w.cell? ⟨b,off+i*size+r,none⟩=some u)∧DataW.trod enc P w base spare held m e us=some z):=by
 rcases open_slice ht h with ⟨hcs,_⟩|⟨a,len,cap,m,n,D,Pl,hcs,_,hl,hm,hmm,_,hi⟩
 ·simp at hcs
  exact ⟨none,0,0,0,hcs,Nat.le_refl _,Nat.zero_le _,.inl rfl⟩
 ·simp at hcs
  have hlm:len≤m:=by rw [hmm];split <;> omega
  by_cases h0:len=0
  ·exact ⟨some a,len,cap,0,hcs,hl,hm,.inl h0⟩
  have each:∀i,i<len→∃(us:List Value) (z:DataW H × List MemPlace),us.length=size∧(∀r u,us[r]?=some u→w.cell? ((a.add (i*size)).add r)=some u)∧DataW.trod enc P w base spare held n e us=some z:=by
   intro i hil;obtain ⟨cs',hc,ht'⟩:=hi i (by omega);rw [hC] at hc;obtain ⟨_,hcl,hat⟩:=World.cells?_some hc;have hz:∃z,DataW.trod enc P w base spare held n e cs'=some z:=⟨_,ht'⟩
   obtain ⟨z,hz⟩:=hz;refine ⟨cs',z,hcl,fun r u hr=>?_,hz⟩;have hrl:r<size:=by have:=(List.getElem?_eq_some_iff.1 hr).1;omega
   rw [hat r hrl,hr]
  obtain ⟨us,z,h1,h2,_⟩:=each 0 (by omega);obtain ⟨b,off,spot⟩:=a;have hus:us[0]?=some (us[0]'(by omega)):=GE (by omega);have h20:=h2 0 _ hus;have hspot:spot=none:=by
   have:=World.cell?_spot h20;simpa [Addr.add] using this
  subst hspot;refine ⟨_,len,cap,n,hcs,hl,hm,.inr ⟨b,off,rfl,fun i hil=>?_⟩⟩;obtain ⟨us,z,h1,h2,h3⟩:=each i hil;refine ⟨us,z,h1,fun r u hr=>?_,h3⟩;have:=h2 r u hr
  rwa [add_none',add_none'] at this
where
 add_none' (b off j:Nat):(⟨b,off,none⟩:Addr).add j=⟨b,off+j,none⟩:=by unfold Addr.add;split <;> simp_all
end
theorem Jf4 {α:Type} {f:α→List Value} {n:Nat} (hf:∀x,(f x).length=n) (hn:0<n) (d:α) {w:World} {b off len:Nat} {ok:α→Prop}
  (each:∀i,i<len→∃x:α,(∀r u,(f x)[r]?=some u→w.cell? ⟨b,off+i*n+r,none⟩=some u)∧ok x) :
  ∃l:List α,l.length=len∧Qaq w (some ⟨b,off,none⟩) (Qrh f l)∧∀x∈l,ok x:=by
 haveI:Inhabited α:=⟨d⟩
 obtain ⟨g,hg⟩:=choose_lt each;refine ⟨(List.range len).map g,by simp,.inr ⟨b,off,rfl,fun i v hi=>?_⟩,fun x hx=>?_⟩
 ·have hlen:i<len*n:=by
   have:=(List.getElem?_eq_some_iff.1 hi).1;rw [Qjh hf] at this;simpa using this
  obtain ⟨q,r,hr,rfl⟩:∃q r,r<n∧i=q*n+r:=⟨i/n,i % n,Nat.mod_lt _ hn,by rw [Nat.mul_comm];exact (Nat.div_add_mod i n).symm⟩
  have hq:q<len:=Decidable.byContradiction fun h=>by
   have h1:len≤q:=by omega
   have:=Nat.mul_le_mul_right n h1;omega
  have hfd:((List.range len).map g).getD q d=g q:=by simp [hq]
  have hx:(f (g q))[r]?=some ((f (g q))[r]'(by rw [hf];exact hr)):=GE (by rw [hf];exact hr);have:=Jbe hf d ((List.range len).map g) q (by simpa using hq) r _ (by rw [hfd];exact hx);rw [this] at hi
  cases hi
  rw [← Nat.add_assoc];exact (hg q hq).1 r _ hx
 ·rw [List.mem_map] at hx;obtain ⟨i,hi,rfl⟩:=hx;exact (hg i (by simpa using hi)).2
end
section
theorem Qz1 {w:World} {T:Tri} {n:Nat} {l:List Bool} (h:Qov w T n l) (hl:l.length≤1000000000000) (hn:n<1000000000000) (a m:Int) :
  Calls Tryz.prog 157 #[.pointer (some ⟨T.p,0,none⟩),.int .i64 a,.int .i64 m] w (Qed w T n l a m):=by
 by_cases hbad:a<1∨m<1∨(l.length:Int)≤a∨(l.length:Int)-a<m
 ·exact Jbs h hl a m hbad
 ·obtain ⟨a,rfl⟩:=Int.eq_ofNat_of_zero_le (show 0≤a by omega);obtain ⟨m,rfl⟩:=Int.eq_ofNat_of_zero_le (show 0≤m by omega);exact Jai h hl hn a m (by omega)
theorem Tri.two {T:Tri} {B:Nat} (h:∀b∈T.list,B≤b):∀k∈[T.s,T.e],B≤k:=fun k hk=>h k (by simp [Tri.list] at hk ⊢;rcases hk with rfl | rfl <;> simp)
structure Op2 where
 a:Int
 b:Int
def Op2.cs (o:Op2):List Value:=[.int .i64 o.a,.int .i64 o.b]
theorem Op2.len (o:Op2):o.cs.length=2:=rfl
def Qe1:List Op2→List Bool→List Bool × Int
 | [],l=>(l,0)
 | o :: r,l=>if (Qep l o.a o.b).2=0 then Qe1 r (Qep l o.a o.b).1 else (l,(Qep l o.a o.b).2)
theorem drop2 {s:List Op2} {k:Nat} (h:k<s.length):s.drop k=s.getD k ⟨0,0⟩ :: s.drop (k+1):=by
 rw [List.drop_eq_getElem_cons h,GD,GE h];rfl
def Qm2 (w : World) (r : List Bool × Int) : Ending → World → Prop := fun e w' => Below w.heap.size w w' ∧
  ((r.2 = 0 ∧ ∃ (T : Tri) (k : Nat), e = .returned (.tuple #[.pointer (some ⟨T.p, 0, none⟩), .int .i64 0]) ∧ Qov w' T k r.1 ∧ k ≤ 1000000 ∧ (∀ b ∈ T.list, w.heap.size ≤ b)) ∨
   (r.2 ≠ 0 ∧ e = .returned (.tuple #[.pointer none, .int .i64 r.2])))
theorem Jcn (L:Int) (hL:L≤1000000) (a:Option Addr) (m cap:Nat) (s:List Op2) (hm:s.length=m) (w:World) (hcs:Qaq w a (Qrh Op2.cs s)) (hmm:m≤1000000) :
  Calls Tryz.prog 113 #[.int .i64 L,.slice a m cap] w (Qm2 w (Qe1 s (List.replicate L.toNat false))):=by
 have HM:=LH hm;have HCS:=LH hcs;clear hm hcs;generalize hPo:Qm2 w (Qe1 s (List.replicate L.toNat false))=Post;have HPo:=LH hPo;clear hPo;go_enter Tryz.func113,Tryz.ntmps113;go_wp2_with fail;refine (Jdy L _ (by omega)).mono ?_;rintro e w1 ⟨T,rfl,hT,hi,hb1⟩;have HT:=LH hT;have HI1:=LH hi;have HB1:=LH hb1;obtain ⟨n,hn⟩:∃n,n=L.toNat:=⟨_,rfl⟩
 have hn1:n≤1000000:=by omega
 rw [← hn] at HI1 HPo;clear hT hi hb1 hn;go_wp2_with fail
 go_loopw [14] (fun i wr=>∃(k:Nat) (l:List Bool),k≤m∧i=.int .i64 (k:Int)∧l.length=n∧Qov wr T k l∧Below w.heap.size w wr∧Qe1 s (List.replicate n false)=Qe1 (s.drop k) l) (fun i _=>m-(intOf i).toNat)
 case atStart=>exact ⟨0,List.replicate n false,Nat.zero_le _,rfl,by simp,HI1.out,HB1.out,rfl⟩
 case round =>
  obtain ⟨k,l,hk,rfl,hln,hi,hb,hf⟩:=hrel;have HI:=LH hi;have HB:=LH hb;have HF:=LH hf;have HLn:=LH hln;clear hi hb hf hln
  by_cases hlt:k<m
  ·have hlt':(k:Int)<(m:Int):=by omega
   have hkl:k<s.length:=by rw [HM.out];exact hlt
   obtain ⟨b1,o1,rfl,hbl,hcell⟩:=Qpf Op2.len (by decide) (⟨0,0⟩:Op2) (HCS.out.below HB.out NR) hkl;have hdr:=drop2 hkl;generalize s.getD k ⟨0,0⟩=o at *;obtain ⟨oa,ob⟩:=o;have HF2:Hid (Qe1 s (List.replicate n false)=Qe1 (⟨oa,ob⟩ :: s.drop (k+1)) l):=LH (by rw [HF.out,hdr]);have e0:wr.cell? ⟨b1,o1+k*2,none⟩=some (.int .i64 oa):=hcell 0 _ rfl;have e1:wr.cell? ⟨b1,o1+k*2+1,none⟩=some (.int .i64 ob):=hcell 1 _ rfl;have HBa:=LH (HB.out.trans ((Qaf wr (.cells #[.int .i64 oa,.int .i64 ob] 259)).mono HB.out.size));have HIa:=LH (HI.out.below (Qaf wr (.cells #[.int .i64 oa,.int .i64 ob] 259)));have HMa:=LH (Mem.one wr #[.int .i64 oa,.int .i64 ob] 259);have hk1:k<1000000000000:=by omega
   clear hcell hkl hdr HF;go_upto_region 5 with fail;generalize wr.alloc _=wa at *;have d0:=HMa.out.cell 0 0 rfl rfl;have d1:=HMa.out.cell 0 1 rfl rfl;go_wp2_with fail;refine (Qz1 HIa.out (by rw [HLn.out];omega) hk1 oa ob).mono ?_;rintro e w3 ⟨rfl,hi3,ht3⟩;have HL3:Hid ((Qep l oa ob).1.length=n):=LH (by rw [Jbn];exact HLn.out);have HF3:Hid (Qe1 s (List.replicate n false)=if (Qep l oa ob).2=0 then Qe1 (s.drop (k+1)) (Qep l oa ob).1 else (l,(Qep l oa ob).2)):=HF2;have HB3:Hid (Below w.heap.size w w3):=LH (Qj7 HBa.out ht3 (Tri.two HT.out) NR);have HI3:=LH hi3;generalize Qep l oa ob=r at *;obtain ⟨l3,r2⟩:=r;dsimp only at HF3 HL3 HI3 ⊢;clear hi3 ht3 HF2
   by_cases hr:r2=0
   ·subst hr;rw [if_pos rfl] at HF3;go_wp2_with fail
    go_roundw
    case rel=>exact ⟨k+1,l3,by omega,Qb2 (by omega),HL3.out,HI3.out,HB3.out,HF3.out⟩
    case measure=>simp [intOf];omega
   ·rw [if_neg hr] at HF3;have hr':(r2 != 0)=true:=by simpa using hr
    have HEnd:Hid (Qm2 w (Qe1 s (List.replicate n false)) (.returned (.tuple #[.pointer none,.int .i64 r2])) w3):=LH (by rw [HF3.out];exact ⟨HB3.out,.inr ⟨hr,rfl⟩⟩);rw [HPo.out] at HEnd;clear hr;go_wp2_with fail;exact HEnd.out
  ·obtain rfl:k=m:=by omega
   have hlt':decide ((k:Int)<(k:Int))=false:=by simp
   have hdr:s.drop k=[]:=List.drop_of_length_le (by rw [HM.out];exact Nat.le_refl _);have HEnd:Hid (Qm2 w (Qe1 s (List.replicate n false)) (.returned (.tuple #[.pointer (some ⟨T.p,0,none⟩),.int .i64 0])) wr):=LH (by
    rw [HF.out,hdr];exact ⟨HB.out,.inl ⟨rfl,T,k,rfl,HI.out,hmm,HT.out⟩⟩)
   rw [HPo.out] at HEnd;clear hlt hdr;go_wp2_with fail;exact HEnd.out
def Qdg (l:List Hd) (b:Nat):Nat→Bool
 | 0=>true
 | n+1=>Qdg l b n && (n == 0 || decide (l.getD (b+n) default=⟨3,0,n⟩))
def Qa4 (l:List Hd) (b:Nat):Nat :=
 if l.length≤b∨(l.getD b default).k≠2∨(l.getD b default).l<1∨(l.length:Int)-b<(l.getD b default).l then 0
 else if Qdg l b (l.getD b default).l.toNat then (l.getD b default).l.toNat else 0
theorem Qn1 {l:List Hd} {b:Nat} : ∀ {n:Nat},Qdg l b n=true→∀i,1≤i→i<n→l.getD (b+i) default=⟨3,0,i⟩
 | 0,_,i,h1,h2=>by omega
 | n+1,h,i,h1,h2=>by
  rw [Qdg,Bool.and_eq_true] at h
  by_cases e:i=n
  ·subst e;have:=h.2;simp at this
   rcases this with h0 | h0
   ·omega
   ·exact h0
  ·exact Qn1 h.1 i h1 (by omega)
theorem Qsb {l:List Hd} {b:Nat} : ∀ {n:Nat},(∀i,1≤i→i<n→l.getD (b+i) default=⟨3,0,i⟩)→Qdg l b n=true
 | 0,_=>rfl
 | n+1,h=>by
  rw [Qdg,Qsb (fun i h1 h2=>h i h1 (by omega)),Bool.true_and]
  by_cases e:n=0
  ·simp [e]
  ·rw [h n (by omega) (by omega)];simp
def Qc9 (l:List Hd):Nat→Nat→Nat
 | 0,_=>0
 | f+1,b=>if l.length≤b then 0 else if (l.getD b default).k=2 then (if Qa4 l b=0 then b else Qc9 l f (b+Qa4 l b)) else if (l.getD b default).k=3 then b else Qc9 l f (b+1)
def Qg4 (ks:Nat→Bool) (B b:Nat):List Bool:=(List.range B).map fun i=>decide (1≤i) && decide (i<b) && ks i
theorem Qfw (ks:Nat→Bool) (B b:Nat):(Qg4 ks B b).length=B:=by simp [Qg4]
theorem Qef (ks:Nat→Bool) (B b i:Nat):fb (Qg4 ks B b) i=true↔i<B∧1≤i∧i<b∧ks i=true:=by
 unfold fb Qg4
 by_cases h:i<B
 ·simp [h,and_assoc]
 ·simp [h]
theorem Qrj {l:List Bool} {a m:Nat} (h:a+m≤l.length) (b:Nat):fb (Qk4 l a true m) b=true↔(a≤b∧b<a+m)∨fb l b=true:=by
 rw [Qmr _ _ _ _ h]
 by_cases c:a≤b∧b<a+m
 ·rw [if_pos c];simp [c]
 ·rw [if_neg c];simp [c]
theorem Jf9 {l:List Bool} {b:Nat} (h:¬fb l b=true):fb l b=false:=by simpa using h
def Qub (l:List Sp):List Op2:=l.map fun x=>⟨x.1,x.2⟩
theorem Jgm (l:List Sp):Qrh Op2.cs (Qub l)=Qpu l:=by
 induction l with
 | nil=>rfl
 | cons x l ih=>simp only [Qrh,Qub,Qpu,List.map_cons,List.flatMap_cons] at *;rw [ih];rfl
theorem Qgp (o:Op2) (r:List Op2) (l:List Bool):Qe1 (o :: r) l=if (Qep l o.a o.b).2=0 then Qe1 r (Qep l o.a o.b).1 else (l,(Qep l o.a o.b).2):=rfl
theorem Qh7 (s t:List Op2):∀l,(Qe1 s l).2=0→Qe1 (s ++ t) l=Qe1 t (Qe1 s l).1:=by
 induction s with
 | nil=>intro l _;rfl
 | cons o r ih =>
  intro l h;rw [List.cons_append];rw [Qgp] at h;rw [Qgp,Qgp]
  by_cases c:(Qep l o.a o.b).2=0
  ·rw [if_pos c] at h;rw [if_pos c,if_pos c];exact ih _ h
  ·rw [if_neg c] at h;exact absurd h c
theorem Qnq (l:List Bool) (s n:Nat):Qe1 [⟨s,n⟩] l=if (Qep l s n).2=0 then ((Qep l s n).1,0) else (l,(Qep l s n).2):=by
 unfold Qe1
 split
 ·rfl
 ·rfl
theorem Ql3 {l:List Bool} {a m:Nat} (h:∀b,a≤b→b<a+m→fb l b=false):Qby l a m=false:=by
 cases hq:Qby l a m with
 | false=>rfl
 | true =>
  obtain ⟨b,h1,h2,h3⟩:=Qme hq;rw [h b h1 h2] at h3
  cases h3
theorem Qzh {a b:List Bool} (hl:a.length=b.length) (h:∀i,fb a i=fb b i):a=b:=by
 apply List.ext_getElem hl
 intro i h1 h2;have:=h i;unfold fb at this;simpa [h1,h2] using this
theorem Jge (ks:Nat→Bool) (b:Nat):∀x∈Qc4 ks b,1≤x.1∧1≤x.2∧x.1+x.2≤b:=by
 induction b with
 | zero=>intro x hx;simp [Qc4] at hx
 | succ b ih =>
  by_cases h0:b=0
  ·subst h0;intro x hx;simp [Qc4] at hx
  intro x hx;rcases Qld ks b (by omega) with ⟨_,h2⟩|⟨_,_,_,l,s,n,h2,h3,h4⟩|⟨_,_,h2,h3⟩|⟨_,_,l,s,n,h2,h3,h4⟩
  ·rw [h2] at hx;have:=ih x hx;omega
  ·rw [h4,List.mem_append,List.mem_singleton] at hx;rcases hx with hx | rfl
   ·have:=ih x (by rw [h2];exact List.mem_append_left _ hx);omega
   ·have:=ih (s,n) (by rw [h2];simp);dsimp only at this ⊢;omega
  ·rw [h3,List.mem_singleton] at hx;subst hx;dsimp only;omega
  ·rw [h4,List.mem_append,List.mem_singleton] at hx;rcases hx with hx | rfl
   ·have:=ih x (by rw [h2];exact hx);omega
   ·dsimp only;omega
theorem Qmv {a b:List Bool} (hl:a.length=b.length) (h:∀i,fb a i=true↔fb b i=true):a=b:=Qzh hl fun i=>Bool.eq_iff_iff.2 (h i)
theorem Jbj (l':List Op2):∀(L:List Bool),(Qe1 l' L).2≠0→∀t,(Qe1 (l' ++ t) L).2≠0:=by
 induction l' with
 | nil=>intro L h;exact absurd rfl h
 | cons o r ih' =>
  intro L h t;rw [List.cons_append,Qgp];rw [Qgp] at h
  by_cases c:(Qep L o.a o.b).2=0
  ·rw [if_pos c] at h;rw [if_pos c];exact ih' _ h t
  ·rw [if_neg c];exact c
theorem Qw9 {ks:Nat→Bool} {B b:Nat} (hb:b+1≤B) (h0:b≠0) {T:List Bool} (hT:T.length=B) (hf:∀i,fb T i=true↔i<B∧1≤i∧i<b∧ks i=true) (hk:ks b=true) :
  Qep T b (1:Nat)=(Qg4 ks B (b+1),0):=by
 have hn:Qby T b 1=false:=Ql3 (fun i h1 h2=>Jf9 (fun h=>by have:=(hf i).1 h;omega));rw [Qmx ⟨by omega,Nat.le_refl _,by rw [hT];omega⟩ hn];refine Prod.ext_iff.2 ⟨Qmv (by rw [Qdp,hT,Qfw]) (fun i=>?_),rfl⟩;rw [Qrj (by rw [hT];omega),Qef,hf i]
 by_cases e:i=b
 ·subst e;exact ⟨fun _=>⟨by omega,by omega,by omega,hk⟩,fun _=>.inl ⟨Nat.le_refl _,by omega⟩⟩
 ·constructor
  ·rintro (h | ⟨h1,h2,h3,h4⟩)
   ·omega
   ·exact ⟨h1,h2,by omega,h4⟩
  ·rintro ⟨h1,h2,h3,h4⟩;exact .inr ⟨h1,h2,by omega,h4⟩
theorem Qqh (ks:Nat→Bool) (B:Nat):∀b,b≤B→Qe1 (Qub (Qc4 ks b)) (List.replicate B false)=(Qg4 ks B b,0)
 | 0,_=>by
  have:Qg4 ks B 0=List.replicate B false:=Qzh (by simp [Qg4]) (fun i=>by
   rw [Jf9 (by rw [Qef];omega)];unfold fb;simp only [GD,List.getElem?_replicate]
   split <;> rfl)
  rw [this];rfl
 | b+1,hb=>by
  have ih:=Qqh ks B b (by omega)
  by_cases h0:b=0
  ·subst h0;have e:Qg4 ks B (0+1)=Qg4 ks B 0:=Qmv (by simp [Qg4]) (fun i=>by rw [Qef,Qef];omega);rw [e,← ih];rfl
  rcases Qld ks b (by omega) with ⟨h1,h2⟩|⟨h1,_,_,l,s,n,h2,h3,h4⟩|⟨h1,_,h2,h3⟩|⟨h1,_,l,s,n,h2,h3,h4⟩
  ·rw [h2,ih];refine Prod.ext_iff.2 ⟨Qmv (by simp [Qg4]) (fun i=>?_),rfl⟩;rw [Qef,Qef];constructor
   ·rintro ⟨a1,a2,a3,a4⟩;exact ⟨a1,a2,by omega,a4⟩
   ·rintro ⟨a1,a2,a3,a4⟩;refine ⟨a1,a2,?_,a4⟩;have:i≠b:=by rintro rfl;rw [h1] at a4;cases a4
    omega
  ·have hx:=Jge ks b (s,n) (by rw [h2];simp);dsimp only at hx;rw [h2] at ih;rw [h4];have happ:∀x:Sp,Qub (l ++ [x])=Qub l ++ [⟨x.1,x.2⟩]:=fun x=>by simp [Qub]
   have hp:(Qe1 (Qub l) (List.replicate B false)).2=0:=by
    apply Decidable.byContradiction
    intro hne;have h5:=Jbj _ _ hne [⟨((s,n):Sp).1,((s,n):Sp).2⟩];rw [← happ,ih] at h5;exact h5 rfl
   rw [happ,Qh7 _ _ _ hp] at ih;rw [happ,Qh7 _ _ _ hp];dsimp only at ih ⊢;generalize (Qe1 (Qub l) (List.replicate B false)).1=T0 at *;rw [Qnq] at ih ⊢;have hg0:(Qep T0 s n).2=0:=by
    apply Decidable.byContradiction
    intro hne;rw [if_neg hne] at ih;exact hne (congrArg Prod.snd ih)
   rw [if_pos hg0] at ih;have hT:=congrArg Prod.fst ih;dsimp only at hT;have hcase:1≤s∧1≤n∧s+n≤T0.length∧Qby T0 s n=false:=by
    unfold Qep at hg0
    split at hg0
    ·simp at hg0
    ·rename_i hc
     split at hg0
     ·simp at hg0
     ·rename_i hf
      refine ⟨by omega,by omega,by omega,?_⟩;simpa using hf
   obtain ⟨c1,c2,c3,c4⟩:=hcase;rw [Qmx ⟨c1,c2,c3⟩ c4] at hT;dsimp only at hT;have hlen:T0.length=B:=by have:=congrArg List.length hT;rwa [Qdp,Qfw] at this
   have hTi:∀i,(s≤i∧i<s+n)∨fb T0 i=true↔i<B∧1≤i∧i<b∧ks i=true:=fun i=>by rw [← Qrj c3,hT,Qef]
   have hb0:fb T0 b=false:=Jf9 (fun h=>by have:=(hTi b).1 (.inr h);omega);have hn:Qby T0 s (n+1)=false:=Ql3 (fun i i1 i2=>by
    by_cases e:i=b
    ·subst e;exact hb0
    ·exact Qdc c4 i i1 (by omega))
   rw [Qmx ⟨c1,by omega,by omega⟩ hn];rw [if_pos rfl];refine Prod.ext_iff.2 ⟨Qmv (by rw [Qdp,Qfw,hlen]) (fun i=>?_),rfl⟩;dsimp only;rw [Qrj (by omega),Qef];constructor
   ·rintro (h | h)
    ·by_cases e:i=b
     ·subst e;exact ⟨by omega,by omega,by omega,h1⟩
     ·have:=(hTi i).1 (.inl (by omega));exact ⟨this.1,this.2.1,by omega,this.2.2.2⟩
    ·have:=(hTi i).1 (.inr h);exact ⟨this.1,this.2.1,by omega,this.2.2.2⟩
   ·rintro ⟨a1,a2,a3,a4⟩
    by_cases e:i=b
    ·exact .inl (by omega)
    ·rcases (hTi i).2 ⟨a1,a2,by omega,a4⟩ with h | h
     ·exact .inl (by omega)
     ·exact .inr h
  ·rw [h2] at ih;rw [h3];have hr:List.replicate B false=Qg4 ks B b:=congrArg Prod.fst ih;have h6:=Qw9 hb h0 (T:=List.replicate B false) (by simp) (fun i=>by rw [hr,Qef]) h1;show Qe1 [⟨(b:Nat),(1:Nat)⟩] _=_;rw [Qnq,h6,if_pos rfl]
  ·rw [← h2] at h4;rw [h4];have happ:Qub (Qc4 ks b ++ [(b,1)])=Qub (Qc4 ks b) ++ [⟨(b:Nat),(1:Nat)⟩]:=by simp [Qub]
   rw [happ,Qh7 _ _ _ (by rw [ih]),ih];have h6:=Qw9 hb h0 (Qfw ks B b) (fun i=>Qef _ _ _ _) h1;rw [Qnq,h6,if_pos rfl]
end
section
theorem Qxw {w:World} {p B:Nat} {F:Qb0} {l:List Hd} (h:Jf0 w p F B l) (hl:l.length≤1000) :
  Calls Tryz.prog 114 #[.pointer (some ⟨p,0,none⟩)] w (Qka 259 (Qeg l) w):=by
 obtain ⟨g,c,hp,hc,hr,hne⟩:=h.ex;have c2:w.cell? ⟨p,2,none⟩=some (.slice (some ⟨g,0,none⟩) l.length c):=cell_of_row _ _ 2 _ _ _ hp;generalize hP:Qka 259 (Qeg l) w=Post;have HP:=LH hP;have HR:=LH hr;clear hP hp hr h;go_enter Tryz.func114,Tryz.ntmps114;go_wp2_with fail;refine (Qyd (some ⟨g,0,none⟩) l.length c l rfl w HR.out.cells hl).mono ?_;rintro e w1 ⟨v,rfl,h1,h2⟩;have HZ:Hid (Post (.returned v) w1):=LH (by rw [← HP.out];exact ⟨v,rfl,h1,h2⟩);clear h1 h2;go_wp2_with fail;exact HZ.out
theorem Qxs (ws:List Nat) (m:Nat):(Qa8 ws m).live:=⟨rfl,rfl⟩
theorem Qqr (ws:List Nat) (m N:Nat):(Qa8 ws m).ok N:=by unfold Dev.ok Qa8;simp
theorem Qi5 {w:World} {base e size n:Nat} {v:Value} {vs:List Value} (h:w.ownsRow base e size v n vs):∃a c,v=.slice a n c∧Qaq w a vs:=by
 rcases h.2 with ⟨h0,h1⟩|⟨g,cap,cur,rfl,hb,hg,h1,h2,h3,h4⟩
 ·subst h0 h1;have:=h.1;simp at this
  subst this;exact ⟨none,0,rfl,Qaq.nil _ _⟩
 ·exact ⟨_,_,rfl,(Qd6 h).cells⟩
theorem Qw6:Qgg Tryz.prog 35 118 (.agg #[Qad 0,Qad 0,Qad 0,Qad 0,Qad 0,Qad 0,Qad 0,Qad 0]) 8 64:=Qgg.mk' Tryz.underlying35 (by kernel_rfl) rfl (by decide)
structure Jds where
 now:List Nat
 last:List Nat
 wait:List Nat
 dirty:List Bool
 pending:List Bool
 steps:Int
 fuse:Int
 dead:Bool
structure RAt (w:World) (v:Value) (m:Nat) (R:Jds):Prop where
 ex:∃an cn al cl aw cw ad cd ap cp,v=.agg #[.slice an m cn,.slice al m cl,.slice aw m cw,.slice ad m cd,.slice ap m cp,.int .i64 R.steps,.int .i64 R.fuse,.bool R.dead]∧
  Qaq w an (R.now.map Qad)∧Qaq w al (R.last.map Qad)∧Qaq w aw (R.wait.map Qad)∧Qaq w ad (R.dirty.map Value.bool)∧Qaq w ap (R.pending.map Value.bool)
 lenN:R.now.length=8*m
 lenL:R.last.length=8*m
 lenW:R.wait.length=8*m
 lenD:R.dirty.length=m
 lenP:R.pending.length=m
 u64N:∀z∈R.now,z<18446744073709551616
 u64L:∀z∈R.last,z<18446744073709551616
 u64W:∀z∈R.wait,z<18446744073709551616
theorem RAt.below {w w':World} {v:Value} {m B:Nat} {R:Jds} (h:RAt w v m R) (hb:Below B w w') (hB:w.heap.size≤B):RAt w' v m R:=by
 obtain ⟨an,cn,al,cl,aw,cw,ad,cd,ap,cp,rfl,h1,h2,h3,h4,h5⟩:=h.ex;exact { h with ex:=⟨an,cn,al,cl,aw,cw,ad,cd,ap,cp,rfl,h1.below hb hB,h2.below hb hB,h3.below hb hB,h4.below hb hB,h5.below hb hB⟩ }
def Qhw (ws:List Nat) (m:Nat):Jds:=⟨ws,ws,List.replicate (8*m) 0,List.replicate m false,List.replicate m false,0,-1,false⟩
theorem Qx6 (ws:List Nat) (k:Nat) (h:k % 8=0) (hk:k<ws.length):(Qeh (ws.take k) (8*(k/8))).map Qad ++ [Qad 0,Qad 0,Qad 0,Qad 0,Qad 0,Qad 0,Qad 0,Qad 0]=(Qeh (ws.take k) (8*(k/8+1))).map Qad:=by
 unfold Qeh;have:(ws.take k).length=k:=by simp;omega
 rw [this,show 8*(k/8)-k=0 by omega,show 8*(k/8+1)-k=8 by omega];simp
theorem Jcv (ws:List Nat) (k m:Nat) (hk:k<ws.length) (hm:k<8*m):((Qeh (ws.take k) (8*m)).map Qad).set k (Qad (ws.getD k 0))=(Qeh (ws.take (k+1)) (8*m)).map Qad:=by
 rw [← Qjb]
 congr 1
 unfold Qeh;have h1:(ws.take k).length=k:=by simp;omega
 have h2:(ws.take (k+1)).length=k+1:=by simp;omega
 rw [h1,h2,List.set_append_right _ _ (by omega),h1,Nat.sub_self,List.take_succ_eq_append_getElem hk,show 8*m-k=(8*m-(k+1))+1 by omega,List.replicate_succ,List.set_cons_zero,List.append_assoc];simp [hk]
theorem Qkt (ws:List Nat) (k m:Nat) (hk:k≤ws.length) (hm:k≤8*m):(Qeh (ws.take k) (8*m)).length=8*m:=by
 unfold Qeh;simp;omega
def Qfz:Array Value:=#[.slice none 0 0,.slice none 0 0,.slice none 0 0,.slice none 0 0,.slice none 0 0,.int .i64 0,.int .i64 0,.bool false]
theorem Qbk:Agg Tryz.prog 38 Qfz:=⟨⟨_,Tryz.underlying38,rfl⟩,by kernel_rfl⟩
structure Qzf (w W:World) (f:Array Value):Prop where
 at1:W.heap[w.heap.size+1]?=some (.cells f 38 (0,0))
 at0:W.heap[w.heap.size]?=some (.cells Qfz 38 (0,0))
 below:Below w.heap.size w W
 size:w.heap.size+2≤W.heap.size
theorem Qzf.set {w W:World} {f:Array Value} (h:Qzf w W f) (j:Nat) (v:Value):Qzf w (W.setCell ⟨w.heap.size+1,j,none⟩ v) (f.setIfInBounds j v) :=
 ⟨heap_setCell_same _ _ _ _ _ _ h.at1,(Below.heap_setCell _ _ _ _ (by simp)).trans h.at0,h.below.setCell (by simp) _,by simp [World.setCell];exact h.size⟩
theorem Qzf.grown {w W W':World} {f:Array Value} (h:Qzf w W f) (hg:W.grownBy W' none):Qzf w W' f:=by
 have hb:=Qbq hg NR;have:=h.size;exact ⟨(hb.block _ (by omega)).trans h.at1,(hb.block _ (by omega)).trans h.at0,h.below.trans (hb.mono h.below.size),Nat.le_trans h.size hb.size⟩
theorem Qzf.cell {w W:World} {f:Array Value} (h:Qzf w W f) (j:Nat) {v:Value} (hv:f[j]?=some v):W.cell? ⟨w.heap.size+1,j,none⟩=some v:=by
 rw [cell_of_row _ _ j _ _ _ h.at1];exact hv
theorem Qzf.frozen {w W:World} {f:Array Value} (h:Qzf w W f) (j:Nat):W.frozen? ⟨w.heap.size+1,j,none⟩=false:=frozen_of_row _ _ _ _ _ h.at1
theorem Qcx {w w':World} {base e size n:Nat} {v:Value} {xs:List Value} (h:w.ownsRow base e size v n xs) (hg:w.grownBy w' none):w'.ownsRow base e size v n xs:=Qcc h (Qbq hg NR) NR
theorem Qej {w:World} {base e size n n' c:Nat} {a:Option Addr} {xs:List Value} (h:w.ownsRow base e size (.slice a n' c) n xs) (x:Addr) (hx:a=some x):base≤x.block:=by
 rcases h.2 with ⟨h0,_⟩|⟨g,cap,cur,hv,hb,_⟩
 ·simp at h0;rw [h0.1] at hx;cases hx
 ·simp at hv;rw [hv.1] at hx;cases hx;exact hb
theorem Jc6 (a:Option Addr) (n cap:Nat) (ws:List Nat) (hn:ws.length=n) (w:World) (hc:Qaq w a (ws.map Qad)) (hl:n≤100000) (hu:∀z∈ws,z<18446744073709551616) :
  Calls Tryz.prog 11 #[.slice a n cap] w fun e w'=>∃v,e=.returned v∧RAt w' v ((n+7)/8) (Qhw (Qeh ws (8*((n+7)/8))) ((n+7)/8))∧(∀cs,v=.agg cs→∀(i:Nat) (x:Addr) (n c:Nat),cs[i]?=some (.slice (some x) n c)→w.heap.size≤x.block)∧Below w.heap.size w w':=by
 have HN:=LH hn;have HC:=LH hc;have HU:=LH hu;obtain ⟨w0,hw0⟩:∃w0,w0=(w.alloc (.cells #[.slice none 0 0,.slice none 0 0,.slice none 0 0,.slice none 0 0,.slice none 0 0,.int .i64 0,.int .i64 0,.bool false] 38)).alloc (.cells #[.slice none 0 0,.slice none 0 0,.slice none 0 0,.slice none 0 0,.slice none 0 0,.int .i64 0,.int .i64 0,.bool false] 38):=⟨_,rfl⟩
 have hb0:Below w.heap.size w w0:=by rw [hw0];exact (Qaf _ _).alloc (by simp) _
 have hg1:w0.heap[w.heap.size+1]?=some (.cells #[.slice none 0 0,.slice none 0 0,.slice none 0 0,.slice none 0 0,.slice none 0 0,.int .i64 0,.int .i64 0,.bool false] 38):=by
  rw [hw0];have:=heap_alloc_new (w.alloc (.cells #[.slice none 0 0,.slice none 0 0,.slice none 0 0,.slice none 0 0,.slice none 0 0,.int .i64 0,.int .i64 0,.bool false] 38)) (.cells #[.slice none 0 0,.slice none 0 0,.slice none 0 0,.slice none 0 0,.slice none 0 0,.int .i64 0,.int .i64 0,.bool false] 38);simpa using this
 have hg0:w0.heap[w.heap.size]?=some (.cells #[.slice none 0 0,.slice none 0 0,.slice none 0 0,.slice none 0 0,.slice none 0 0,.int .i64 0,.int .i64 0,.bool false] 38):=by
  rw [hw0,Below.heap_alloc _ _ _ (by simp)];exact heap_alloc_new _ _
 have HW0:=LH hw0;have HB0:=LH hb0;have HG0:=LH hg0;have HG1:=LH hg1;have hsz0:Hid (w0.heap.size=w.heap.size+2):=LH (by rw [hw0];simp);clear hn hc hu hw0 hb0 hg0 hg1;go_enter Tryz.func11,Tryz.ntmps11;go_wp2_with fail;rw [← HW0.out]
 go_loopw [4] (fun i wr=>∃k:Nat,k≤n∧i=.int .i64 k∧∃v,wr.heap[w.heap.size+1]?=some (.cells #[v,.slice none 0 0,.slice none 0 0,.slice none 0 0,.slice none 0 0,.int .i64 0,.int .i64 0,.bool false] 38)∧wr.heap[w.heap.size]?=some (.cells #[.slice none 0 0,.slice none 0 0,.slice none 0 0,.slice none 0 0,.slice none 0 0,.int .i64 0,.int .i64 0,.bool false] 38)∧wr.ownsRow (w.heap.size+2) 118 8 v ((k+7)/8) ((Qeh (ws.take k) (8*((k+7)/8))).map Qad)∧Below w.heap.size w wr∧w.heap.size+2≤wr.heap.size) (fun i _=>n-(intOf i).toNat)
 case atStart=>exact ⟨0,Nat.zero_le _,rfl,_,HG1.out,HG0.out,⟨rfl,.inl ⟨rfl,rfl⟩⟩,HB0.out,by rw [hsz0.out];exact Nat.le_refl _⟩
 case round =>
  obtain ⟨k,hk,rfl,v,hv1,hv0,ho,hb,hsz⟩:=hrel
  by_cases hlt:k<n
  ·have hlt':(k:Int)<(n:Int):=by omega
   obtain ⟨b,off,rfl,hcs⟩:∃b off,a=some ⟨b,off,none⟩∧wr.cell? ⟨b,off+k,none⟩=some (Qad (ws.getD k 0)):=by
    obtain ⟨b,off,rfl,hb',hcs⟩:=(HC.out.below hb NR).atMap 0 (show k<ws.length by rw [HN.out];exact hlt);exact ⟨b,off,rfl,hcs k (by rw [HN.out];exact hlt)⟩
   have HX:Hid (k<ws.length):=LH (by rw [HN.out];exact hlt);obtain ⟨a1,c1,rfl,hc1,hm1⟩:=Qbe ho;have e0:wr.cell? ⟨w.heap.size+1,0,none⟩=some (.slice a1 ((k+7)/8) c1):=cell_of_row _ _ 0 _ _ _ hv1;have f0:wr.frozen? ⟨w.heap.size+1,0,none⟩=false:=frozen_of_row _ _ _ _ _ hv1
   by_cases hz:k % 8=0
   ·have hz1:((k:Int) % 8 == 0)=true:=by simp;omega
    have hz2:(k % 8 == 0)=true:=by simpa using hz
    have HZ:=LH hz;have hm:(k+7)/8=k/8:=by omega
    rw [hm] at ho e0;have HO:=LH ho;have HV1:=LH hv1;have HV0:=LH hv0;have HB:=LH hb;have hk9:k/8<1000000000000:=by omega
    have hone:Hid (∀u∈(#[Qad 0,Qad 0,Qad 0,Qad 0,Qad 0,Qad 0,Qad 0,Qad 0]:Array Value).toList,u.oneCell'=true):=LH (by decide);have hbase:=LH hsz;clear ho hv1 hv0 hb hz hm hsz;go_wp2_with (at_builtin;refine Qbp (us:=#[Qad 0,Qad 0,Qad 0,Qad 0,Qad 0,Qad 0,Qad 0,Qad 0]) Qw6 HO.out rfl hone.out hk9 (by decide) hbase.out rfl rfl rfl (by simp [Act.eval]) ?_;intro g6 c6 w6 ho6 hg6 hc6 hm6 hb6 hl6;have HO6:=LH ho6;have HG6:=LH hg6;have HH6:=LH (And.intro (Qiu hg6 HO.out (by omega) HV1.out) (Qiu hg6 HO.out (by omega) HV0.out));have e6:=cell_of_row _ _ 0 _ _ _ HH6.out.1;have f6:w6.frozen? ⟨w.heap.size+1,0,none⟩=false:=frozen_of_row _ _ _ _ _ HH6.out.1;clear ho6 hg6)
    rw [Qx6 _ _ HZ.out HX.out] at HO6;obtain ⟨hv17,hv07⟩:=HH6.out;have hv1:=heap_setCell_same w6 (w.heap.size+1) 0 _ _ (.slice (some ⟨g6,0,none⟩) (k/8+1) c6) hv17;have hv0:(w6.setCell ⟨w.heap.size+1,0,none⟩ (.slice (some ⟨g6,0,none⟩) (k/8+1) c6)).heap[w.heap.size]?=_:=(Below.heap_setCell _ _ _ _ (by simp)).trans hv07;have hb7:Below w.heap.size w (w6.setCell ⟨w.heap.size+1,0,none⟩ (.slice (some ⟨g6,0,none⟩) (k/8+1) c6)):=(Qav HB.out HO.out HG6.out NR (by omega)).setCell (by simp) _;have ho7:=ownsRow_setCell_below HO6.out (a:=⟨w.heap.size+1,0,none⟩) (by simp) (.slice (some ⟨g6,0,none⟩) (k/8+1) c6);have hsz7:w.heap.size+2≤(w6.setCell ⟨w.heap.size+1,0,none⟩ (.slice (some ⟨g6,0,none⟩) (k/8+1) c6)).heap.size:=by simp [World.setCell];omega
    generalize w6.setCell ⟨w.heap.size+1,0,none⟩ (.slice (some ⟨g6,0,none⟩) (k/8+1) c6)=w7 at *;have E0:w7.cell? ⟨w.heap.size+1,0,none⟩=some (.slice (some ⟨g6,0,none⟩) (k/8+1) c6):=cell_of_row _ _ 0 _ _ _ hv1;have CW:w7.cell? ⟨b,off+k,none⟩=some (Qad (ws.getD k 0)):=by
     obtain ⟨b',off',he,hb',hcs'⟩:=(HC.out.below hb7 NR).atMap 0 HX.out;simp at he
     obtain ⟨rfl,rfl⟩:=he;exact hcs' k HX.out
    obtain ⟨xk,hxk⟩:∃xk,xk=ws.getD k 0:=⟨_,rfl⟩
    rw [← hxk] at CW;have HXK:=LH hxk;have HO7:=LH ho7;have HV1:=LH hv1;have HV0:=LH hv0;have HB7:=LH hb7;clear ho7 hv1 hv0 hb7 HO6 HG6 hv17 hv07 HH6 e6 f6 HO HB hcs e0 f0 hxk;have hM:k/8<k/8+1:=by omega
    have f1:=fun x=>Qab E0 x
    have f2:=fun x=>Qab CW x
    have hq3:0≤(k:Int)/8:=by omega
    have hq4:((k:Int)/8).toNat=k/8:=by omega
    have hq5:(k:Int)/8<(k:Int)/8+1:=by omega
    have hq6:0≤(k:Int) % 8:=by omega
    have hq7:((k:Int) % 8).toNat=k % 8:=by omega
    have hq8:(k:Int) % 8<8:=by omega
    have hq9:k % 8<8:=by omega
    have hq2:(k:Int).tmod 8=(k:Int) % 8:=Int.tmod_eq_emod_of_nonneg (by omega);have hq1:IntKind.i64.wrap ((k:Int)/8)=(k:Int)/8:=IntWalk.i64_in _ (by omega);refine Qb1 12 ?hn ?hm ?hB ?_
    case hn=>exact Nat.le_of_ble_eq_true rfl
    case hm=>kernel_rfl
    case hB=>kernel_rfl
    simp only [List.take_succ_cons,List.take_zero,List.drop_succ_cons,List.drop_zero]
    repeat (quiet_step (fail))
    refine wpQuiet_nil ?_;rintro w8 ⟨x,hx8⟩;have hb8:Below w7.heap.size w7 w8:=by rw [hx8];exact x.below
    have ho8:=Qcc HO7.out hb8 NR;have hr8:=Qd6 ho8;have hl8:k<((Qeh (ws.take k) (8*(k/8+1))).map Qad).length:=by rw [List.length_map,Qkt _ _ _ (Nat.le_of_lt HX.out) (by omega)];omega
    have e8:w8.cell? ⟨g6,k/8*8+k % 8,none⟩=some (((Qeh (ws.take k) (8*(k/8+1))).map Qad)[k]'hl8):=by
     rw [show k/8*8+k % 8=k by omega];exact hr8.cell (GE hl8)
    generalize (((Qeh (ws.take k) (8*(k/8+1))).map Qad)[k]'hl8)=old at e8;have f8:w8.frozen? ⟨g6,k/8*8+k % 8,none⟩=false:=hr8.frozen _;have hst:=ho8.stored k (Qad xk);rw [HXK.out,Jcv _ _ _ HX.out (by omega),← HXK.out] at hst;have HST:=LH hst;have HO8:=LH ho8;have hgl:w.heap.size+1<w7.heap.size:=by omega
    have hgg:w.heap.size+2≤g6:=by assumption
    have HV18:Hid (w8.heap[w.heap.size+1]?=_):=LH ((hb8.block _ hgl).trans HV1.out);have HV08:Hid (w8.heap[w.heap.size]?=_):=LH ((hb8.block _ (by omega)).trans HV0.out);have HB8:Hid (Below w.heap.size w w8):=LH (HB7.out.trans (hb8.mono HB7.out.size));have hs8:w.heap.size+2≤w8.heap.size:=by have:=hb8.size;omega
    clear hx8 hb8 ho8 hr8 hl8 hst f1 f2 hq1 hq2 hq3 hq4 hq5 hq6 hq7 hq8 hq9 E0 CW x;go_wp2_with fail;refine ⟨⟨k+1,by omega,Qb2 (by omega),.slice (some ⟨g6,0,none⟩) (k/8+1) c6,?_,?_,?_,?_,?_⟩,by simp [intOf];omega⟩
    ·exact (Below.heap_setCell _ _ _ _ (by simp;omega)).trans HV18.out
    ·exact (Below.heap_setCell _ _ _ _ (by simp;omega)).trans HV08.out
    ·rw [show (k+1+7)/8=k/8+1 by omega,show k/8*8+k % 8=k by omega];exact HST.out.1
    ·exact HB8.out.setCell (by simp;omega) _
    ·simp [World.setCell];exact hs8
   ·have hz1:((k:Int) % 8 == 0)=false:=by simp;omega
    have hz2:(k % 8 == 0)=false:=by simpa using hz
    have hm:(k+7)/8=k/8+1:=by omega
    rw [hm] at ho e0;obtain ⟨g6,c6,hge,hc6,hm6,hb6,hl6⟩:=Qik ho (by omega);simp at hge
    obtain ⟨rfl,rfl⟩:=hge;rw [hm] at hv1;obtain ⟨xk,hxk⟩:∃xk,xk=ws.getD k 0:=⟨_,rfl⟩
    rw [← hxk] at hcs;have HXK:=LH hxk;have E0:=e0;have CW:=hcs;have HO7:=LH ho;have HV1:=LH hv1;have HV0:=LH hv0;have HB7:=LH hb;clear ho hv1 hv0 hb hz hm e0 hcs f0 hxk;go_wp2_with fail;have hM:k/8<k/8+1:=by omega
    have f1:=fun x=>Qab E0 x
    have f2:=fun x=>Qab CW x
    have hq3:0≤(k:Int)/8:=by omega
    have hq4:((k:Int)/8).toNat=k/8:=by omega
    have hq5:(k:Int)/8<(k:Int)/8+1:=by omega
    have hq6:0≤(k:Int) % 8:=by omega
    have hq7:((k:Int) % 8).toNat=k % 8:=by omega
    have hq8:(k:Int) % 8<8:=by omega
    have hq9:k % 8<8:=by omega
    have hq2:(k:Int).tmod 8=(k:Int) % 8:=Int.tmod_eq_emod_of_nonneg (by omega);have hq1:IntKind.i64.wrap ((k:Int)/8)=(k:Int)/8:=IntWalk.i64_in _ (by omega);refine Qb1 12 ?hn ?hm ?hB ?_
    case hn=>exact Nat.le_of_ble_eq_true rfl
    case hm=>kernel_rfl
    case hB=>kernel_rfl
    simp only [List.take_succ_cons,List.take_zero,List.drop_succ_cons,List.drop_zero]
    repeat (quiet_step (fail))
    refine wpQuiet_nil ?_;rintro w8 ⟨x,hx8⟩;have hb8:Below wr.heap.size wr w8:=by rw [hx8];exact x.below
    have ho8:=Qcc HO7.out hb8 NR;have hr8:=Qd6 ho8;have hl8:k<((Qeh (ws.take k) (8*(k/8+1))).map Qad).length:=by rw [List.length_map,Qkt _ _ _ (Nat.le_of_lt HX.out) (by omega)];omega
    have e8:w8.cell? ⟨g6,k/8*8+k % 8,none⟩=some (((Qeh (ws.take k) (8*(k/8+1))).map Qad)[k]'hl8):=by
     rw [show k/8*8+k % 8=k by omega];exact hr8.cell (GE hl8)
    generalize (((Qeh (ws.take k) (8*(k/8+1))).map Qad)[k]'hl8)=old at e8;have f8:w8.frozen? ⟨g6,k/8*8+k % 8,none⟩=false:=hr8.frozen _;have hst:=ho8.stored k (Qad xk);rw [HXK.out,Jcv _ _ _ HX.out (by omega),← HXK.out] at hst;have HST:=LH hst;have HO8:=LH ho8;have hgl:w.heap.size+1<wr.heap.size:=by omega
    have hgg:w.heap.size+2≤g6:=by assumption
    have HV18:Hid (w8.heap[w.heap.size+1]?=_):=LH ((hb8.block _ hgl).trans HV1.out);have HV08:Hid (w8.heap[w.heap.size]?=_):=LH ((hb8.block _ (by omega)).trans HV0.out);have HB8:Hid (Below w.heap.size w w8):=LH (HB7.out.trans (hb8.mono HB7.out.size));have hs8:w.heap.size+2≤w8.heap.size:=by have:=hb8.size;omega
    clear hx8 hb8 ho8 hr8 hl8 hst f1 f2 hq1 hq2 hq3 hq4 hq5 hq6 hq7 hq8 hq9 E0 CW x;go_wp2_with fail;refine ⟨⟨k+1,by omega,Qb2 (by omega),.slice (some ⟨g6,0,none⟩) (k/8+1) c1,?_,?_,?_,?_,?_⟩,by simp [intOf];omega⟩
    ·exact (Below.heap_setCell _ _ _ _ (by simp;omega)).trans HV18.out
    ·exact (Below.heap_setCell _ _ _ _ (by simp;omega)).trans HV08.out
    ·rw [show (k+1+7)/8=k/8+1 by omega,show k/8*8+k % 8=k by omega];exact HST.out.1
    ·exact HB8.out.setCell (by simp;omega) _
    ·simp [World.setCell];exact hs8
  ·obtain rfl:k=n:=by omega
   have hlt':decide ((k:Int)<(k:Int))=false:=by simp
   have hlt2:decide (k<k)=false:=by simp
   rw [List.take_of_length_le (by rw [HN.out];exact Nat.le_refl _)] at ho;have hlen:(Qeh ws (8*((k+7)/8))).length=8*((k+7)/8):=by
    have:=Qkt ws k ((k+7)/8) (by rw [HN.out];exact Nat.le_refl _) (by omega)
    rwa [List.take_of_length_le (by rw [HN.out];exact Nat.le_refl _)] at this
   have hu2:∀z∈Qeh ws (8*((k+7)/8)),z<18446744073709551616:=fun z hz=>by
    simp only [Qeh,List.mem_append,List.mem_replicate] at hz
    rcases hz with hz | ⟨_,rfl⟩
    ·exact HU.out z hz
    ·decide
   have hMb:(k+7)/8≤20000:=by omega
   obtain ⟨M,hMe⟩:∃M,M=(k+7)/8:=⟨_,rfl⟩
   rw [← hMe] at ho hlen hu2 hMb;obtain ⟨L,hLe⟩:∃L,L=Qeh ws (8*M):=⟨_,rfl⟩
   rw [← hLe] at ho hlen hu2;have HRe:Hid (Qhw (Qeh ws (8*((k+7)/8))) ((k+7)/8)=Qhw L M∧(k+7)/8=M):=LH (by rw [← hMe,hLe];exact ⟨rfl,rfl⟩);clear hMe hLe;have HL:=LH hlen;have HU2:=LH hu2;obtain ⟨a1,c1,rfl,hc1,hm1⟩:=Qbe ho;have e0:wr.cell? ⟨w.heap.size+1,0,none⟩=some (.slice a1 M c1):=cell_of_row _ _ 0 _ _ _ hv1;have e1:wr.cell? ⟨w.heap.size+1,1,none⟩=some (.slice none 0 0):=cell_of_row _ _ 1 _ _ _ hv1;have HO:=LH ho;have HV1:=LH hv1;have HV0:=LH hv0;have HB:=LH hb;have hone:Hid (∀u∈L.map Qad,u.oneCell'=true):=LH (Qd9 _);have hM9:0+M<1000000000000:=by omega
   have hbase:=LH hsz;have hnil:Hid (wr.ownsRow (w.heap.size+2) 118 8 (.slice none 0 0) 0 []):=LH ⟨rfl,.inl ⟨rfl,rfl⟩⟩;clear ho hv1 hv0 hb hlen hu2 hsz;go_upto_region 9 with (at_builtin;refine Qke Qw6 hnil.out HO.out hone.out hM9 (by decide) hbase.out rfl rfl rfl rfl ?_;intro v2 w2 ho2 hg2;rw [Nat.zero_add,List.nil_append] at ho2;obtain ⟨a2,c2,rfl,hc2,hm2⟩:=Qbe ho2;have HO2:=LH ho2;have HG2:=LH hg2;have HH2:=LH (And.intro (Qiu hg2 hnil.out (by omega) HV1.out) (Qiu hg2 hnil.out (by omega) HV0.out));have e2:=cell_of_row _ _ 1 _ _ _ HH2.out.1;have f2:w2.frozen? ⟨w.heap.size+1,1,none⟩=false:=frozen_of_row _ _ _ _ _ HH2.out.1;clear ho2 hg2)
   have st2:Qzf w w2 _:=⟨HH2.out.1,HH2.out.2,Qav HB.out hnil.out HG2.out NR (by omega),Nat.le_trans hbase.out HG2.out.size⟩
   have st:=st2.set 1 (.slice a2 M c2);have hN:=ownsRow_setCell_below (Qcx HO.out HG2.out) (a:=⟨w.heap.size+1,1,none⟩) (by simp) (.slice a2 M c2);have hL:=ownsRow_setCell_below HO2.out (a:=⟨w.heap.size+1,1,none⟩) (by simp) (.slice a2 M c2);generalize w2.setCell ⟨w.heap.size+1,1,none⟩ (.slice a2 M c2)=W2 at *;have ST:=LH st;have HNo:=LH hN;have HLa:=LH hL;have e0':W2.cell? ⟨w.heap.size+1,0,none⟩=some (.slice a1 M c1):=st.cell 0 rfl;have hb2:=LH st.size;have hM8:M<1000000000000:=by omega
   have hz8:Hid (∀i,i<(#[Qad 0,Qad 0,Qad 0,Qad 0,Qad 0,Qad 0,Qad 0,Qad 0]:Array Value).size→(#[Qad 0,Qad 0,Qad 0,Qad 0,Qad 0,Qad 0,Qad 0,Qad 0]:Array Value)[i]?=some (Qad 0)):=LH (by intro i hi;simp at hi;rcases i with _ | _ | _ | _ | _ | _ | _ | _ | i <;> first | rfl | omega);clear st2 st hN hL e0 e1 e2 f2 HH2 HG2 HO2 HO HV1 HV0 HB hnil hbase;go_upto_region 10 with (at_make;refine Qec Qw6 (w.heap.size+2) M (z:=Qad 0) hz8.out rfl rfl hM8 (by decide) hb2.out rfl rfl rfl rfl ?_;intro w3 ho3 hg3;have S3:=LH (ST.out.grown hg3);have HO3:=LH ho3;have HG3:=LH hg3;have e3:w3.cell? ⟨w.heap.size+1,2,none⟩=some _:=S3.out.cell 2 rfl;have f3:=S3.out.frozen 2;clear ho3 hg3)
   have st:=S3.out.set 2 (.slice (some ⟨W2.heap.size,0,none⟩) M M);have hN:=ownsRow_setCell_below (Qcx HNo.out HG3.out) (a:=⟨w.heap.size+1,2,none⟩) (by simp) (.slice (some ⟨W2.heap.size,0,none⟩) M M);have hL:=ownsRow_setCell_below (Qcx HLa.out HG3.out) (a:=⟨w.heap.size+1,2,none⟩) (by simp) (.slice (some ⟨W2.heap.size,0,none⟩) M M);have hW:=ownsRow_setCell_below HO3.out (a:=⟨w.heap.size+1,2,none⟩) (by simp) (.slice (some ⟨W2.heap.size,0,none⟩) M M);generalize w3.setCell ⟨w.heap.size+1,2,none⟩ (.slice (some ⟨W2.heap.size,0,none⟩) M M)=W3 at *;clear ST HNo HLa e3 f3 e0' S3 HO3 HG3 hb2;generalize W2.heap.size=g3 at *;have ST:=LH st;have HNo:=LH hN;have HLa:=LH hL;have HWa:=LH hW;have e0':W3.cell? ⟨w.heap.size+1,0,none⟩=some (.slice a1 M c1):=st.cell 0 rfl;have hb3:=LH st.size;clear st hN hL hW;go_upto_region 11 with (at_make;refine Qc1 Qte (w.heap.size+2) M rfl rfl rfl hM8 (by decide) hb3.out rfl rfl rfl rfl ?_;intro w4 ho4 hg4;have S4:=LH (ST.out.grown hg4);have HO4:=LH ho4;have HG4:=LH hg4;have e4:w4.cell? ⟨w.heap.size+1,3,none⟩=some _:=S4.out.cell 3 rfl;have f4:=S4.out.frozen 3;clear ho4 hg4)
   have st:=S4.out.set 3 (.slice (some ⟨W3.heap.size,0,none⟩) M M);have lHNo:=ownsRow_setCell_below (Qcx HNo.out HG4.out) (a:=⟨w.heap.size+1,3,none⟩) (by simp) (.slice (some ⟨W3.heap.size,0,none⟩) M M);have lHLa:=ownsRow_setCell_below (Qcx HLa.out HG4.out) (a:=⟨w.heap.size+1,3,none⟩) (by simp) (.slice (some ⟨W3.heap.size,0,none⟩) M M);have lHWa:=ownsRow_setCell_below (Qcx HWa.out HG4.out) (a:=⟨w.heap.size+1,3,none⟩) (by simp) (.slice (some ⟨W3.heap.size,0,none⟩) M M);have lnew:=ownsRow_setCell_below HO4.out (a:=⟨w.heap.size+1,3,none⟩) (by simp) (.slice (some ⟨W3.heap.size,0,none⟩) M M);generalize w4.setCell ⟨w.heap.size+1,3,none⟩ (.slice (some ⟨W3.heap.size,0,none⟩) M M)=W4 at *;clear ST HNo HLa HWa e4 f4 e0' S4 HO4 HG4 hb3;generalize W3.heap.size=g4 at *;have ST:=LH st;have HNo:=LH lHNo;have HLa:=LH lHLa;have HWa:=LH lHWa;have HDi:=LH lnew;have e0':W4.cell? ⟨w.heap.size+1,0,none⟩=some (.slice a1 M c1):=st.cell 0 rfl;have hb4:=LH st.size;clear st lHNo lHLa lHWa lnew;go_upto_region 12 with (at_make;refine Qc1 Qte (w.heap.size+2) M rfl rfl rfl hM8 (by decide) hb4.out rfl rfl rfl rfl ?_;intro w5 ho5 hg5;have S5:=LH (ST.out.grown hg5);have HO5:=LH ho5;have HG5:=LH hg5;have e5:w5.cell? ⟨w.heap.size+1,4,none⟩=some _:=S5.out.cell 4 rfl;have f5:=S5.out.frozen 4;clear ho5 hg5)
   have st:=S5.out.set 4 (.slice (some ⟨W4.heap.size,0,none⟩) M M);have lHNo:=ownsRow_setCell_below (Qcx HNo.out HG5.out) (a:=⟨w.heap.size+1,4,none⟩) (by simp) (.slice (some ⟨W4.heap.size,0,none⟩) M M);have lHLa:=ownsRow_setCell_below (Qcx HLa.out HG5.out) (a:=⟨w.heap.size+1,4,none⟩) (by simp) (.slice (some ⟨W4.heap.size,0,none⟩) M M);have lHWa:=ownsRow_setCell_below (Qcx HWa.out HG5.out) (a:=⟨w.heap.size+1,4,none⟩) (by simp) (.slice (some ⟨W4.heap.size,0,none⟩) M M);have lHDi:=ownsRow_setCell_below (Qcx HDi.out HG5.out) (a:=⟨w.heap.size+1,4,none⟩) (by simp) (.slice (some ⟨W4.heap.size,0,none⟩) M M);have lnew:=ownsRow_setCell_below HO5.out (a:=⟨w.heap.size+1,4,none⟩) (by simp) (.slice (some ⟨W4.heap.size,0,none⟩) M M);generalize w5.setCell ⟨w.heap.size+1,4,none⟩ (.slice (some ⟨W4.heap.size,0,none⟩) M M)=W5 at *;clear ST HNo HLa HWa HDi e5 f5 e0' S5 HO5 HG5 hb4;generalize W4.heap.size=g5 at *;have ST:=LH st;have HNo:=LH lHNo;have HLa:=LH lHLa;have HWa:=LH lHWa;have HDi:=LH lHDi;have HPe:=LH lnew;have e0':W5.cell? ⟨w.heap.size+1,0,none⟩=some (.slice a1 M c1):=st.cell 0 rfl;have hb5:=LH st.size;clear st lHNo lHLa lHWa lHDi lnew;have e6:W5.cell? ⟨w.heap.size+1,6,none⟩=some _:=ST.out.cell 6 rfl;have f6:=ST.out.frozen 6;go_upto_region 13 with fail;have st:=ST.out.set 6 (.int .i64 (-1));have lHNo:=ownsRow_setCell_below HNo.out (a:=⟨w.heap.size+1,6,none⟩) (by simp) (.int .i64 (-1));have lHLa:=ownsRow_setCell_below HLa.out (a:=⟨w.heap.size+1,6,none⟩) (by simp) (.int .i64 (-1));have lHWa:=ownsRow_setCell_below HWa.out (a:=⟨w.heap.size+1,6,none⟩) (by simp) (.int .i64 (-1))
   have lHDi:=ownsRow_setCell_below HDi.out (a:=⟨w.heap.size+1,6,none⟩) (by simp) (.int .i64 (-1));have lHPe:=ownsRow_setCell_below HPe.out (a:=⟨w.heap.size+1,6,none⟩) (by simp) (.int .i64 (-1));generalize W5.setCell ⟨w.heap.size+1,6,none⟩ (.int .i64 (-1))=W6 at *;clear ST HNo HLa HWa HDi HPe e6 f6 e0' hb5;have HNo:=LH lHNo;have HLa:=LH lHLa;have HWa:=LH lHWa;have HDi:=LH lHDi;have HPe:=LH lHPe;have hcs:Hid (∀i v,[Value.slice a1 M c1,.slice a2 M c2,.slice (some ⟨g3,0,none⟩) M M,.slice (some ⟨g4,0,none⟩) M M,.slice (some ⟨g5,0,none⟩) M M,.int .i64 0,.int .i64 (-1),.bool false][i]?=some v→W6.cell? ⟨w.heap.size+1,0+i,none⟩=some v):=LH (fun i v hi=>by
    rw [Nat.zero_add];exact st.cell i (by simpa using hi))
   have HA0:=LH st.at0;have hone8:Hid ((#[.slice a1 M c1,.slice a2 M c2,.slice (some ⟨g3,0,none⟩) M M,.slice (some ⟨g4,0,none⟩) M M,.slice (some ⟨g5,0,none⟩) M M,.int .i64 0,.int .i64 (-1),.bool false]:Array Value).all (·.oneCell')=true):=LH (by simp [Value.oneCell']);have HBl:=LH st.below;have HSz:=LH st.size;clear st lHNo lHLa lHWa lHDi lHPe;go_wp2_with (first
    | (refine Qcf Qbk [Value.slice a1 M c1,.slice a2 M c2,.slice (some ⟨g3,0,none⟩) M M,.slice (some ⟨g4,0,none⟩) M M,.slice (some ⟨g5,0,none⟩) M M,.int .i64 0,.int .i64 (-1),.bool false] hcs.out rfl rfl rfl rfl ?_)
    | (refine Qa1 Qbk (cs:=#[.slice a1 M c1,.slice a2 M c2,.slice (some ⟨g3,0,none⟩) M M,.slice (some ⟨g4,0,none⟩) M M,.slice (some ⟨g5,0,none⟩) M M,.int .i64 0,.int .i64 (-1),.bool false]) HA0.out rfl rfl hone8.out rfl rfl rfl rfl ?_;intro w9 h9 g9 s9;have H9:=LH h9;have G9:=LH g9;have S9:=LH s9;clear h9 g9 s9))
   have hk:∀ {e size:Nat} {v:Value} {xs:List Value},W6.ownsRow (w.heap.size+2) e size v M xs→∃a c,v=.slice a M c∧Qaq w9 a xs:=fun {e size v xs} h=>by
    obtain ⟨a,c,rfl,hcl⟩:=Qi5 h;refine ⟨a,c,rfl,?_⟩;rcases h.2 with ⟨h0,h1⟩|⟨g,cap,cur,hv,hb,hg,_⟩
    ·have:=h.1;rw [h1] at this;simp at this
     exact .inl this
    ·simp at hv
     obtain ⟨rfl,rfl⟩:=hv;rcases hcl with h | ⟨b',off',he,h⟩
     ·exact .inl h
     ·simp at he
      obtain ⟨rfl,rfl⟩:=he;refine .inr ⟨g,0,rfl,fun i v hi=>?_⟩;rw [World.cell?_of_block (w:=W6) (G9.out.block g (Array.getElem?_eq_some_iff.1 hg).1 (by simp;omega))];exact h i v hi
   obtain ⟨_,_,q1,k1⟩:=hk HNo.out;obtain ⟨_,_,q2,k2⟩:=hk HLa.out;obtain ⟨_,_,q3,k3⟩:=hk HWa.out;obtain ⟨_,_,q4,k4⟩:=hk HDi.out;obtain ⟨_,_,q5,k5⟩:=hk HPe.out
   cases q1;cases q2;cases q3;cases q4;cases q5
   refine bodyPost_ret (v:=.agg #[.slice a1 M c1,.slice a2 M c2,.slice (some ⟨g3,0,none⟩) M M,.slice (some ⟨g4,0,none⟩) M M,.slice (some ⟨g5,0,none⟩) M M,.int .i64 0,.int .i64 (-1),.bool false]) (results_cell_row rfl _ _ _ _ _ _ _ rfl H9.out Tryz.underlying38 rfl (by kernel_rfl)) rfl ⟨_,rfl,?_,?_,?_⟩;rw [HRe.out.1,HRe.out.2];refine ⟨⟨_,_,_,_,_,_,_,_,_,_,rfl,k1,k2,?_,?_,?_⟩,HL.out,HL.out,?_,?_,?_,HU2.out,HU2.out,?_⟩
   ·rw [show (Qhw L M).wait=List.replicate (8*M) 0 from rfl,List.map_replicate,Nat.mul_comm];exact k3
   ·rw [show (Qhw L M).dirty=List.replicate M false from rfl,List.map_replicate];exact k4
   ·rw [show (Qhw L M).pending=List.replicate M false from rfl,List.map_replicate];exact k5
   ·simp [Qhw]
   ·simp [Qhw]
   ·simp [Qhw]
   ·intro z hz;simp [Qhw] at hz;omega
   ·intro cs hcs i x n' c' hi;have l1:=Qej HNo.out x;have l2:=Qej HLa.out x;have l3:=Qej HWa.out x;have l4:=Qej HDi.out x;have l5:=Qej HPe.out x;simp only [Value.agg.injEq] at hcs
    subst hcs;rcases i with _ | _ | _ | _ | _ | _ | _ | _ | i
    ·simp at hi;have:=l1 hi.1;omega
    ·simp at hi;have:=l2 hi.1;omega
    ·simp at hi;have:=l3 (by rw [hi.1]);omega
    ·simp at hi;have:=l4 (by rw [hi.1]);omega
    ·simp at hi;have:=l5 (by rw [hi.1]);omega
    all_goals simp at hi
   ·refine HBl.out.trans (⟨G9.out.os,G9.out.tape,G9.out.output,G9.out.size,fun k' hk'=>G9.out.block k' (by have:=HBl.out.size;omega) (by simp;omega)⟩)
theorem Qt8 {l:List Hd} {b i n:Nat} (h1:1≤i) (h2:i<n) (h:l.getD (b+i) default≠⟨3,0,i⟩):Qdg l b n=false:=by
 cases hq:Qdg l b n with
 | false=>rfl
 | true=>exact absurd (Qn1 hq i h1 h2) h
def Qe4 (l:List Hd) (b:Nat) (w:World):Ending→World→Prop:=fun e w'=>e=.returned (.tuple #[.int .i64 ((Qa4 l b:Nat):Int),.bool (decide (Qa4 l b≠0))])∧Below w.heap.size w w'
theorem Qy5 {l:List Hd} {b:Nat} {w w':World} (h:Qa4 l b=0) (hb:Below w.heap.size w w'):Qe4 l b w (.returned (.tuple #[.int .i64 0,.bool false])) w':=by
 unfold Qe4;rw [h];exact ⟨rfl,hb⟩
theorem Qx5 {l:List Hd} {b:Nat} {w w':World} {z:Int} (h:(Qa4 l b:Int)=z) (hz:1≤z) (hb:Below w.heap.size w w'):Qe4 l b w (.returned (.tuple #[.int .i64 z,.bool true])) w':=by
 unfold Qe4;rw [h,decide_eq_true (by omega:Qa4 l b≠0)];exact ⟨rfl,hb⟩
theorem Qlf (a:Option Addr) (n cap:Nat) (l:List Hd) (hn:l.length=n) (w:World) (hc:Qaq w a (Qbt l)) (hl:n≤1000) (b:Nat) (hb:b<n) :
  Calls Tryz.prog 110 #[.slice a n cap,.int .i64 (b:Int)] w (Qe4 l b w):=by
 have hbl:b<l.length:=by rw [hn];exact hb
 obtain ⟨k,c,z,he⟩:=Qe5 l b;have HW:Hid (Qa4 l b=if k≠2∨z<1∨(n:Int)-b<z then 0 else if Qdg l b z.toNat then z.toNat else 0):=LH (by
  unfold Qa4;rw [he,hn];dsimp only
  by_cases h1:k≠2∨z<1∨(n:Int)-b<z
  ·rw [if_pos (.inr h1),if_pos h1]
  ·rw [if_neg h1,if_neg (by rintro (h | h);omega;exact h1 h)])
 obtain ⟨b1,o1,rfl,d0,d1,d2⟩:=Qcq hc hbl he;have HC:=LH hc;have HN:=LH hn;have H0:Hid (Qa4 l b=0→∀w',Below w.heap.size w w'→Qe4 l b w (.returned (.tuple #[.int .i64 0,.bool false])) w'):=LH (fun h w'=>Qy5 h);have H1:Hid ((Qa4 l b:Int)=z→1≤z→∀w',Below w.heap.size w w'→Qe4 l b w (.returned (.tuple #[.int .i64 z,.bool true])) w'):=LH (fun h hz w'=>Qx5 h hz);generalize Qe4 l b w=Post at *;clear hc hn he d1;have hbn:(b:Int)<(n:Int):=by omega
 by_cases hk:k=2
 case neg =>
  have HE:=LH (H0.out (by rw [HW.out,if_pos (.inl hk)]));have hk':(k != 2)=true:=by simpa using hk
  clear hk;go_enter Tryz.func110,Tryz.ntmps110;go_wp2_with fail;exact HE.out _ (Below.refl _ _)
 subst hk
 by_cases hz:z<1
 ·have HE:=LH (H0.out (by rw [HW.out,if_pos (.inr (.inl hz))]));go_enter Tryz.func110,Tryz.ntmps110;go_wp2_with fail;exact HE.out _ (Below.refl _ _)
 by_cases hz2:(n:Int)-b<z
 ·have HE:=LH (H0.out (by rw [HW.out,if_pos (.inr (.inr hz2))]));have hw1:IntKind.i64.wrap ((n:Int)-(b:Int))=(n:Int)-(b:Int):=IntWalk.i64_in _ (by omega);go_enter Tryz.func110,Tryz.ntmps110;go_wp2_with fail;exact HE.out _ (Below.refl _ _)
 obtain ⟨m,rfl⟩:=Int.eq_ofNat_of_zero_le (show 0≤z by omega);have hm1:1≤m:=by omega
 have hmn:b+m≤n:=by omega
 have HW2:Hid (Qa4 l b=if Qdg l b m then m else 0):=LH (by rw [HW.out,if_neg (by rintro (h | h | h);exact h rfl;omega;omega)];rfl);have hw1:IntKind.i64.wrap ((n:Int)-(b:Int))=(n:Int)-(b:Int):=IntWalk.i64_in _ (by omega);clear HW hz hz2;go_enter Tryz.func110,Tryz.ntmps110;go_wp2_with fail
 go_loopw [7] (fun i wr=>∃j:Nat,1≤j∧j≤m∧i=.int .i64 (j:Int)∧Qdg l b j=true∧Below w.heap.size w wr) (fun i _=>m-(intOf i).toNat)
 case atStart=>exact ⟨1,Nat.le_refl _,hm1,rfl,by simp [Qdg],Below.refl _ _⟩
 case round =>
  obtain ⟨j,hj1,hjm,rfl,hco,hbe⟩:=hrel;have HCo:=LH hco;have HB:=LH hbe;clear hco hbe
  by_cases hlt:j<m
  ·have hlt':(j:Int)<(m:Int):=by omega
   have hin:b+j<n:=by omega
   have hin':(b:Int)+(j:Int)<(n:Int):=by omega
   obtain ⟨k2,c2,z2,he2⟩:=Qe5 l (b+j);obtain ⟨b2,o2,hee,e0,e1,e2⟩:=Qcq (HC.out.below HB.out NR) (by rw [HN.out];exact hin) he2
   cases hee
   have hto:((b:Int)+(j:Int)).toNat=b+j:=by omega
   have HE2:=LH he2;clear he2
   by_cases hq:(⟨k2,c2,z2⟩:Hd)=⟨3,0,(j:Int)⟩
   ·have heq:∀w',(Op.equalIn 10000 107 (.agg #[.int .i64 k2,.int .i64 c2,.int .i64 z2]) (.agg #[.int .i64 3,.int .i64 0,.int .i64 (j:Int)])).run Tryz.prog w'=.ok true w':=fun w'=>Qk9 w' _ _ _ _ _ _ _ (by rw [← Qi7];simp [hq])
    have hgd:=Jii;have HCo2:Hid (Qdg l b (j+1)=true):=LH (by rw [Qdg,HCo.out,HE2.out,hq];simp);clear hq;go_wp2_with fail;exact ⟨⟨j+1,by omega,by omega,Qb2 (by omega),HCo2.out,HB.out⟩,by simp [intOf];omega⟩
   ·have heq:∀w',(Op.equalIn 10000 107 (.agg #[.int .i64 k2,.int .i64 c2,.int .i64 z2]) (.agg #[.int .i64 3,.int .i64 0,.int .i64 (j:Int)])).run Tryz.prog w'=.ok false w':=fun w'=>Qk9 w' _ _ _ _ _ _ _ (by rw [← Qi7];simp [hq])
    have hgd:=Jii;have HE:=LH (H0.out (by rw [HW2.out,Qt8 hj1 hlt (by rw [HE2.out];exact hq)];rfl));clear hq;go_wp2_with fail;exact HE.out _ HB.out
  ·obtain rfl:j=m:=by omega
   have hlt':decide ((j:Int)<(j:Int))=false:=by simp
   have HE:=LH (H1.out (by rw [HW2.out,HCo.out,if_pos rfl]) (by omega));go_wp2_with fail;exact HE.out _ HB.out
theorem Ja6 (l:List Hd) (b:Nat) (h:Qa4 l b≠0):b+Qa4 l b≤l.length:=by
 unfold Qa4 at h ⊢
 by_cases hc:l.length≤b∨(l.getD b default).k≠2∨(l.getD b default).l<1∨(l.length:Int)-b<(l.getD b default).l
 ·rw [if_pos hc] at h;exact absurd rfl h
 ·rw [if_neg hc] at h ⊢
  by_cases hd:Qdg l b (l.getD b default).l.toNat=true
  ·rw [if_pos hd];omega
  ·rw [if_neg hd] at h;exact absurd rfl h
def Qg0 (l:List Hd) (w:World):Ending→World→Prop:=fun e w'=>e=.returned (.tuple #[.int .i64 ((Qc9 l l.length 1:Nat):Int),.bool (decide (Qc9 l l.length 1=0))])∧Below w.heap.size w w'
theorem Qxq (a:Option Addr) (n cap:Nat) (l:List Hd) (hn:l.length=n) (w:World) (hc:Qaq w a (Qbt l)) (hl:n≤1000) :
  Calls Tryz.prog 112 #[.slice a n cap] w (Qg0 l w):=by
 have HC:=LH hc;have HN:=LH hn;have H0:Hid (Qc9 l n 1=0→∀w',Below w.heap.size w w'→Qg0 l w (.returned (.tuple #[.int .i64 0,.bool true])) w'):=LH (fun h w' hb=>by
  unfold Qg0;rw [hn,h];exact ⟨rfl,hb⟩)
 have H1:Hid (∀b:Nat,Qc9 l n 1=b→b≠0→∀w',Below w.heap.size w w'→Qg0 l w (.returned (.tuple #[.int .i64 (b:Int),.bool false])) w'):=LH (fun b h hne w' hb=>by
  unfold Qg0;rw [hn,h,decide_eq_false hne];exact ⟨rfl,hb⟩)
 generalize Qg0 l w=Post at *;clear hc hn;go_enter Tryz.func112,Tryz.ntmps112;go_wp2_with fail
 go_loopw [4] (fun i wr=>∃b f:Nat,1≤b∧b≤n+1∧n≤b+f-1∧i=.int .i64 (b:Int)∧Qc9 l n 1=Qc9 l f b∧Below w.heap.size w wr) (fun i _=>n+1-(intOf i).toNat)
 case atStart=>exact ⟨1,n,Nat.le_refl _,by omega,by omega,rfl,rfl,Below.refl _ _⟩
 case round =>
  obtain ⟨b,f,hb1,hbn,hf,rfl,hs,hbe⟩:=hrel;have HS:=LH hs;have HB:=LH hbe;clear hs hbe
  by_cases hlt:b<n
  ·have hlt':(b:Int)<(n:Int):=by omega
   obtain ⟨g,rfl⟩:∃g,f=g+1:=⟨f-1,by omega⟩
   obtain ⟨k,c,z,he⟩:=Qe5 l b;have HC1:=LH (HC.out.below HB.out NR);have HS2:Hid (Qc9 l n 1=if k=2 then (if Qa4 l b=0 then b else Qc9 l g (b+Qa4 l b)) else if k=3 then b else Qc9 l g (b+1)):=LH (by
    rw [HS.out,Qc9,if_neg (by rw [HN.out];omega),he])
   have HWh:=LH (Qlf a n cap l HN.out wr HC1.out hl b hlt);have HLe:=LH (Ja6 l b);obtain ⟨b1,o1,rfl,d0,d1,d2⟩:=Qcq HC1.out (by rw [HN.out];exact hlt) he;clear he d1 d2
   by_cases h2:k=2
   ·subst h2;have h2':((2:Int) == 2)=true:=rfl;go_wp2_with fail;refine HWh.out.mono ?_;rintro e w1 ⟨rfl,hb1⟩;have HB1:=LH (HB.out.trans (hb1.mono HB.out.size));clear hb1;obtain ⟨q,hq⟩:∃q,q=Qa4 l b:=⟨_,rfl⟩
    rw [← hq] at HS2 HLe ⊢
    by_cases hz:q=0
    ·have hz':decide (q≠0)=false:=by simpa using hz
     have HE:=LH (H1.out b (by rw [HS2.out];simp [hz]) (by omega));rw [hz'];clear hz hq hz';go_wp2_with fail;exact HE.out _ HB1.out
    ·have hz':decide (q≠0)=true:=by simpa using hz
     have hle:=HLe.out hz;rw [HN.out] at hle;have HS3:Hid (Qc9 l n 1=Qc9 l g (b+q)):=LH (by rw [HS2.out];simp [hz]);rw [hz'];clear hq hz';have hw1:IntKind.i64.wrap ((q:Int)-1)=(q:Int)-1:=IntWalk.i64_in _ (by omega);have hw2:IntKind.i64.wrap ((b:Int)+((q:Int)-1))=(b:Int)+((q:Int)-1):=IntWalk.i64_in _ (by omega);have hw3:IntKind.i64.wrap ((b:Int)+((q:Int)-1)+1)=(b:Int)+((q:Int)-1)+1:=IntWalk.i64_in _ (by omega);go_wp2_with fail;exact ⟨⟨b+q,g,by omega,by omega,by omega,Qb2 (by omega),HS3.out,HB1.out⟩,by simp [intOf];omega⟩
   ·have h2':(k == 2)=false:=by simpa using h2
    by_cases h3:k=3
    ·subst h3;have HE:=LH (H1.out b (by rw [HS2.out];simp) (by omega));clear h2;go_wp2_with fail;exact HE.out _ HB.out
    ·have h3':(k == 3)=false:=by simpa using h3
     have HS3:Hid (Qc9 l n 1=Qc9 l g (b+1)):=LH (by rw [HS2.out];simp [h2,h3]);clear h2 h3;go_wp2_with fail;exact ⟨⟨b+1,g,by omega,by omega,by omega,Qb2 (by omega),HS3.out,HB.out⟩,by simp [intOf];omega⟩
  ·have hlt':decide ((b:Int)<(n:Int))=false:=by simp;omega
   have HE:=LH (H0.out (by
    rw [HS.out]
    cases f with
    | zero=>rfl
    | succ f=>rw [Qc9,if_pos (by rw [HN.out];omega)]))
   go_wp2_with fail;exact HE.out _ HB.out
theorem Qq6 {w:World} {p g c B:Nat} {F:Qb0} {l:List Hd} (h:Jaz w p g c F B l) (hB:B≤1000) :
  Calls Tryz.prog 28 #[.pointer (some ⟨p,0,none⟩)] w fun e w'=>∃q k,e=.returned (.slice (some ⟨q,0,none⟩) B k)∧w.heap.size≤q∧B≤k∧Qa6 w' q 107 (Qbt l)∧Below w.heap.size w w':=by
 have hb:=Qaf w (.cells #[] 107);have ho:=World.ownsRow_lit (base:=w.heap.size) (e:=107) (size:=3) w #[] 0 NR (by unfold maxLen;omega) rfl;have HC:=LH (h.row.cells.below hb NR);have c2:(w.alloc (.cells #[] 107)).cell? ⟨p,2,none⟩=some (.slice (some ⟨g,0,none⟩) B c):=by rw [hb.cell (p:=⟨p,2,none⟩) h.lt.1];exact cell_of_row _ _ 2 _ _ _ h.head
 have HL:Hid ((Qbt l).length=B*3):=LH (by rw [Qca,h.len,Nat.mul_comm]);have HO:=LH ho;have HB:=LH hb;have hone:Hid (∀u∈Qbt l,u.oneCell'=true):=LH (Qv3 l);have hbase:=LH hb.size;have hn9:0+B<1000000000000:=by omega
 clear hb ho h;go_enter Tryz.func28,Tryz.ntmps28;go_wp2_with (at_builtin;refine Qbb Jho HO.out HC.out HL.out hone.out hn9 (by decide) hbase.out rfl rfl rfl rfl ?_;intro v2 w2 ho2 hg2 hv2;have HO2:=LH ho2;have HG2:=LH hg2;have HV2:=LH hv2;clear ho2 hg2 hv2)
 go_ret
 have h2:=HO2.out;rw [Nat.zero_add] at h2;obtain ⟨q,k,rfl,h3,h4,h5,h6⟩:=Qih h2 (fun e=>by have:=(HV2.out e).1;simp at this);exact ⟨q,k,rfl,h3,h4,by simpa using h6,Qav HB.out HO.out HG2.out NR NR⟩
structure MF where
 m:Nat
 t:Nat
 g:Nat
 c:Nat
 F:Qb0
 T:Tri
def MF.list (X:MF):List Nat:=X.m :: X.t :: X.T.p :: X.g :: X.T.s :: X.T.e :: X.F.list
def MF.hot (X:MF):List Nat:=X.g :: X.T.s :: X.T.e :: X.F.list
structure Bm where
 dev:Dev
 list:List Hd
 free:List Bool
structure Qfg (w:World) (X:MF) (n B:Nat) (m:Bm):Prop where
 head:w.heap[X.m]?=some (.cells #[.pointer (some ⟨X.t,0,none⟩),.pointer (some ⟨X.T.p,0,none⟩),.int .i64 (B:Int)] 87 (0,0))
 tab:Jaz w X.t X.g X.c X.F B m.list
 dev:Qa7 w X.F m.dev
 ix:Qov w X.T n m.free
 lenF:m.free.length=B
 nd:X.list.Nodup
theorem Qfg.mem {w:World} {X:MF} {n B:Nat} {m:Bm} (h:Qfg w X n B m):∀k∈X.list,k<w.heap.size:=by
 intro k hk;have h1:=h.ix.mem;simp only [Tri.list,List.mem_cons,List.not_mem_nil,or_false,forall_eq_or_imp,forall_eq] at h1
 simp only [MF.list,List.mem_cons] at hk
 rcases hk with rfl | rfl | rfl | rfl | rfl | rfl | hk
 ·exact (Array.getElem?_eq_some_iff.1 h.head).1
 ·exact h.tab.lt.1
 ·exact h1.1
 ·exact h.tab.lt.2
 ·exact h1.2.1
 ·exact h1.2.2
 ·exact h.dev.mem k hk
theorem Qfg.keep {w w':World} {X:MF} {n B:Nat} {m:Bm} (h:Qfg w X n B m) (hk:∀k∈X.list,w'.heap[k]?=w.heap[k]?):Qfg w' X n B m:=by
 have e:∀k∈X.F.list,k∈X.list:=fun k hk=>by simp only [MF.list,List.mem_cons];simp [hk]
 have e2:∀k∈X.T.list,k∈X.list:=fun k hk=>by
  simp only [Tri.list,List.mem_cons,List.not_mem_nil,or_false] at hk
  simp only [MF.list,List.mem_cons]
  rcases hk with rfl | rfl | rfl <;> simp
 exact ⟨(hk X.m (by simp [MF.list])).trans h.head,h.tab.keep (hk X.t (by simp [MF.list])) (hk X.g (by simp [MF.list])),h.dev.keep (fun k hk'=>hk k (e k hk')),h.ix.keep (fun k hk'=>hk k (e2 k hk')),h.lenF,h.nd⟩
theorem Qfg.below {w w':World} {X:MF} {n B:Nat} {m:Bm} (h:Qfg w X n B m) (hb:Below w.heap.size w w'):Qfg w' X n B m:=h.keep (fun k hk=>hb.block k (h.mem k hk))
theorem Qfg.mono {w:World} {X:MF} {n n' B:Nat} {m:Bm} (h:Qfg w X n B m) (hn:n≤n'):Qfg w X n' B m:=by
 obtain ⟨M,E,h1,h2⟩:=h.ix;exact { h with ix:=⟨M,E,h1.mono hn,h2⟩ }
structure MF.Apart (X:MF):Prop where
 m:X.m∉X.hot
 t:X.t∉X.hot
 p:X.T.p∉X.hot
 g:X.g∉X.F.list
 gs:X.g≠X.T.s
 ge:X.g≠X.T.e
 s:X.T.s∉X.F.list
 e:X.T.e∉X.F.list
theorem MF.apart {X:MF} (h:X.list.Nodup):X.Apart:=by
 simp only [MF.list,List.nodup_cons,List.mem_cons,not_or] at h
 obtain ⟨⟨m1,m2,m3,m4,m5,m6⟩,⟨t1,t2,t3,t4,t5⟩,⟨p1,p2,p3,p4⟩,⟨g1,g2,g3⟩,⟨s1,s2⟩,e1,_⟩:=h;refine ⟨?_,?_,?_,g3,g1,g2,s2,e1⟩
 all_goals simp only [MF.hot,List.mem_cons,not_or]
 ·exact ⟨m3,m4,m5,m6⟩
 ·exact ⟨t2,t3,t4,t5⟩
 ·exact ⟨p1,p2,p3,p4⟩
theorem MF.hot_sub {X:MF} {k:Nat} (h:k∈X.hot):k∈X.list:=by
 simp only [MF.hot,List.mem_cons] at h
 simp only [MF.list,List.mem_cons]
 rcases h with h | h | h | h <;> simp [h]
theorem MF.notHot {X:MF} {k:Nat} (h:k∉X.hot):k≠X.g∧k≠X.T.s∧k≠X.T.e∧k∉X.F.list:=by simpa only [MF.hot,List.mem_cons,not_or] using h
theorem Qfg.c0 {w:World} {X:MF} {n B:Nat} {m:Bm} (h:Qfg w X n B m):w.cell? ⟨X.m,0,none⟩=some (.pointer (some ⟨X.t,0,none⟩)):=cell_of_row _ _ 0 _ _ _ h.head
theorem Qfg.c1 {w:World} {X:MF} {n B:Nat} {m:Bm} (h:Qfg w X n B m):w.cell? ⟨X.m,1,none⟩=some (.pointer (some ⟨X.T.p,0,none⟩)):=cell_of_row _ _ 1 _ _ _ h.head
theorem Qfg.c2 {w:World} {X:MF} {n B:Nat} {m:Bm} (h:Qfg w X n B m):w.cell? ⟨X.m,2,none⟩=some (.int .i64 (B:Int)):=cell_of_row _ _ 2 _ _ _ h.head
end
end Go.Proofs.YtpohaahihdhleaaGreat
