/- Parts of the proof of one statement of the seat. -/
import Derived.Test.YtpohaahihdhleaaGreatRO7
import Derived.Deep.QuietTactic
import Derived.BigQuiet
import Derived.Deep.Cut
set_option linter.unusedVariables false
set_option maxHeartbeats 16000000
set_option maxRecDepth 100000
open Go.RowKit
namespace Go.Proofs.YtpohaahihdhleaaGreat
section
theorem Qyc {w:World} {F:Qb0} {S:Dev} (h:Qa7 w F S) :
  Calls Tryz.prog 54 #[Qei F] w fun e w'=>e=.returned (.int .i64 (S.dirty.length:Nat))∧w=w':=by
 have c1:w.cell? ⟨F.d,3,none⟩=some (.slice (some ⟨F.t,0,none⟩) S.dirty.length F.ct):=cell_of_row _ _ 3 _ _ _ h.head;clear h;go_enter Tryz.func54,Tryz.ntmps54;go_wp2_with fail
 go_ret
 exact ⟨rfl,rfl⟩
theorem Qxp {w:World} {F:Qb0} {S:Dev} (h:Qa7 w F S) :
  Calls Tryz.prog 20 #[Qei F] w fun e w'=>e=.returned (.int .i64 S.steps)∧w=w':=by
 have c1:w.cell? ⟨F.d,5,none⟩=some (.int .i64 S.steps):=cell_of_row _ _ 5 _ _ _ h.head;clear h;go_enter Tryz.func20,Tryz.ntmps20;go_wp2_with fail
 go_ret
 exact ⟨rfl,rfl⟩
theorem Jcm {w:World} {F:Qb0} {S:Dev} (h:Qa7 w F S) :
  Calls Tryz.prog 55 #[Qei F] w fun e w'=>e=.returned (.bool S.dead)∧w=w':=by
 have c1:w.cell? ⟨F.d,8,none⟩=some (.bool S.dead):=cell_of_row _ _ 8 _ _ _ h.head;clear h;go_enter Tryz.func55,Tryz.ntmps55;go_wp2_with fail
 go_ret
 exact ⟨rfl,rfl⟩
theorem Jef {w:World} {F:Qb0} {S:Dev} (h:Qa7 w F S) :
  Calls Tryz.prog 29 #[Qei F] w fun e w'=>∃v,e=.returned v∧w'.ownsRow w.heap.size 40 1 v S.cache.length (S.lasting.map Qad)∧Below w.heap.size w w':=by
 have c1:w.cell? ⟨F.d,0,none⟩=some (.slice (some ⟨F.l,0,none⟩) S.cache.length F.cl):=cell_of_row _ _ 0 _ _ _ h.head;have HL:=LH h.lenL;have HR:=LH h.lasting;have hsm:=h.small;clear h;go_enter Tryz.func29,Tryz.ntmps29;go_wp2_with fail;refine (Qs6 F.l 0 F.cl S.lasting HL.out w (fun i v hi=>by rw [Nat.zero_add];exact HR.out.cell hi) (by rw [HL.out];exact hsm)).mono ?_;rintro e w1 ⟨v,rfl,ho,hb,_⟩;have HO:=LH ho;have HB:=LH hb;clear ho hb;go_wp2_with fail
 go_ret
 exact ⟨v,rfl,HO.out,HB.out⟩
def Dev.arm (S:Dev) (n:Int):Dev:={ S with fuse:=n,armed:=decide (0≤n) }
theorem Jd6 {w:World} {F:Qb0} {S:Dev} (h:Qa7 w F S) (n:Int) :
  Calls Tryz.prog 21 #[Qei F,.int .i64 n] w fun e w'=>e=.returned (.tuple #[])∧Qa7 w' F (S.arm n)∧Qam [F.d] w w':=by
 have hh:=h.head;have c6:w.cell? ⟨F.d,6,none⟩=some (.int .i64 S.fuse):=cell_of_row _ _ 6 _ _ _ hh;have c7:w.cell? ⟨F.d,7,none⟩=some (.bool S.armed):=cell_of_row _ _ 7 _ _ _ hh;have z6:w.frozen? ⟨F.d,6,none⟩=false:=frozen_of_row _ _ 6 _ _ hh;have z7:w.frozen? ⟨F.d,7,none⟩=false:=frozen_of_row _ _ 7 _ _ hh;have HF:Hid (Qa7 ((w.setCell ⟨F.d,6,none⟩ (.int .i64 n)).setCell ⟨F.d,7,none⟩ (.bool (decide (0≤n)))) F (S.arm n)∧Qam [F.d] w ((w.setCell ⟨F.d,6,none⟩ (.int .i64 n)).setCell ⟨F.d,7,none⟩ (.bool (decide (0≤n))))):=by
  have t:Qam [F.d] w ((w.setCell ⟨F.d,6,none⟩ (.int .i64 n)).setCell ⟨F.d,7,none⟩ (.bool (decide (0≤n)))):=(Qam.setCell _ (by simp) _).trans (Qam.setCell _ (by simp) _);refine LH ⟨h.head' ?_ t ⟨rfl,rfl,rfl,rfl,rfl⟩,t⟩;rw [heap_setCell_same _ F.d 7 _ _ _ (heap_setCell_same w F.d 6 _ _ _ hh)];rfl
 clear hh h;go_enter Tryz.func21,Tryz.ntmps21;go_wp2_with fail
 go_end0
 exact ⟨rfl,HF.out⟩
theorem Jes (a b:Option Addr) (n cap cap2:Nat) (l:List Nat) (hn:l.length=n) (w:World) (hc:Qaq w a (l.map vi)) (hc2:Qaq w b (l.map vi)) (hl:n≤1000000000) :
  Calls Tryz.prog 25 #[.slice a n cap,.slice b n cap2] w fun e w'=>e=.returned (.bool true)∧∃q,w'=w.drewN q:=by
 have HN:=LH hn;have HC:=LH hc;have HC2:=LH hc2;clear hn hc hc2;have hne:(n != n)=false:=by simp
 have hne2:((n:Int) != (n:Int))=false:=by simp
 go_enter Tryz.func25,Tryz.ntmps25;go_wp2_with fail
 go_loopw [5] (fun i wr=>∃k:Nat,k≤n∧i=.int .i64 k∧∃q,wr=w.drewN q) (fun i _=>n-(intOf i).toNat)
 case atStart=>exact ⟨0,Nat.zero_le _,rfl,0,rfl⟩
 case round =>
  obtain ⟨k,hk,rfl,q,rfl⟩:=hrel
  by_cases hlt:k<n
  ·have hlt':(k:Int)<(n:Int):=by omega
   have hkl:k<l.length:=by rw [HN.out];exact hlt
   obtain ⟨b1,o1,rfl,_,h1⟩:=HC.out.atMap 0 hkl;obtain ⟨b2,o2,rfl,_,h2⟩:=HC2.out.atMap 0 hkl;have d0:=h1 k hkl;have d1:=h2 k hkl;clear h1 h2 hkl;generalize l.getD k 0=x at *;have hx:((x:Int) != (x:Int))=false:=by simp
   have hx2:(x != x)=false:=by simp
   go_wp2_with fail
   go_quiet (fail)
   go_wp2_with fail;exact ⟨⟨k+1,by omega,Qb2 (by omega),_,rfl⟩,by simp [intOf];omega⟩
  ·obtain rfl:k=n:=by omega
   have hlt':decide ((k:Int)<(k:Int))=false:=by simp
   go_wp2_with fail
   go_ret
   exact ⟨rfl,_,rfl⟩
theorem Jev (a b:Option Addr) (n cap cap2:Nat) (l:List Nat) (hn:l.length=n) (w:World) (hc:Qaq w a (l.map Qad)) (hc2:Qaq w b (l.map Qad)) (hl:n≤1000000000) :
  Calls Tryz.prog 30 #[.slice a n cap,.slice b n cap2] w fun e w'=>e=.returned (.bool true)∧∃q,w'=w.drewN q:=by
 have HN:=LH hn;have HC:=LH hc;have HC2:=LH hc2;clear hn hc hc2;have hne:(n != n)=false:=by simp
 have hne2:((n:Int) != (n:Int))=false:=by simp
 go_enter Tryz.func30,Tryz.ntmps30;go_wp2_with fail
 go_loopw [5] (fun i wr=>∃k:Nat,k≤n∧i=.int .i64 k∧∃q,wr=w.drewN q) (fun i _=>n-(intOf i).toNat)
 case atStart=>exact ⟨0,Nat.zero_le _,rfl,0,rfl⟩
 case round =>
  obtain ⟨k,hk,rfl,q,rfl⟩:=hrel
  by_cases hlt:k<n
  ·have hlt':(k:Int)<(n:Int):=by omega
   have hkl:k<l.length:=by rw [HN.out];exact hlt
   obtain ⟨b1,o1,rfl,_,h1⟩:=HC.out.atMap 0 hkl;obtain ⟨b2,o2,rfl,_,h2⟩:=HC2.out.atMap 0 hkl;have d0:=h1 k hkl;have d1:=h2 k hkl;clear h1 h2 hkl;generalize l.getD k 0=x at *;have hx:((x:Int) != (x:Int))=false:=by simp
   have hx2:(x != x)=false:=by simp
   go_wp2_with fail
   go_quiet (fail)
   go_wp2_with fail;exact ⟨⟨k+1,by omega,Qb2 (by omega),_,rfl⟩,by simp [intOf];omega⟩
  ·obtain rfl:k=n:=by omega
   have hlt':decide ((k:Int)<(k:Int))=false:=by simp
   go_wp2_with fail
   go_ret
   exact ⟨rfl,_,rfl⟩
theorem Qlg {w:World} {base B e size n:Nat} {v:Value} {xs:List Value} (h:w.ownsRow base e size v n xs) (hB:B≤base):w.ownsRow B e size v n xs:=by
 refine ⟨h.1,?_⟩;rcases h.2 with hn | ⟨g,cap,cur,hv,hb,r⟩
 ·exact .inl hn
 ·exact .inr ⟨g,cap,cur,hv,Nat.le_trans hB hb,r⟩
theorem Qxh {w:World} {v:Value} {S:Dev} {m:Nat} (hm:S.dirty.length=m) (h:RAt w v m S.ref) (hm8:m≤125000) :
  Calls Tryz.prog 57 #[v] w fun e w'=>∃v',e=.returned v'∧w'.ownsRow w.heap.size 3 1 v' (Qd3 S.dirty m).length ((Qd3 S.dirty m).map vi)∧Below w.heap.size w w':=by
 obtain ⟨an,cn,al,cl,aw,cw,ad,cd,ap,cp,rfl,k1,k2,k3,k4,k5⟩:=h.ex;have HK:Hid (Qaq w ad (S.dirty.map Value.bool)):=LH k4;clear h k1 k2 k3 k4 k5;generalize S.ref.steps=sv at *;generalize S.ref.fuse=fz at *;generalize S.ref.dead=dd at *;have HM:=LH hm;clear hm;have HMm:=LH (Mem.one w #[.slice an m cn,.slice al m cl,.slice aw m cw,.slice ad m cd,.slice ap m cp,.int .i64 sv,.int .i64 fz,.bool dd] 38);go_enter Tryz.func57,Tryz.ntmps57;go_upto_region 1 with fail;generalize w.alloc _=w0 at *;obtain ⟨q,hq⟩:∃q,q=w.heap.size:=⟨_,rfl⟩
 rw [← hq] at HMm ⊢;have HQ:=LH hq;clear hq;go_wp2_with fail
 go_loopw [3,4] (fun v i wr=>∃k:Nat,k≤m∧i=.int .i64 k∧wr.ownsRow w0.heap.size 3 1 v (Qd3 S.dirty k).length ((Qd3 S.dirty k).map vi)∧Below w0.heap.size w0 wr) (fun _ i _=>m-(intOf i).toNat)
 case atStart=>exact ⟨0,Nat.zero_le _,rfl,⟨rfl,.inl ⟨rfl,rfl⟩⟩,Below.refl _ _⟩
 case round =>
  obtain ⟨k,hk,rfl,ho,hb⟩:=hrel;obtain ⟨a1,c1',rfl,hc1,hm1⟩:=Qbe ho;have hdl:=Qlk S.dirty k;have c3:=(HMm.out.later hb).cell 0 3 rfl rfl;have HO:=LH ho;have HB:=LH hb;clear ho hb
  by_cases hlt:k<m
  ·have hlt':(k:Int)<(m:Int):=by omega
   have HS:Hid (Qd3 S.dirty (k+1)=Qd3 S.dirty k ++ (if S.dirty.getD k false then [k] else [])):=LH rfl;obtain ⟨b1,o1,rfl,_,hcs⟩:=(HK.out.below (HMm.out.later HB.out).below NR).atMap false (show k<S.dirty.length by rw [HM.out];exact hlt);have d0:=hcs k (by rw [HM.out];exact hlt);clear hcs;generalize hq:S.dirty.getD k false=bk at *
   cases bk
   ·clear hq;go_wp2_with fail;refine ⟨⟨k+1,by omega,Qb2 (by omega),?_,HB.out⟩,by simp [intOf];omega⟩;rw [HS.out];simpa using HO.out
   ·have hone:Hid (∀u∈(#[Value.int .i64 (k:Int)]:Array Value).toList,u.oneCell'=true):=LH (by intro u hu;simp at hu;subst hu;rfl);have hbase:Hid (w0.heap.size≤wr.heap.size):=LH HB.out.size;have hk9:Hid ((Qd3 S.dirty k).length<1000000000000):=LH (by omega);clear hq hdl hc1 hm1;generalize hz:(Qd3 S.dirty k).length=z at *;have HZ:=LH hz;clear hz;go_wp2_with (at_builtin;refine Qbp (us:=#[.int .i64 (k:Int)]) Jdg HO.out rfl hone.out hk9.out (by decide) hbase.out rfl rfl rfl (by simp [Act.eval]) ?_;intro g6 c6 w6 ho6 hg6 hc6 hm6 hb6 hl6;have HO6:=LH ho6;have HG6:=LH hg6;clear ho6 hg6)
    refine ⟨⟨k+1,by omega,Qb2 (by omega),?_,Qav HB.out HO.out HG6.out NR NR⟩,by simp [intOf];omega⟩;rw [HS.out];simpa [HZ.out] using HO6.out
  ·obtain rfl:k=m:=by omega
   have hlt':decide ((k:Int)<(k:Int))=false:=by simp
   go_wp2_with fail
   go_ret
   exact ⟨_,rfl,Qlg HO.out HMm.out.below.size,HMm.out.below.trans (HB.out.mono HMm.out.below.size)⟩
theorem Jam {w:World} {b off:Nat} {l:List Nat} (h:Qaq w (some ⟨b,off,none⟩) (l.map Qad)) (k:Nat):Qaq w (some ⟨b,off+k*8,none⟩) ((seg l k).map Qad):=by
 have:=(h.drop (8*k)).take 8;rw [Nat.mul_comm k 8];unfold seg;rw [List.map_take,List.map_drop];exact this
theorem Jcz (l:List Nat) (k m:Nat) (hl:l.length=8*m) (hk:k<m):l.take (8*(k+1))=l.take (8*k) ++ seg l k:=by
 unfold seg;rw [show 8*(k+1)=8*k+8 by omega,List.take_add]
theorem Jc3 (a:Option Addr) (m cap:Nat) (l:List Nat) (w:World) (hc:Qaq w a (l.map Qad)) (hl:l.length=8*m) (hm8:m≤125000) :
  Calls Tryz.prog 58 #[.slice a m cap] w fun e w'=>∃v,e=.returned v∧w'.ownsRow w.heap.size 40 1 v (8*m) (l.map Qad)∧Below w.heap.size w w':=by
 have HC:=LH hc;have HL:=LH hl;clear hc hl;go_enter Tryz.func58,Tryz.ntmps58;go_wp2_with fail
 go_loopw [3,4] (fun v i wr=>∃k:Nat,k≤m∧i=.int .i64 k∧wr.ownsRow w.heap.size 40 1 v (8*k) ((l.take (8*k)).map Qad)∧Below w.heap.size w wr) (fun _ i _=>m-(intOf i).toNat)
 case atStart=>exact ⟨0,Nat.zero_le _,rfl,⟨rfl,.inl ⟨rfl,rfl⟩⟩,Below.refl _ _⟩
 case round =>
  obtain ⟨k,hk,rfl,ho,hb⟩:=hrel;obtain ⟨a1,c1,rfl,hc1,hm1⟩:=Qbe ho;have HO:=LH ho;have HB:=LH hb;clear ho hb
  by_cases hlt:k<m
  ·have hlt':(k:Int)<(m:Int):=by omega
   have hlt8:k*8<l.length:=by rw [HL.out];omega
   obtain ⟨b1,o1,rfl,hb1,_⟩:=(HC.out.below HB.out NR).atMap 0 hlt8;have HSeg:=LH (Jam (HC.out.below HB.out NR) k);have HSl:Hid (((seg l k).map Qad).length=8*1):=LH (by rw [List.length_map,Qbv _ _ (by rw [HL.out];omega)]);have HT:=LH (Jcz l k m HL.out hlt);have hone:Hid (∀u∈(seg l k).map Qad,u.oneCell'=true):=LH (Qd9 _);have hbase:Hid (w.heap.size≤wr.heap.size):=LH HB.out.size;have hk9:8*k+8<1000000000000:=by omega
   clear hlt8 hc1 hm1;go_wp2_with (at_builtin;refine Qbb (m:=8) (c:=8) Qyy HO.out HSeg.out (by rw [HSl.out]) hone.out hk9 (by decide) hbase.out rfl rfl rfl rfl ?_;intro v6 w6 ho6 hg6 _;have HO6:=LH ho6;have HG6:=LH hg6;clear ho6 hg6)
   refine ⟨⟨k+1,by omega,Qb2 (by omega),?_,Qav HB.out HO.out HG6.out NR NR⟩,by simp [intOf];omega⟩;rw [HT.out,List.map_append];exact HO6.out
  ·obtain rfl:k=m:=by omega
   have hlt':decide ((k:Int)<(k:Int))=false:=by simp
   go_wp2_with fail
   go_ret
   refine ⟨_,rfl,?_,HB.out⟩;have:=HO.out
   rwa [List.take_of_length_le (by rw [HL.out];exact Nat.le_refl _)] at this
theorem Qtr {w:World} {F:Qb0} {S:Dev} (h:Qa7 w F S) (i:Int) :
  Calls Tryz.prog 60 #[Qei F,.int .i64 i] w fun e w'=>e=.returned (Qad (Qdr S.lasting i))∧w=w':=by
 have c1:w.cell? ⟨F.d,0,none⟩=some (.slice (some ⟨F.l,0,none⟩) S.cache.length F.cl):=cell_of_row _ _ 0 _ _ _ h.head;have hll:=h.lenL;have HR:=LH h.lasting
 by_cases h0:i<0
 ·have HP:Hid (Qdr S.lasting i=0):=LH (by unfold Qdr;rw [if_neg (by omega)]);clear h hll;go_enter Tryz.func60,Tryz.ntmps60;go_wp2_with fail
  go_ret
  exact ⟨Qau (by rw [HP.out];rfl),rfl⟩
 obtain ⟨j,rfl⟩:=Int.eq_ofNat_of_zero_le (show 0≤i by omega)
 by_cases h1:j<S.cache.length
 ·have h1':decide ((S.cache.length:Int)≤(j:Int))=false:=by simp;omega
  have h1n:decide (S.cache.length≤j)=false:=by simp;omega
  have HP:Hid (Qdr S.lasting (j:Int)=S.lasting.getD j 0):=LH (by unfold Qdr;rw [if_pos (by omega)];rfl);have d0:w.cell? ⟨F.l,j,none⟩=some (Qad (S.lasting.getD j 0)):=HR.out.cell (by simp [show j<S.lasting.length by omega]);clear h hll;generalize S.lasting.getD j 0=y at *;go_enter Tryz.func60,Tryz.ntmps60;go_wp2_with fail
  go_ret
  exact ⟨by rw [HP.out];rfl,rfl⟩
 ·have h1':(S.cache.length:Int)≤(j:Int):=by omega
  have h1n:S.cache.length≤j:=by omega
  have HP:Hid (Qdr S.lasting (j:Int)=0):=LH (by unfold Qdr;rw [if_pos (by omega)];show S.lasting.getD j 0=0;exact Qf8 (by omega));clear h hll;go_enter Tryz.func60,Tryz.ntmps60;go_wp2_with fail
  go_ret
  exact ⟨Qau (by rw [HP.out];rfl),rfl⟩
theorem Qx1 {w:World} {F:Qb0} {v:Value} {S T:Dev} {m:Nat} (hm:S.dirty.length=m) (hd:Qa7 w F S) (h:RAt w v m T.ref) (z1:T.cache=S.cache) (z2:T.lasting=S.lasting) (z3:T.dirty=S.dirty) (z4:T.steps=S.steps) (z5:T.dead=S.dead) :
  Calls Tryz.prog 14 #[Qei F,v] w fun e w'=>e=.returned (.bool true)∧Below w.heap.size w w':=by
 have hwf:=hd.wf;have hcl:S.cache.length=8*m:=by have:=hwf.lenD;rw [hm] at this;exact this
 have hm8:m≤125000:=by have:=hwf.small;omega
 obtain ⟨an,cn,al,cl,aw,cw,ad,cd,ap,cp,rfl,k1,k2,k3,k4,k5⟩:=h.ex;have HK1:Hid (Qaq w an (S.cache.map Qad)):=LH (by rw [← z1];exact k1);have HK2:Hid (Qaq w al (S.lasting.map Qad)):=LH (by rw [← z2];exact k2);have HLL:Hid (S.lasting.length=8*m):=LH (by rw [hwf.lenL];exact hcl);have HRA:=LH h;clear k1 k2 k3 k4 k5 h hwf;have HZ3:=LH z3;rw [show T.ref.steps=S.steps from z4,show T.ref.dead=S.dead from z5] at *;generalize hfz:T.ref.fuse=fz at *;have HDSt:=LH (fun W (h:Qa7 W F S)=>Qxp h);have HDDd:=LH (fun W (h:Qa7 W F S)=>Jcm h);generalize hsv:S.steps=sv at *;generalize hdd:S.dead=dd at *;have HD:=LH hd;have HMm:=LH hm;have HCL:=LH hcl;clear hfz hsv hdd hd hm hcl z1 z2 z3 z4 z5;unfold Qei at *;have HM:=LH (Mem.one w #[.slice an m cn,.slice al m cl,.slice aw m cw,.slice ad m cd,.slice ap m cp,.int .i64 sv,.int .i64 fz,.bool dd] 38);go_enter Tryz.func14,Tryz.ntmps14;go_upto_region 1 with fail;generalize w.alloc _=w0 at *;obtain ⟨q,hq⟩:∃q,q=w.heap.size:=⟨_,rfl⟩
 rw [← hq] at HM ⊢;have HQ:=LH hq;clear hq;have HD0:=LH (HD.out.below HM.out.below);have HRA0:=LH (HRA.out.below HM.out.below NR);have HK10:=LH (HK1.out.below HM.out.below NR);have HK20:=LH (HK2.out.below HM.out.below NR);have d0:=HM.out.cell 0 0 rfl rfl;have d1:=HM.out.cell 0 1 rfl rfl;have d2:=HM.out.cell 0 2 rfl rfl;have d3:=HM.out.cell 0 3 rfl rfl;have d4:=HM.out.cell 0 4 rfl rfl;have d5:=HM.out.cell 0 5 rfl rfl;have d6:=HM.out.cell 0 6 rfl rfl;have d7:=HM.out.cell 0 7 rfl rfl;have r0:=fun x=>Qab d0 x
 have r1:=fun x=>Qab d1 x
 have r2:=fun x=>Qab d2 x
 have r3:=fun x=>Qab d3 x
 have r4:=fun x=>Qab d4 x
 have r5:=fun x=>Qab d5 x
 have r6:=fun x=>Qab d6 x
 have r7:=fun x=>Qab d7 x
 clear d0 d1 d2 d3 d4 d5 d6 d7 HD HRA HK1 HK2;have hn1:(8*(m:Int) != 8*(m:Int))=false:=by simp
 have hn1':(((8*m:Nat):Int) != 8*(m:Int))=false:=by simp
 have hn2:((m:Int) != (m:Int))=false:=by simp
 have hn2':(m != m)=false:=by simp
 have hn3:(sv != sv)=false:=by simp
 have hn4:(dd != dd)=false:=by simp
 refine Qai (C:=fun w'=>∃x:Qbi (w0),w'=x.val) [.fl [0,2,3,4,5],.sq [1] true,.sq [6,7] false,.fl [8,10,11,12],.sq [9] true,.sq [13,14,15] false,.fl [16,18,19],.sq [17] true,.sq [20,21,22] false,.fl [23,25,26],.sq [24] true,.sq [27,28,29] false,.fl [30,32],.sq [31] true,.sq [33,34,35,36,37] false,.fl [38,40,41],.sq [39] true,.sq [42,43,44,45] false] (by kernel_rfl) (by kernel_rfl) (by intro c a d v w h;cases d <;> exact h) ?_;simp only [Qdj,Qa3,List.getElem?_cons_succ,List.getElem?_cons_zero]
 have hC1:=Qaj (w0);refine Qak hC1 ?_
 repeat (first|go_big_quiet_step (fail)|quiet_step (fail))
 refine wpQuiet_nil ?_;refine Qah (fun K hK=>?_);go_wp2_with fail;refine (Qc0 (HD0.out.below (Qae hC1))).mono ?_;rintro e w2 ⟨rfl,rfl⟩;rw [HCL.out];go_wp2_with fail;refine hK _ _ (fun _=>hC1) ?_;clear hK K;refine Qah (fun K hK=>?_);go_wp2_with fail;go_wp2_with fail;refine hK _ _ (fun h=>nomatch h) ?_;clear hK K;refine Qak hC1 ?_
 repeat (first|go_big_quiet_step (fail)|quiet_step (fail))
 refine wpQuiet_nil ?_;refine Qah (fun K hK=>?_);go_wp2_with fail;refine (Qyc (HD0.out.below (Qae hC1))).mono ?_;rintro e w2 ⟨rfl,rfl⟩;rw [HMm.out];go_wp2_with fail;refine hK _ _ (fun _=>hC1) ?_;clear hK K;refine Qah (fun K hK=>?_);go_wp2_with fail;go_wp2_with fail;refine hK _ _ (fun h=>nomatch h) ?_;clear hK K;refine Qak hC1 ?_
 repeat (first|go_big_quiet_step (fail)|quiet_step (fail))
 refine wpQuiet_nil ?_;refine Qah (fun K hK=>?_);go_wp2_with fail;refine (HDSt.out _ (HD0.out.below (Qae hC1))).mono ?_;rintro e w2 ⟨rfl,rfl⟩;go_wp2_with fail;refine hK _ _ (fun _=>hC1) ?_;clear hK K;refine Qah (fun K hK=>?_);go_wp2_with fail;go_wp2_with fail;refine hK _ _ (fun h=>nomatch h) ?_;clear hK K;refine Qak hC1 ?_
 repeat (first|go_big_quiet_step (fail)|quiet_step (fail))
 refine wpQuiet_nil ?_;refine Qah (fun K hK=>?_);go_wp2_with fail;refine (HDDd.out _ (HD0.out.below (Qae hC1))).mono ?_;rintro e w2 ⟨rfl,rfl⟩;go_wp2_with fail;refine hK _ _ (fun _=>hC1) ?_;clear hK K;refine Qah (fun K hK=>?_);go_wp2_with fail;go_wp2_with fail;refine hK _ _ (fun h=>nomatch h) ?_;clear hK K;refine Qak hC1 ?_
 repeat (first|go_big_quiet_step (fail)|quiet_step (fail))
 refine wpQuiet_nil ?_;refine Qah (fun K hK=>?_);go_wp2_with fail;refine (Jb5 (HD0.out.below (Qae hC1))).mono ?_;rintro e w2 ⟨v2,rfl,ho2,hb2⟩;obtain ⟨a2,c2,rfl,hc2,hm2⟩:=Qbe ho2;have hC2:=Qan hC1 hb2;rw [HMm.out] at ho2 ⊢;have HO2:=LH (Qaq.owned ho2);clear ho2 hb2 hc2 hm2;go_wp2_with fail;refine hK _ _ (fun _=>hC2) ?_;clear hK K;refine Qah (fun K hK=>?_);go_wp2_with fail;refine (Qxh (S:=T) (by rw [HZ3.out];exact HMm.out) (HRA0.out.below (Qae hC2) NR) hm8).mono ?_;rw [HZ3.out];rintro e w3 ⟨v3,rfl,ho3,hb3⟩;obtain ⟨a3,c3,rfl,hc3,hm3⟩:=Qbe ho3;have hC3:=Qan hC2 hb3;have HO3:=LH (Qaq.owned ho3);have HO2':=LH (HO2.out.below hb3 NR);have hdl:(Qd3 S.dirty m).length≤1000000000:=by have:=Qlk S.dirty m;omega
 clear ho3 hb3 hc3 hm3;go_wp2_with fail;refine (Jes a2 a3 _ c2 c3 (Qd3 S.dirty m) rfl _ HO2'.out HO3.out hdl).mono ?_;rintro e w4 ⟨rfl,q4,rfl⟩;have hC4:=Qne hC3 q4;clear HO2 HO3 HO2';go_wp2_with fail;refine hK _ _ (fun h=>nomatch h) ?_;clear hK K;refine Qak hC4 ?_
 repeat (first|go_big_quiet_step (fail)|quiet_step (fail))
 refine wpQuiet_nil ?_;refine Qah (fun K hK=>?_);go_wp2_with fail;refine (Jef (HD0.out.below (Qae hC4))).mono ?_;rintro e w5 ⟨v5,rfl,ho5,hb5⟩;obtain ⟨a5,c5,rfl,hc5,hm5⟩:=Qbe ho5;have hC5:=Qan hC4 hb5;rw [HCL.out] at ho5 ⊢;have HO5:=LH (Qaq.owned ho5);clear ho5 hb5 hc5 hm5;go_wp2_with fail;refine hK _ _ (fun _=>hC5) ?_;clear hK K;refine Qal ?_;go_wp2_with fail;refine (Jc3 al m cl S.lasting _ (HK20.out.below (Qae hC5) NR) HLL.out hm8).mono ?_;rintro e w6 ⟨v6,rfl,ho6,hb6⟩;obtain ⟨a6,c6,rfl,hc6,hm6⟩:=Qbe ho6;have hC6:=Qan hC5 hb6;have HO6:=LH (Qaq.owned ho6);have HO5':=LH (HO5.out.below hb6 NR);clear ho6 hb6 hc6 hm6;go_wp2_with fail;refine (Jev a5 a6 (8*m) c5 c6 S.lasting HLL.out _ HO5'.out HO6.out (by omega)).mono ?_;rintro e w7 ⟨rfl,q7,rfl⟩;have HB7:=LH (Qae (Qne hC6 q7));clear HO5 HO6 HO5' hC1 hC2 hC3 hC4 hC5 hC6 r0 r1 r2 r3 r4 r5 r6 r7;generalize w6.drewN q7=w8 at *;go_wp2_with fail
 go_loopw [5] (fun i wr=>∃k:Nat,k≤8*m∧i=.int .i64 k∧Below w0.heap.size w0 wr) (fun i _=>8*m-(intOf i).toNat)
 case atStart=>exact ⟨0,Nat.zero_le _,rfl,HB7.out⟩
 case round =>
  obtain ⟨k,hk,rfl,hb⟩:=hrel;have c0:=(HM.out.later hb).cell 0 0 rfl rfl;have c1:=(HM.out.later hb).cell 0 1 rfl rfl;have HB:=LH hb;clear hb
  by_cases hlt:k<8*m
  ·have hlt':(k:Int)<8*(m:Int):=by omega
   have HDk:=LH (HD0.out.below HB.out);have HK1k:=LH (HK10.out.below HB.out NR);have HK2k:=LH (HK20.out.below HB.out NR);have HGet:=LH (fun W (h:Qa7 W F S)=>Qio h (k:Int));have HLas:=LH (fun W (h:Qa7 W F S)=>Qtr h (k:Int));have HRg1:=LH (fun W (h:Qaq W an (S.cache.map Qad))=>Qg8 an m cn S.cache W h HCL.out (by omega) (k:Int));have HRg2:=LH (fun W (h:Qaq W al (S.lasting.map Qad))=>Qg8 al m cl S.lasting W h HLL.out (by omega) (k:Int));generalize Qdr S.cache (k:Int)=x at *;generalize Qdr S.lasting (k:Int)=y at *;have hx1:((x:Int) != (x:Int))=false:=by simp
   have hx2:(x != x)=false:=by simp
   have hy1:((y:Int) != (y:Int))=false:=by simp
   have hy2:(y != y)=false:=by simp
   have r0:=fun x=>Qab c0 x
   have r1:=fun x=>Qab c1 x
   unfold Qei at HGet HLas;clear HB7;go_upto_region 6 with fail;refine Qai (C:=fun w'=>∃x:Qbi (wr),w'=x.val) [.fl [0,1,3,4,5],.sq [2] true,.sq [6,7,8] false,.fl [9,10,12,13,14],.sq [11] true,.sq [15,16,17] false] (by kernel_rfl) (by kernel_rfl) (by intro c a d v w h;cases d <;> exact h) ?_;simp only [Qdj,Qa3,List.getElem?_cons_succ,List.getElem?_cons_zero]
   have hC1:=Qaj (wr);refine Qak hC1 ?_
   repeat (first|go_big_quiet_step (fail)|quiet_step (fail))
   refine wpQuiet_nil ?_;refine Qah (fun K hK=>?_);go_wp2_with fail;refine (HGet.out _ (HDk.out.below (Qae hC1))).mono ?_;rintro e w2 ⟨rfl,rfl⟩;go_wp2_with fail;refine hK _ _ (fun _=>hC1) ?_;clear hK K;refine Qah (fun K hK=>?_);go_wp2_with fail;refine (HRg1.out _ (HK1k.out.below (Qae hC1) NR)).mono ?_;rintro e w2 ⟨rfl,rfl⟩;go_wp2_with fail;refine hK _ _ (fun h=>nomatch h) ?_;clear hK K;refine Qak hC1 ?_
   repeat (first|go_big_quiet_step (fail)|quiet_step (fail))
   refine wpQuiet_nil ?_;refine Qah (fun K hK=>?_);go_wp2_with fail;refine (HLas.out _ (HDk.out.below (Qae hC1))).mono ?_;rintro e w2 ⟨rfl,rfl⟩;go_wp2_with fail;refine hK _ _ (fun _=>hC1) ?_;clear hK K;refine Qal ?_;go_wp2_with fail;refine (HRg2.out _ (HK2k.out.below (Qae hC1) NR)).mono ?_;rintro e w2 ⟨rfl,rfl⟩;go_wp2_with fail;exact ⟨⟨k+1,by omega,Qb2 (by omega),HB.out.trans ((Qae hC1).mono HB.out.size)⟩,by simp [intOf];omega⟩
  ·obtain rfl:k=8*m:=by omega
   have hlt':decide (((8*m:Nat):Int)<8*(m:Int))=false:=by simp
   have hlt2:decide (8*(m:Int)<8*(m:Int))=false:=by simp
   go_wp2_with fail
   go_ret
   exact ⟨rfl,(HM.out.later HB.out).below⟩
theorem Jcg {w:World} {F:Qb0} {v:Value} {S:Dev} {m:Nat} (hm:S.dirty.length=m) (hd:Qa7 w F S) (h:RAt w v m S.ref) :
  Calls Tryz.prog 14 #[Qei F,v] w fun e w'=>e=.returned (.bool true)∧Below w.heap.size w w':=Qx1 hm hd h rfl rfl rfl rfl rfl
end
section
structure Jfy (S:Dev) (B:Nat):Prop where
 inv:S.inv
 fits:256+B≤S.cache.length
 clean:∀b,1≤b→b<B→S.dirty.getD ((256+b)/8) false=false
section
variable {S:Dev} {i:Nat} {V:Nat→Prop}
end
structure Qqd (B:Nat) (m:Bm):Prop where
 lenL:m.list.length=B
 lenF:m.free.length=B
 clean:Jfy m.dev B
 right:∀b,b<B→Qcg (m.list.getD b default).k (m.list.getD b default).c (m.list.getD b default).l=true
 word:∀b,1≤b→b<B→m.dev.cache.getD (256+b) 0=Qeq (b:Int) (m.list.getD b default).k (m.list.getD b default).c (m.list.getD b default).l
 free:∀b,fb m.free b=true↔1≤b∧b<B∧(m.list.getD b default).k=0
 large:∀b,1≤b→b<B→(m.list.getD b default).k=2→(b:Int)+(m.list.getD b default).l≤B∧∀i:Nat,1≤i→(i:Int)<(m.list.getD b default).l→m.list.getD (b+i) default=⟨3,0,i⟩
variable {B:Nat} {m:Bm}
variable {B:Nat} {m:Bm}
variable {B:Nat} {m:Bm}
theorem Qwg (h:Qqd B m) {a:Nat} (a1:1≤a) (a2:a<B):Qe9 m.list (a:Int)=m.list.getD a default:=by unfold Qe9;rw [if_neg (by rw [h.lenL];omega)];rfl
end
section
abbrev vob (p d:Int):Value:=.agg #[.int .i64 p,.int .i64 d]
def obN (p d:Int):Nat:=(165+256*p+16384*d).toNat
def Qfc (a p d:Int):Nat:=if Qap p d=0 then 0 else Qgf (obN p d) (pl a)
theorem Qkm {p d:Int} (h:Qap p d≠0):(0≤p∧p<64)∧(0≤d∧d≤16384):=by
 unfold Qap at h
 split at h
 ·exact absurd rfl h
 ·omega
theorem Qzp {p d:Int} (h:Qap p d≠0):obN p d<4294967296:=by
 have:=Qkm h;unfold obN;omega
theorem Qwq (a p d:Int):Qfc a p d<18446744073709551616:=by
 unfold Qfc
 split
 ·decide
 ·rename_i h;exact Qmt _ _ (Qzp h)
theorem Qv0 (a p d:Int) (w:World):Calls Tryz.prog 216 #[vob p d,.int .i64 a] w fun e w'=>e=.returned (Qad (Qfc a p d))∧Below w.heap.size w w':=by
 have hb:=Qaf w (Obj.cells #[Value.int .i64 p,Value.int .i64 d] 211);have hg:=heap_alloc_new w (Obj.cells #[Value.int .i64 p,Value.int .i64 d] 211);go_enter Tryz.func216,Tryz.ntmps216;go_wp2_with fail;generalize w.alloc (Obj.cells #[Value.int .i64 p,Value.int .i64 d] 211)=w0 at *;refine (Qkn p d w0).mono ?_;rintro e w1 ⟨rfl,hb1⟩;have hgl:w.heap.size<w0.heap.size:=(Array.getElem?_eq_some_iff.1 hg).1;have hbb:=hb.trans (hb1.mono hb.size);have hg1:w1.heap[w.heap.size]?=_:=(hb1.block _ hgl).trans hg;have c0:w1.cell? ⟨w.heap.size,0,none⟩=some (.int .i64 p):=cell_of_row _ _ 0 _ _ _ hg1;have c1:w1.cell? ⟨w.heap.size,1,none⟩=some (.int .i64 d):=cell_of_row _ _ 1 _ _ _ hg1;clear hb hb1 hg hgl hg1
 by_cases hr:Qap p d=0
 ·have HE:Hid (Qfc a p d=0):=LH (by unfold Qfc;rw [if_pos hr]);rw [hr];clear hr;go_wp2_with fail
  go_ret
  exact ⟨Qau (by rw [HE.out];rfl),hbb⟩
 ·have HE:Hid (Qfc a p d=Qgf (obN p d) (pl a)):=LH (by unfold Qfc;rw [if_neg hr]);have hn:=Qzp hr;obtain ⟨⟨p0,p1⟩,d0,d1⟩:=Qkm hr;have HN:Hid (obN p d=(165+p.toNat*256+d.toNat*16384)):=LH (by unfold obN;omega);have hz:(((Qap p d:Nat):Int) == 0)=false:=by simp;omega
  generalize Qap p d=sz at *;clear hr;obtain ⟨p,rfl⟩:=Int.eq_ofNat_of_zero_le p0;obtain ⟨d,rfl⟩:=Int.eq_ofNat_of_zero_le d0;simp only [Int.toNat_natCast] at HN
  have P1:Hid (Calls Tryz.prog 151 #[Qad 165,.int .i64 8,.int .i64 6,Qad p] w1 fun e w'=>e=.returned (Qad (165+p*256))∧w1=w'):=LH (Qnf 165 8 6 p (by omega) (by omega) (by decide) (by decide) w1);have P2:Hid (Calls Tryz.prog 151 #[Qad (165+p*256),.int .i64 14,.int .i64 15,Qad d] w1 fun e w'=>e=.returned (Qad (165+p*256+d*16384))∧w1=w'):=LH (Qnf (165+p*256) 14 15 d (by omega) (by omega) (by decide) (by decide) w1);go_wp2_with fail;refine P1.out.mono ?_;rintro e w2 ⟨rfl,rfl⟩;go_wp2_with fail;refine P2.out.mono ?_;rintro e w2 ⟨rfl,rfl⟩;rw [← HN.out];generalize obN (p:Int) (d:Int)=n at *;clear P1 P2;go_wp2_with fail;refine (Qq5 n _ hn _).mono ?_;rintro e w2 ⟨rfl,hb2⟩;rw [← HE.out];go_wp2_with fail
  go_ret
  exact ⟨rfl,hbb.trans (hb2.mono hbb.size)⟩
theorem Qhh:Agg Tryz.prog 211 #[.int .i64 0,.int .i64 0]:=⟨⟨_,Tryz.underlying211,rfl⟩,by kernel_rfl⟩
structure Qru where
 p:Int
 d:Int
 code:Int
def Qx4 (a:Int) (x n:Nat):Qru:=if Qfc a (n/256 % 64:Nat) (n/16384 % 32768:Nat)=x then ⟨(n/256 % 64:Nat),(n/16384 % 32768:Nat),0⟩ else ⟨0,0,26⟩
def Qc8 (a:Int) (x:Nat):Qru:=((Qeo x (pl a)).map (Qx4 a x)).getD ⟨0,0,25⟩
def Qru.val (o:Qru):Value:=.tuple #[vob o.p o.d,.int .i64 o.code]
theorem Qpy {a:Int} {x:Nat} (h:Qeo x (pl a)=none):(Qc8 a x).val=.tuple #[vob 0 0,.int .i64 25]:=by unfold Qc8;rw [h];rfl
theorem Qkw {a:Int} {x n:Nat} (h:Qeo x (pl a)=some n):Qc8 a x=Qx4 a x n:=by unfold Qc8;rw [h];rfl
theorem Qwy {a:Int} {x n:Nat} (h:Qeo x (pl a)=some n) (he:Qfc a (n/256 % 64:Nat) (n/16384 % 32768:Nat)=x) :
  (Qc8 a x).val=.tuple #[vob (n/256 % 64:Nat) (n/16384 % 32768:Nat),.int .i64 0]:=by
 rw [Qkw h,Qx4,if_pos he];rfl
theorem Qt6 {a:Int} {x n:Nat} (h:Qeo x (pl a)=some n) (he:Qfc a (n/256 % 64:Nat) (n/16384 % 32768:Nat)≠x) :
  (Qc8 a x).val=.tuple #[vob 0 0,.int .i64 26]:=by
 rw [Qkw h,Qx4,if_neg he];rfl
theorem Qu8 (a:Int) (x:Nat) (hx:x<18446744073709551616) (w:World) :
  Calls Tryz.prog 201 #[.int .i64 a,Qad x] w fun e w'=>e=.returned (Qc8 a x).val∧Below w.heap.size w w':=by
 have hbA:=Qaf w (Obj.cells #[Value.int .i64 0,Value.int .i64 0] 211);have hg:=heap_alloc_new w (Obj.cells #[Value.int .i64 0,Value.int .i64 0] 211);go_enter Tryz.func201,Tryz.ntmps201;go_wp2_with fail;generalize w.alloc (Obj.cells #[Value.int .i64 0,Value.int .i64 0] 211)=w0 at *;refine (Qw2 x _ hx w0).mono ?_;rintro e w1 ⟨rfl,hbo⟩;have hgl:w.heap.size<w0.heap.size:=(Array.getElem?_eq_some_iff.1 hg).1;have hbb:=hbA.trans (hbo.mono hbA.size);have hg1:w1.heap[w.heap.size]?=_:=(hbo.block _ hgl).trans hg;clear hbA hbo hg hgl
 cases ho:Qeo x (pl a) with
 | none =>
  have HV:=LH (Qpy ho);clear ho;simp only [Qkb]
  go_wp2_with (refine Qa1 (cs:=#[.int .i64 0,.int .i64 0]) Qhh hg1 rfl rfl (by simp [Value.oneCell']) rfl rfl rfl rfl ?_;intro w2 hg2 hgr2 hs2)
  refine bodyPost_ret (Qac (p:=4) (u:=5) rfl _ _ _ _ _ _ _ rfl hg2 Tryz.underlying211 rfl (by kernel_rfl)) rfl ⟨by rw [HV.out];rfl,?_⟩;exact hbb.grown hgr2 hbb.size (fun k e=>by cases e;omega)
 | some n =>
  obtain ⟨hn,-⟩:=Qfk ho;have HK:=LH (Qwy ho);have HL:=LH (Qt6 ho);clear ho;simp only [Qkb]
  have G1:Hid (∀w,Calls Tryz.prog 139 #[Qad n,.int .i64 8,.int .i64 6] w fun e w'=>e=.returned (Qad (n/256 % 64))∧w=w'):=LH (fun w=>Qnp n 8 6 (by omega) (by decide) (by decide) (by decide) w);have G2:Hid (∀w,Calls Tryz.prog 139 #[Qad n,.int .i64 14,.int .i64 15] w fun e w'=>e=.returned (Qad (n/16384 % 32768))∧w=w'):=LH (fun w=>Qnp n 14 15 (by omega) (by decide) (by decide) (by decide) w);have h64:n/256 % 64<64:=by omega
  have h6:n/16384 % 32768<32768:=by omega
  generalize n/256 % 64=k at *;generalize n/16384 % 32768=l at *;go_wp2_with fail;refine (G1.out _).mono ?_;rintro e w2 ⟨rfl,rfl⟩;go_wp2_with fail;refine (G2.out _).mono ?_;rintro e w2 ⟨rfl,rfl⟩;clear G1 G2;go_wp2_with fail;have hb1:=Qaf w1 (Obj.cells #[Value.int .i64 (k:Int),Value.int .i64 (l:Int)] 211);have hg2:=heap_alloc_new w1 (Obj.cells #[Value.int .i64 (k:Int),Value.int .i64 (l:Int)] 211);generalize w1.alloc (Obj.cells #[Value.int .i64 (k:Int),Value.int .i64 (l:Int)] 211)=w2 at *;refine (Qv0 a k l w2).mono ?_;rintro e w3 ⟨rfl,hb3⟩;have hgl:w.heap.size<w1.heap.size:=(Array.getElem?_eq_some_iff.1 hg1).1;have hgl2:w1.heap.size<w2.heap.size:=(Array.getElem?_eq_some_iff.1 hg2).1;have hb3':=hbb.trans ((hb1.trans (hb3.mono hb1.size)).mono hbb.size);have hg3:w3.heap[w.heap.size]?=_:=(hb3.block _ (by omega)).trans ((hb1.block _ hgl).trans hg1);have hg4:w3.heap[w1.heap.size]?=_:=(hb3.block _ hgl2).trans hg2;have he:=Qwq a k l;clear hb1 hb3 hg1 hg2 hbb;generalize Qfc a k l=y at *
  by_cases hyx:y=x
  ·have HV:=LH (HK.out hyx);subst hyx;have d0:w3.cell? ⟨w1.heap.size,0,none⟩=some (.int .i64 k):=cell_of_row _ _ 0 _ _ _ hg4;have d1:w3.cell? ⟨w1.heap.size,1,none⟩=some (.int .i64 l):=cell_of_row _ _ 1 _ _ _ hg4;go_wp2_with (refine Qa1 (cs:=#[.int .i64 k,.int .i64 l]) Qhh hg3 rfl rfl (by simp [Value.oneCell']) rfl rfl rfl rfl ?_;intro w4 hg5 hgr4 hs4)
   refine bodyPost_ret (Qac (p:=4) (u:=5) rfl _ _ _ _ _ _ _ rfl hg5 Tryz.underlying211 rfl (by kernel_rfl)) rfl ⟨by rw [HV.out];rfl,?_⟩;exact hb3'.grown hgr4 hb3'.size (fun k e=>by cases e;omega)
  ·have HV:=LH (HL.out hyx);have hne:¬((y:Int)=(x:Int)):=by omega
   clear hyx;go_wp2_with (refine Qa1 (cs:=#[.int .i64 0,.int .i64 0]) Qhh hg3 rfl rfl (by simp [Value.oneCell']) rfl rfl rfl rfl ?_;intro w4 hg5 hgr4 hs4)
   refine bodyPost_ret (Qac (p:=4) (u:=5) rfl _ _ _ _ _ _ _ rfl hg5 Tryz.underlying211 rfl (by kernel_rfl)) rfl ⟨by rw [HV.out];rfl,?_⟩;exact hb3'.grown hgr4 hb3'.size (fun k e=>by cases e;omega)
theorem Qsj {a:Int} {x:Nat} (h:(Qc8 a x).code=0):Qap (Qc8 a x).p (Qc8 a x).d≠0∧Qfc a (Qc8 a x).p (Qc8 a x).d=x:=by
 unfold Qc8 at h ⊢
 cases ho:Qeo x (pl a) with
 | none=>rw [ho] at h;simp at h
 | some n =>
  rw [ho] at h;simp only [Option.map_some,Option.getD_some] at h ⊢
  obtain ⟨h1,h2⟩:=Qfk ho;unfold Qx4 at h ⊢
  split
  ·rename_i he
   dsimp only;refine ⟨fun hs=>?_,he⟩;unfold Qfc at he;rw [if_pos hs] at he;subst he;simp at h2
   subst h2
   revert hs
   decide
  ·rename_i he
   rw [if_neg he] at h;simp at h
theorem Jc0 (p d i:Int) (w:World):Calls Tryz.prog 221 #[vob p d,.int .i64 i] w fun e w'=>e=.returned (.tuple #[.int .i64 (IntKind.i64.wrap (1+i)),.bool (decide (0≤i∧i<p))])∧Below w.heap.size w w':=by
 have hb:=Qaf w (Obj.cells #[Value.int .i64 p,Value.int .i64 d] 211);have c0:(w.alloc (Obj.cells #[Value.int .i64 p,Value.int .i64 d] 211)).cell? ⟨w.heap.size,0,none⟩=some (.int .i64 p):=Qat _ _ _ 0 _ rfl;have HB:=LH hb;clear hb;generalize hz:IntKind.i64.wrap (1+i)=z
 by_cases h0:0≤i
 ·have h0d:decide (0≤i)=true:=by simpa using h0
  by_cases h1:i<p
  ·go_enter Tryz.func221,Tryz.ntmps221;go_wp2_with fail
   go_quiet (fail)
   go_wp2_with fail
   go_ret2
   exact ⟨by simp [h0,h1],below_drewN HB.out _⟩
  ·go_enter Tryz.func221,Tryz.ntmps221;go_wp2_with fail
   go_quiet (fail)
   go_wp2_with fail
   go_ret2
   exact ⟨by simp [h0],below_drewN HB.out _⟩
 ·have h0d:decide (0≤i)=false:=by simpa using h0
  go_enter Tryz.func221,Tryz.ntmps221;go_wp2_with fail
  go_quiet (fail)
  go_wp2_with fail
  go_ret2
  exact ⟨by simp;omega,below_drewN HB.out _⟩
theorem Jb2 (p d i:Int) (w:World):Calls Tryz.prog 222 #[vob p d,.int .i64 i] w fun e w'=>e=.returned (.tuple #[.int .i64 (IntKind.i64.wrap (IntKind.i64.wrap (1+p)+i)),.bool (decide (0≤i∧i<d))])∧Below w.heap.size w w':=by
 have hb:=Qaf w (Obj.cells #[Value.int .i64 p,Value.int .i64 d] 211);have c0:(w.alloc (Obj.cells #[Value.int .i64 p,Value.int .i64 d] 211)).cell? ⟨w.heap.size,0,none⟩=some (.int .i64 p):=Qat _ _ _ 0 _ rfl;have c1:(w.alloc (Obj.cells #[Value.int .i64 p,Value.int .i64 d] 211)).cell? ⟨w.heap.size,1,none⟩=some (.int .i64 d):=Qat _ _ _ 1 _ rfl;have HB:=LH hb;clear hb;generalize hy:IntKind.i64.wrap (1+p)=y;generalize hz:IntKind.i64.wrap (y+i)=z
 by_cases h0:0≤i
 ·have h0d:decide (0≤i)=true:=by simpa using h0
  by_cases h1:i<d
  ·go_enter Tryz.func222,Tryz.ntmps222;go_wp2_with fail
   go_quiet (fail)
   go_wp2_with fail
   go_ret2
   exact ⟨by simp [h0,h1],below_drewN HB.out _⟩
  ·go_enter Tryz.func222,Tryz.ntmps222;go_wp2_with fail
   go_quiet (fail)
   go_wp2_with fail
   go_ret2
   exact ⟨by simp [h0],below_drewN HB.out _⟩
 ·have h0d:decide (0≤i)=false:=by simpa using h0
  go_enter Tryz.func222,Tryz.ntmps222;go_wp2_with fail
  go_quiet (fail)
  go_wp2_with fail
  go_ret2
  exact ⟨by simp;omega,below_drewN HB.out _⟩
def Qa9 (S:Dev) (a:Int):Qru :=
 if a<0∨(S.cache.length:Int)≤a then ⟨0,0,22⟩ else
  if (Qc8 a (Qdr S.cache a)).code≠0∨(S.cache.length:Int)-a<(Qap (Qc8 a (Qdr S.cache a)).p (Qc8 a (Qdr S.cache a)).d:Nat) then ⟨0,0,22⟩ else ⟨(Qc8 a (Qdr S.cache a)).p,(Qc8 a (Qdr S.cache a)).d,0⟩
theorem Qfl (S:Dev) (a:Int):((Qa9 S a).code=0∧0≤a∧a<S.cache.length∧Qap (Qa9 S a).p (Qa9 S a).d≠0∧a+(Qap (Qa9 S a).p (Qa9 S a).d:Nat)≤S.cache.length∧Qfc a (Qa9 S a).p (Qa9 S a).d=Qdr S.cache a)∨Qa9 S a=⟨0,0,22⟩:=by
 have hz:=Qsj (a:=a) (x:=Qdr S.cache a);unfold Qa9;generalize Qc8 a (Qdr S.cache a)=x at *;obtain ⟨p,d,c⟩:=x;dsimp only at hz ⊢
 split
 ·exact .inr rfl
 ·split
  ·exact .inr rfl
  ·rename_i h1 h2
   have hc:c=0:=Decidable.byContradiction fun h=>h2 (.inl h)
   have:=hz hc;generalize Qfc a p d=y at *;generalize Qap p d=s at *;exact .inl ⟨rfl,by omega,by omega,this.1,by omega,this.2⟩
theorem Qn5 {w:World} {F:Qb0} {S:Dev} (h:Qa7 w F S) (a:Int) :
  Calls Tryz.prog 180 #[Qei F,.int .i64 a] w fun e w'=>e=.returned (Qa9 S a).val∧Below w.heap.size w w':=by
 have hbA:=Qaf w (Obj.cells #[Value.int .i64 0,Value.int .i64 0] 211);have hg:=heap_alloc_new w (Obj.cells #[Value.int .i64 0,Value.int .i64 0] 211);have hd:=h.below hbA;have hsm:=h.small;have HE:Hid (∀x:Qru,x=⟨0,0,22⟩→x.val=.tuple #[vob 0 0,.int .i64 22]):=LH (by rintro x rfl;rfl);have HB:=LH hbA;have HD:=LH hd;clear hbA hd h
 by_cases h0:a<0
 ·have HV:Hid (Qa9 S a=⟨0,0,22⟩):=LH (by unfold Qa9;rw [if_pos (.inl h0)]);go_enter Tryz.func180,Tryz.ntmps180;go_wp2_with (refine Qa1 (cs:=#[.int .i64 0,.int .i64 0]) Qhh hg rfl rfl (by simp [Value.oneCell']) rfl rfl rfl rfl ?_;intro w4 hg5 hgr4 hs4)
  refine bodyPost_ret (Qac (p:=4) (u:=5) rfl _ _ _ _ _ _ _ rfl hg5 Tryz.underlying211 rfl (by kernel_rfl)) rfl ⟨by rw [HE.out _ HV.out];rfl,?_⟩;exact HB.out.grown hgr4 HB.out.size (fun k e=>by cases e;omega)
 by_cases h1:(S.cache.length:Int)≤a
 ·have HV:Hid (Qa9 S a=⟨0,0,22⟩):=LH (by unfold Qa9;rw [if_pos (.inr h1)]);go_enter Tryz.func180,Tryz.ntmps180;go_wp2_with fail;refine (Qc0 HD.out).mono ?_;rintro e w1 ⟨rfl,rfl⟩;go_wp2_with (refine Qa1 (cs:=#[.int .i64 0,.int .i64 0]) Qhh hg rfl rfl (by simp [Value.oneCell']) rfl rfl rfl rfl ?_;intro w4 hg5 hgr4 hs4)
  refine bodyPost_ret (Qac (p:=4) (u:=5) rfl _ _ _ _ _ _ _ rfl hg5 Tryz.underlying211 rfl (by kernel_rfl)) rfl ⟨by rw [HE.out _ HV.out];rfl,?_⟩;exact HB.out.grown hgr4 HB.out.size (fun k e=>by cases e;omega)
 have HV0:Hid (Qa9 S a=if (Qc8 a (Qdr S.cache a)).code≠0∨(S.cache.length:Int)-a<(Qap (Qc8 a (Qdr S.cache a)).p (Qc8 a (Qdr S.cache a)).d:Nat) then ⟨0,0,22⟩ else ⟨(Qc8 a (Qdr S.cache a)).p,(Qc8 a (Qdr S.cache a)).d,0⟩):=LH (by unfold Qa9;rw [if_neg (by omega)]);go_enter Tryz.func180,Tryz.ntmps180;go_wp2_with fail;refine (Qc0 HD.out).mono ?_;rintro e w1 ⟨rfl,rfl⟩;go_wp2_with fail;refine (Qio HD.out a).mono ?_;rintro e w1 ⟨rfl,rfl⟩;have hpk:=Qql HD.out.u64C a;generalize w.alloc (Obj.cells #[Value.int .i64 0,Value.int .i64 0] 211)=w0 at *;go_wp2_with fail;refine (Qu8 a _ hpk _).mono ?_;rintro e w1 ⟨rfl,hb1⟩;have hg0:w.heap.size<w0.heap.size:=(Array.getElem?_eq_some_iff.1 hg).1;have hg1:w1.heap[w.heap.size]?=_:=(hb1.block _ hg0).trans hg;have HB1:=LH (HB.out.trans (hb1.mono HB.out.size));have HD1:=LH (HD.out.below hb1);clear hb1 hg HB HD hpk;generalize Qc8 a (Qdr S.cache a)=x at *;obtain ⟨p,d,c⟩:=x;unfold Qru.val;dsimp only at HV0 ⊢;have hbx:=Qaf w1 (Obj.cells #[Value.int .i64 p,Value.int .i64 d] 211);have hg2:=(hbx.block w.heap.size (by have:=HB1.out.size;exact (Array.getElem?_eq_some_iff.1 hg1).1)).trans hg1;have HB2:=LH (HB1.out.trans (hbx.mono HB1.out.size));have HD2:=LH (HD1.out.below hbx);have e0:(w1.alloc (Obj.cells #[Value.int .i64 p,Value.int .i64 d] 211)).cell? ⟨w1.heap.size,0,none⟩=some (.int .i64 p):=Qat _ _ _ 0 _ rfl;have e1:(w1.alloc (Obj.cells #[Value.int .i64 p,Value.int .i64 d] 211)).cell? ⟨w1.heap.size,1,none⟩=some (.int .i64 d):=Qat _ _ _ 1 _ rfl;clear hbx hg1 HB1 HD1
 by_cases hc:c=0
 ·subst hc;go_wp2_with fail;refine (Qkn p d _).mono ?_;rintro e w2 ⟨rfl,hb2⟩;generalize w1.alloc (Obj.cells #[Value.int .i64 p,Value.int .i64 d] 211)=w1' at *;have hg3:w2.heap[w.heap.size]?=_:=(hb2.block _ (Array.getElem?_eq_some_iff.1 hg2).1).trans hg2;have HB3:=LH (HB2.out.trans (hb2.mono HB2.out.size));have HD3:=LH (HD2.out.below hb2);have f0:=Qaz hb2 e0 NR;have f1:=Qaz hb2 e1 NR;clear hb2 HB2 HD2 hg2 e0 e1;go_wp2_with fail;refine (Qc0 HD3.out).mono ?_;rintro e w3 ⟨rfl,rfl⟩;have hw1:IntKind.i64.wrap ((S.cache.length:Int)-a)=(S.cache.length:Int)-a:=IntWalk.i64_in _ (by omega)
  by_cases hs:(S.cache.length:Int)-a<(Qap p d:Nat)
  ·have HV:Hid (Qa9 S a=⟨0,0,22⟩):=LH (by rw [HV0.out,if_pos (.inr hs)]);go_wp2_with (refine Qa1 (cs:=#[.int .i64 0,.int .i64 0]) Qhh hg3 rfl rfl (by simp [Value.oneCell']) rfl rfl rfl rfl ?_;intro w4 hg5 hgr4 hs4)
   refine bodyPost_ret (Qac (p:=4) (u:=5) rfl _ _ _ _ _ _ _ rfl hg5 Tryz.underlying211 rfl (by kernel_rfl)) rfl ⟨by rw [HE.out _ HV.out];rfl,?_⟩;exact HB3.out.grown hgr4 HB3.out.size (fun k e=>by cases e;omega)
  ·have HV:Hid (Qa9 S a=⟨p,d,0⟩):=LH (by rw [HV0.out,if_neg (fun h=>h.elim (fun h=>h rfl) hs)]);go_wp2_with (refine Qa1 (cs:=#[.int .i64 p,.int .i64 d]) Qhh hg3 rfl rfl (by simp [Value.oneCell']) rfl rfl rfl rfl ?_;intro w4 hg5 hgr4 hs4)
   refine bodyPost_ret (Qac (p:=4) (u:=5) rfl _ _ _ _ _ _ _ rfl hg5 Tryz.underlying211 rfl (by kernel_rfl)) rfl ⟨by rw [HV.out];rfl,?_⟩;exact HB3.out.grown hgr4 HB3.out.size (fun k e=>by cases e;omega)
 ·have HV:Hid (Qa9 S a=⟨0,0,22⟩):=LH (by rw [HV0.out,if_pos (.inl hc)]);have hc1:(c != 0)=true:=by simpa using hc
  clear hc;go_wp2_with (refine Qa1 (cs:=#[.int .i64 0,.int .i64 0]) Qhh hg2 rfl rfl (by simp [Value.oneCell']) rfl rfl rfl rfl ?_;intro w4 hg5 hgr4 hs4)
  refine bodyPost_ret (Qac (p:=4) (u:=5) rfl _ _ _ _ _ _ _ rfl hg5 Tryz.underlying211 rfl (by kernel_rfl)) rfl ⟨by rw [HE.out _ HV.out];rfl,?_⟩;exact HB2.out.grown hgr4 HB2.out.size (fun k e=>by cases e;omega)
structure Jih where
 at_:Int
 code:Int
def Qiy (S:Dev) (a i:Int) (data:Bool):Jih :=
 if (Qa9 S a).code≠0 then ⟨0,22⟩ else
  if data=true then (if 0≤i∧i<(Qa9 S a).d then ⟨a+(1+(Qa9 S a).p+i),0⟩ else ⟨0,7⟩) else (if 0≤i∧i<(Qa9 S a).p then ⟨a+(1+i),0⟩ else ⟨0,7⟩)
theorem Qis {S:Dev} (hw:S.cache.length≤1000000) {a:Int} (h:(Qa9 S a).code=0):(0≤a∧a<1000000)∧(0≤(Qa9 S a).p∧(Qa9 S a).p<64)∧(0≤(Qa9 S a).d∧(Qa9 S a).d≤16384):=by
 rcases Qfl S a with ⟨_,h1,h2,h3,_⟩ | h1
 ·have:=Qkm h3;exact ⟨⟨h1,by omega⟩,this⟩
 ·rw [h1] at h;simp at h
theorem Qxf {w:World} {F:Qb0} {S:Dev} (h:Qa7 w F S) (a i:Int) (data:Bool) :
  Calls Tryz.prog 215 #[Qei F,.int .i64 a,.int .i64 i,.bool data] w fun e w'=>e=.returned (.tuple #[.int .i64 (Qiy S a i data).at_,.int .i64 (Qiy S a i data).code])∧Below w.heap.size w w':=by
 have HSm:=LH (Qis h.small (a:=a));have HPL:Hid (Qiy S a i data=if (Qa9 S a).code≠0 then ⟨0,22⟩ else if data=true then (if 0≤i∧i<(Qa9 S a).d then ⟨a+(1+(Qa9 S a).p+i),0⟩ else ⟨0,7⟩) else (if 0≤i∧i<(Qa9 S a).p then ⟨a+(1+i),0⟩ else ⟨0,7⟩)):=LH rfl;have HC:=LH (Qfl S a);have HD:=LH h;clear h;generalize Qiy S a i data=pn at *;go_enter Tryz.func215,Tryz.ntmps215;go_wp2_with fail;refine (Qn5 HD.out a).mono ?_;rintro e w1 ⟨rfl,hb1⟩;have hC22:Hid ((Qa9 S a).code=0∨(Qa9 S a).code=22):=LH (HC.out.elim (fun h=>.inl h.1) (fun h=>.inr (by rw [h])));generalize Qa9 S a=x at *;obtain ⟨p,d,c⟩:=x;unfold Qru.val;dsimp only at HSm HPL hC22 ⊢;have hbx:=Qaf w1 (Obj.cells #[Value.int .i64 p,Value.int .i64 d] 211);have HB:=LH (hb1.trans (hbx.mono hb1.size));have e0:(w1.alloc (Obj.cells #[Value.int .i64 p,Value.int .i64 d] 211)).cell? ⟨w1.heap.size,0,none⟩=some (.int .i64 p):=Qat _ _ _ 0 _ rfl;have e1:(w1.alloc (Obj.cells #[Value.int .i64 p,Value.int .i64 d] 211)).cell? ⟨w1.heap.size,1,none⟩=some (.int .i64 d):=Qat _ _ _ 1 _ rfl;clear hb1 hbx HC HD
 by_cases hc:c=0
 ·subst hc;obtain ⟨ha,hp,hd⟩:=HSm.out rfl;go_wp2_with fail;refine (Jc0 p d i _).mono ?_;rintro e w2 ⟨rfl,hb2⟩;generalize w1.alloc (Obj.cells #[Value.int .i64 p,Value.int .i64 d] 211)=w1' at *;have HB2:=LH (HB.out.trans (hb2.mono HB.out.size));have f0:=Qaz hb2 e0 NR;have f1:=Qaz hb2 e1 NR;clear hb2 HB e0 e1
  cases data
  ·by_cases hi:0≤i∧i<p
   ·have hw1:IntKind.i64.wrap (1+i)=1+i:=IntWalk.i64_in _ (by omega);have hw2:IntKind.i64.wrap (a+(1+i))=a+(1+i):=IntWalk.i64_in _ (by omega);have hd1:decide (0≤i∧i<p)=true:=by simpa using hi
    have HV:Hid (pn=⟨a+(1+i),0⟩):=LH (by rw [HPL.out,if_neg (by simp),if_neg (by simp),if_pos hi]);rw [hd1,hw1];clear hi hd1;go_wp2_with fail
    go_ret2
    exact ⟨by rw [HV.out];rfl,HB2.out⟩
   ·have hd1:decide (0≤i∧i<p)=false:=by simpa using hi
    have HV:Hid (pn=⟨0,7⟩):=LH (by rw [HPL.out,if_neg (by simp),if_neg (by simp),if_neg hi]);rw [hd1];clear hi hd1;go_wp2_with fail
    go_ret2
    exact ⟨by rw [HV.out];rfl,HB2.out⟩
  ·generalize IntKind.i64.wrap (1+i)=z1 at *;generalize decide (0≤i∧i<p)=bb at *;go_wp2_with fail;refine (Jb2 p d i _).mono ?_;rintro e w3 ⟨rfl,hb3⟩;have HB3:=LH (HB2.out.trans (hb3.mono HB2.out.size));clear hb3 HB2 f0 f1;have hw1:IntKind.i64.wrap (1+p)=1+p:=IntWalk.i64_in _ (by omega);rw [hw1]
   by_cases hi:0≤i∧i<d
   ·have hw2:IntKind.i64.wrap (1+p+i)=1+p+i:=IntWalk.i64_in _ (by omega);have hw3:IntKind.i64.wrap (a+(1+p+i))=a+(1+p+i):=IntWalk.i64_in _ (by omega);have hd1:decide (0≤i∧i<d)=true:=by simpa using hi
    have HV:Hid (pn=⟨a+(1+p+i),0⟩):=LH (by rw [HPL.out];simp [hi]);rw [hd1,hw2];clear hi hd1;go_wp2_with fail
    go_ret2
    exact ⟨by rw [HV.out];rfl,HB3.out⟩
   ·have hd1:decide (0≤i∧i<d)=false:=by simpa using hi
    have HV:Hid (pn=⟨0,7⟩):=LH (by rw [HPL.out];simp [hi]);rw [hd1];clear hi hd1;go_wp2_with fail
    go_ret2
    exact ⟨by rw [HV.out];rfl,HB3.out⟩
 ·have hc2:c=22:=hC22.out.elim (fun h=>absurd h hc) id;subst hc2;have HV:Hid (pn=⟨0,22⟩):=LH (by rw [HPL.out,if_pos hc]);clear hc;go_wp2_with fail
  go_ret2
  exact ⟨by rw [HV.out];rfl,HB.out⟩
theorem Qvb (S:Dev) (a:Int):(Qa9 S a).code=0∨(Qa9 S a).code=22:=(Qfl S a).elim (fun h=>.inl h.1) (fun h=>.inr (by rw [h]))
def Dev.lastsTo (S:Dev) (a:Int) (k:Nat):Prop:=∀i:Nat,i<k→Qdr S.lasting (a+(i:Int))=Qdr S.cache (a+(i:Int))
instance (S:Dev) (a:Int) (k:Nat):Decidable (S.lastsTo a k):=Nat.decidableBallLT k _
structure AF where
 a:Nat
 X:MF
 U:Qgo
 f:Nat
 mb:Nat
 R:List Nat
def AF.fix (A:AF):List Nat:=A.a :: (A.X.list ++ A.U.list)
def AF.list (A:AF):List Nat:=A.fix ++ A.R
def AF.hot (A:AF):List Nat:=A.X.hot ++ (A.U.list ++ A.R)
structure Al where
 bm:Bm
 used:List Bool
 fl:FL
def alV (A:AF) (B:Nat):Array Value:=#[.pointer (some ⟨A.X.m,0,none⟩),Qei A.X.F,.int .i64 (B:Int),Qk6 A.U,.pointer (some ⟨A.f,0,none⟩)]
abbrev Qeb (A:AF):Value:=.pointer (some ⟨A.a,0,none⟩)
structure Qfy (w:World) (A:AF) (n B:Nat) (m:Al):Prop where
 head:w.heap[A.a]?=some (.cells (alV A B) 77 (0,0))
 man:Qfg w A.X n B m.bm
 set:Qez w A.U m.used
 free:Qd5 w A.f A.mb n A.R m.fl
 nd:A.fix.Nodup
 nR:∀b∈A.R,b∉A.fix
 lenU:m.used.length=m.bm.dev.cache.length
theorem Qfy.mem {w:World} {A:AF} {n B:Nat} {m:Al} (h:Qfy w A n B m):∀k∈A.list,k<w.heap.size:=by
 intro k hk;simp only [AF.list,AF.fix,List.mem_append,List.mem_cons] at hk
 rcases hk with (rfl | hk | hk) | hk
 ·exact (Array.getElem?_eq_some_iff.1 h.head).1
 ·exact h.man.mem k hk
 ·exact h.set.mem k hk
 ·exact h.free.mem k hk
theorem Qfy.keep {w w':World} {A:AF} {n B:Nat} {m:Al} (h:Qfy w A n B m) (hk:∀k∈A.list,w'.heap[k]?=w.heap[k]?):Qfy w' A n B m :=
 ⟨(hk A.a (by simp [AF.list,AF.fix])).trans h.head,h.man.keep (fun k h=>hk k (by simp [AF.list,AF.fix,h])),h.set.keep (fun k h=>hk k (by simp [AF.list,AF.fix,h])),h.free.keep (fun k h=>hk k (by simp [AF.list,h])),h.nd,h.nR,h.lenU⟩
theorem Qfy.below {w w':World} {A:AF} {n B:Nat} {m:Al} (h:Qfy w A n B m) (hb:Below w.heap.size w w'):Qfy w' A n B m:=h.keep (fun k hk=>hb.block k (h.mem k hk))
theorem Qfy.c0 {w:World} {A:AF} {n B:Nat} {m:Al} (h:Qfy w A n B m):w.cell? ⟨A.a,0,none⟩=some (.pointer (some ⟨A.X.m,0,none⟩)):=cell_of_row _ _ 0 _ _ _ h.head
theorem Qfy.c1 {w:World} {A:AF} {n B:Nat} {m:Al} (h:Qfy w A n B m):w.cell? ⟨A.a,1,none⟩=some (Qei A.X.F):=cell_of_row _ _ 1 _ _ _ h.head
theorem Qfy.c2 {w:World} {A:AF} {n B:Nat} {m:Al} (h:Qfy w A n B m):w.cell? ⟨A.a,2,none⟩=some (.int .i64 (B:Int)):=cell_of_row _ _ 2 _ _ _ h.head
theorem Qfy.c3 {w:World} {A:AF} {n B:Nat} {m:Al} (h:Qfy w A n B m):w.cell? ⟨A.a,3,none⟩=some (Qk6 A.U):=cell_of_row _ _ 3 _ _ _ h.head
theorem Qfy.c4 {w:World} {A:AF} {n B:Nat} {m:Al} (h:Qfy w A n B m):w.cell? ⟨A.a,4,none⟩=some (.pointer (some ⟨A.f,0,none⟩)):=cell_of_row _ _ 4 _ _ _ h.head
theorem Jdj {w:World} {p g c B:Nat} {F:Qb0} {l:List Hd} (h:Jaz w p g c F B l) :
  Calls Tryz.prog 120 #[.pointer (some ⟨p,0,none⟩)] w fun e w'=>e=.returned (.int .i64 (B:Int))∧w=w':=by
 have c2:w.cell? ⟨p,2,none⟩=some (.slice (some ⟨g,0,none⟩) B c):=cell_of_row _ _ 2 _ _ _ h.head;clear h;go_enter Tryz.func120,Tryz.ntmps120;go_wp2_with fail
 go_ret
 exact ⟨rfl,rfl⟩
end
section
def Qc3 (L:List Hd) (k a:Nat):Prop :=
 512≤a∧a<512*L.length∧L.getD (a/512) default=⟨1,k,0⟩∧a % 512 % Qar k=0∧a % 512/Qar k<Qbd k
instance (L:List Hd) (k a:Nat):Decidable (Qc3 L k a):=by unfold Qc3;infer_instance
def Qax (S:Dev) (L:List Hd) (a:Int):Option Qru :=
 if a<512∨512*(L.length:Int)≤a∨(Qa9 S a).code≠0 then none
 else if small (Qap (Qa9 S a).p (Qa9 S a).d) then (if Qc3 L (ofN (Qap (Qa9 S a).p (Qa9 S a).d:Nat)) a.toNat then some (Qa9 S a) else none)
 else if a.toNat % 512=0∧Qa4 L (a.toNat/512)=Qbm (Qap (Qa9 S a).p (Qa9 S a).d) then some (Qa9 S a) else none
theorem Qon {S:Dev} {L:List Hd} {a:Int} {o:Qru} (h:Qax S L a=some o):Qa9 S a=o∧o.code=0∧512≤a∧a<512*(L.length:Int):=by
 unfold Qax at h
 split at h
 ·cases h
 ·rename_i h0
  have hc:(Qa9 S a).code=0:=Decidable.byContradiction fun h=>h0 (.inr (.inr h))
  split at h
  ·split at h
   ·cases h;exact ⟨rfl,hc,by omega,by omega⟩
   ·cases h
  ·split at h
   ·cases h;exact ⟨rfl,hc,by omega,by omega⟩
   ·cases h
def Jhk (p d:Int):Nat:=if small (Qap p d) then Qar (ofN (Qap p d:Nat):Nat) else 512*Qbm (Qap p d)
theorem Qzx {n:Nat} (h:small n):ofN (n:Int)<32:=by
 unfold small at h;obtain ⟨h1,h2⟩:=h;unfold ofN;have:(Qci.findIdx fun s:Nat=>decide ((n:Int)≤(s:Int)))<Qci.length:=by
  rw [List.findIdx_lt_length];refine ⟨256,by decide,?_⟩;simp;omega
 exact this
theorem Jfk {k x:Nat} (hk:k<32) (h1:x % Qar k=0) (h2:x/Qar k<Qbd k):x+Qar k≤512:=by
 have hp:=Qbr (k:Int) (by omega);unfold Qbd at h2;generalize Qar (k:Int)=W at *;have e:=Nat.div_add_mod x W;have h3:=Nat.div_mul_le_self 512 W;have h4:(x/W+1)*W≤512/W*W:=Nat.mul_le_mul_right _ h2;rw [Nat.add_mul,Nat.one_mul,Nat.mul_comm] at h4;omega
theorem Qdt {L:List Hd} {b:Nat} (h:Qa4 L b≠0):b<L.length∧(L.getD b default).k=2∧((Qa4 L b:Nat):Int)=(L.getD b default).l∧b+Qa4 L b≤L.length∧∀i,1≤i→i<Qa4 L b→L.getD (b+i) default=⟨3,0,i⟩:=by
 unfold Qa4 at h ⊢
 by_cases c1:L.length≤b∨(L.getD b default).k≠2∨(L.getD b default).l<1∨(L.length:Int)-b<(L.getD b default).l
 ·rw [if_pos c1] at h;exact absurd rfl h
 ·rw [if_neg c1] at h ⊢
  by_cases c2:Qdg L b (L.getD b default).l.toNat=true
  ·rw [if_pos c2] at h ⊢;exact ⟨by omega,by omega,by omega,by omega,fun i h1 h2=>Qn1 c2 i h1 h2⟩
  ·rw [if_neg c2] at h;exact absurd rfl h
inductive Jhz (L:List Hd) (a n:Nat):Prop
 | cell (k:Nat) (hk:k<32) (hc:Qc3 L k a) (hn:n=Qar k)
 | run (m:Nat) (hb:a % 512=0) (h1:512≤a) (hm:1≤m) (hw:Qa4 L (a/512)=m) (hn:n=512*m)
theorem Qus {S:Dev} {L:List Hd} {a:Nat} {o:Qru} (h:Qax S L (a:Int)=some o):Jhz L a (Jhk o.p o.d):=by
 obtain ⟨hh,_,h1,h2⟩:=Qon h;unfold Qax at h;rw [hh] at h
 split at h
 ·cases h
 ·unfold Jhk
  by_cases hs:small (Qap o.p o.d)
  ·rw [if_pos hs] at h ⊢
   split at h
   ·next hc=>exact .cell _ (Qzx hs) hc rfl
   ·cases h
  ·rw [if_neg hs] at h ⊢
   split at h
   ·next hc =>
    refine .run _ hc.1 (by omega) ?_ hc.2 rfl;have hw:=hc.2;unfold Qbm;rw [if_neg hs];have h0:Qap o.p o.d≠0:=by
     have:=Qfl S (a:Int);rw [hh] at this;rcases this with this | this
     ·exact this.2.2.2.1
     ·rename_i hb
      rw [this] at hb;exact absurd (.inr (.inr (by simp))) hb
    omega
   ·cases h
structure Jgx (B:Nat) (m:Al):Prop where
 bm:Qqd B m.bm
 live:m.bm.dev.live
 len:m.bm.dev.cache.length=512*B
 lenU:m.used.length=512*B
 placed:∀a:Nat,m.used.getD a false=true→(Qax m.bm.dev m.bm.list (a:Int)).isSome=true
 cells:∀k a:Nat,k<32→m.fl.cnt k a=if Qc3 m.bm.list k a∧m.used.getD a false=false then 1 else 0
theorem Qof {L:List Hd} {k a:Nat} (h:Qc3 L k a):(L.getD (a/512) default).k=1:=by rw [h.2.2.1]
theorem Qta {L:List Hd} {b m:Nat} (hm:1≤m) (h:L.getD b default=⟨2,0,m⟩) (hf:b+m≤L.length) (hc:∀i,1≤i→i<m→L.getD (b+i) default=⟨3,0,i⟩):Qa4 L b=m:=by
 unfold Qa4;rw [h];dsimp only;rw [if_neg (by omega),Int.toNat_natCast,if_pos (Qsb hc)]
def Qbw (b k i:Nat):Nat:=512*b+i*Qar k
def Al.carved (m:Al) (b k:Nat):FL:=m.fl.carve (fun a=>m.used.getD a false) (Qbw b k) k (Qbd k)
variable {B:Nat} {m:Al}
theorem Qpw {b k:Nat} (hk:k<32):∀i j,Qbw b k i=Qbw b k j→i=j:=by
 intro i j h;have hp:=Qbr (k:Int) (by omega);unfold Qbw at h;have:i*Qar (k:Int)=j*Qar (k:Int):=by omega
 exact Nat.eq_of_mul_eq_mul_right (by omega) this
theorem Qii {b k i:Nat} (hk:k<32) (hi:i<Qbd k):Qbw b k i/512=b∧Qbw b k i % 512=i*Qar k∧(i*Qar k) % Qar k=0∧(i*Qar k)/Qar k=i:=by
 have hp:=Qbr (k:Int) (by omega);have h1:(i*Qar (k:Int)) % Qar k=0:=Nat.mul_mod_left _ _;have h2:(i*Qar (k:Int))/Qar k=i:=Nat.mul_div_cancel _ (by omega);have:=Jfk hk h1 (by rw [h2];exact hi);unfold Qbw;exact ⟨by omega,by omega,h1,h2⟩
theorem Qsp {L:List Hd} {b k x:Nat} (hk:k<32) (hb:1≤b) (hbL:b<L.length) (hL:L.getD b default=⟨1,k,0⟩):Qc3 L k x∧x/512=b↔∃i,i<Qbd k∧x=Qbw b k i:=by
 constructor
 ·rintro ⟨⟨c1,c2,c3,c4,c5⟩,e⟩;refine ⟨x % 512/Qar k,c5,?_⟩;unfold Qbw;have:=Nat.div_add_mod (x % 512) (Qar k);rw [c4,Nat.mul_comm] at this;omega
 ·rintro ⟨i,hi,rfl⟩;obtain ⟨e1,e2,e3,e4⟩:=Qii (b:=b) hk hi;exact ⟨⟨by omega,by omega,by rw [e1];exact hL,by rw [e2];exact e3,by rw [e2,e4];exact hi⟩,e1⟩
variable {B:Nat} {m:Al}
theorem Jdb {l:List Bool} {a:Nat} (ha:a<l.length) (h:l.getD a false=false):Qza l (a:Int)=l.set a true:=by
 unfold Qza Qhu;rw [Qir,h,if_pos]
 ·rfl
 ·simp;omega
end
section
def Qc6 (B a:Int):Int:=if a<0∨B*512≤a then -1 else a/512
theorem Qe6 (B:Nat) (hB:B≤1000) (a:Int) (w:World):Calls Tryz.prog 109 #[Qgk (B:Int),.int .i64 a] w fun e w'=>e=.returned (.int .i64 (Qc6 (B:Int) a))∧Below w.heap.size w w':=by
 have HB:=LH (Qaf w (Obj.cells #[.int .i64 (B:Int)] 44));have c0:(w.alloc (Obj.cells #[.int .i64 (B:Int)] 44)).cell? ⟨w.heap.size,0,none⟩=some (.int .i64 (B:Int)):=Qat _ _ _ 0 _ rfl
 by_cases h1:a<0
 ·have HE:Hid (Qc6 (B:Int) a = -1):=LH (by unfold Qc6;rw [if_pos (.inl h1)]);go_enter Tryz.func109,Tryz.ntmps109;go_wp2_with fail
  go_ret
  exact ⟨Qau HE.out.symm,HB.out⟩
 by_cases h2:(B:Int)*512≤a
 ·have HE:Hid (Qc6 (B:Int) a = -1):=LH (by unfold Qc6;rw [if_pos (.inr h2)]);go_enter Tryz.func109,Tryz.ntmps109;go_wp2_with fail;refine (Qgt _ _ (by omega) (by omega)).mono ?_;rintro e w1 ⟨rfl,hb1⟩;have HB1:=LH (HB.out.trans (hb1.mono HB.out.size));clear hb1;go_wp2_with fail
  go_ret
  exact ⟨Qau HE.out.symm,HB1.out⟩
 have HE:Hid (Qc6 (B:Int) a=a/512):=LH (by unfold Qc6;rw [if_neg (by omega)]);have h3:0≤a:=by omega
 have h4:a<(B:Int)*512:=by omega
 go_enter Tryz.func109,Tryz.ntmps109;go_wp2_with fail;refine (Qgt _ _ (by omega) (by omega)).mono ?_;rintro e w1 ⟨rfl,hb1⟩;have HB1:=LH (HB.out.trans (hb1.mono HB.out.size));clear hb1;go_wp2_with fail
 go_ret
 exact ⟨Qau HE.out.symm,HB1.out⟩
def Qfv (B b:Int):Int:=if b<0∨B≤b then -1 else b*512
theorem Qps (B:Nat) (hB:B≤1000) (b:Int) (w:World):Calls Tryz.prog 183 #[Qgk (B:Int),.int .i64 b] w fun e w'=>e=.returned (.int .i64 (Qfv (B:Int) b))∧Below w.heap.size w w':=by
 by_cases h1:b<0
 ·have HE:Hid (Qfv (B:Int) b = -1):=LH (by unfold Qfv;rw [if_pos (.inl h1)]);go_enter Tryz.func183,Tryz.ntmps183;go_wp2_with fail
  go_ret
  exact ⟨Qau HE.out.symm,Qaf _ _⟩
 by_cases h2:(B:Int)≤b
 ·have HE:Hid (Qfv (B:Int) b = -1):=LH (by unfold Qfv;rw [if_pos (.inr h2)]);go_enter Tryz.func183,Tryz.ntmps183;go_wp2_with fail
  go_ret
  exact ⟨Qau HE.out.symm,Qaf _ _⟩
 have HE:Hid (Qfv (B:Int) b=b*512):=LH (by unfold Qfv;rw [if_neg (by omega)]);have h3:0≤b:=by omega
 have h4:b<(B:Int):=by omega
 go_enter Tryz.func183,Tryz.ntmps183;go_wp2_with fail
 go_ret
 exact ⟨Qau HE.out.symm,Qaf _ _⟩
theorem Jal (B:Nat) (hB:B≤1000) (a:Int) (w:World):Calls Tryz.prog 204 #[Qgk (B:Int),.int .i64 a] w fun e w'=>e=.returned (.bool (decide (1≤Qc6 (B:Int) a)))∧Below w.heap.size w w':=by
 have HB:=LH (Qaf w (Obj.cells #[.int .i64 (B:Int)] 44));go_enter Tryz.func204,Tryz.ntmps204;go_wp2_with fail;refine (Qe6 B hB a _).mono ?_;rintro e w1 ⟨rfl,hb1⟩;have HB1:=LH (HB.out.trans (hb1.mono HB.out.size));clear hb1;go_wp2_with fail
 go_ret
 exact ⟨rfl,HB1.out⟩
def Qgs (B k b i:Int):Int :=
 if ¬(0≤k∧k<32)∨b<1∨B≤b∨i<0∨(Qbd k:Int)≤i then -1 else b*512+i*(Qar k:Int)
theorem Qtd (B:Nat) (hB:B≤1000) (k b i:Int) (w:World):Calls Tryz.prog 163 #[Qgk (B:Int),.int .i64 k,.agg #[.int .i64 b,.int .i64 i]] w fun e w'=>e=.returned (.int .i64 (Qgs (B:Int) k b i))∧Below w.heap.size w w':=by
 have HM:=LH (Mem.two w #[.int .i64 (B:Int)] 44 #[.int .i64 b,.int .i64 i] 266);have HP:Hid (∀(x:Int) (w':World),x=Qgs (B:Int) k b i→Below w.heap.size w w'→(fun e w'=>e=Ending.returned (.int .i64 (Qgs (B:Int) k b i))∧Below w.heap.size w w') (.returned (.int .i64 x)) w'):=LH (fun x w' h1 h2=>by subst h1;exact ⟨rfl,h2⟩);generalize (fun e w'=>e=Ending.returned (.int .i64 (Qgs (B:Int) k b i))∧Below w.heap.size w w')=Post at *;have HC:Hid (Qgs (B:Int) k b i=if ¬(0≤k∧k<32)∨b<1∨(B:Int)≤b∨i<0∨(Qbd k:Int)≤i then -1 else b*512+i*(Qar k:Int)):=LH rfl;have hcl:Qbd k≤512:=Nat.div_le_self _ _;have hwl:=Qhj k;generalize Qgs (B:Int) k b i=x at *;go_enter Tryz.func163,Tryz.ntmps163;go_upto_region 1 with fail;generalize (w.alloc _).alloc _=w0 at *;obtain ⟨q,hq⟩:∃q,q=w.heap.size:=⟨_,rfl⟩
 rw [← hq] at HM ⊢;clear hq;have c0:=HM.out.cell 0 0 rfl rfl;have c1:=HM.out.cell 1 0 rfl rfl;have c2:=HM.out.cell 1 1 rfl rfl;have r0:=fun x=>Qab c0 x
 have r1:=fun x=>Qab c1 x
 have r2:=fun x=>Qab c2 x
 have hpos:=fun h=>Qbr k h
 by_cases hk:0≤k∧k<32
 case neg =>
  have HE:Hid (-1=x):=LH (by rw [HC.out,if_pos (.inl hk)]);have HK:Hid (decide (0≤k∧k<32)=false):=LH (by simpa using hk);have HR:Hid (∀x:Qbi w0,Calls Tryz.prog 131 #[.int .i64 k] x.val fun e w'=>e=.returned (.bool false)∧Below x.val.heap.size x.val w'):=LH (fun x=>(Qc2 k x.val).mono (by rintro e w' ⟨rfl,rfl⟩;rw [HK.out];exact ⟨rfl,Below.refl _ _⟩));clear hk hpos;refine Qbh (by kernel_rfl) (by kernel_rfl) ?_
  repeat (quiet_step ((rename_i x;exact Qb7 (HR.out x))))
  refine wpQuiet_nil ?_;rintro w5 ⟨x5,hx5⟩;have HM5:=LH (HM.out.later (W':=w5) (by rw [hx5];exact x5.below));clear hx5 c0 c1 c2 r0 r1 r2 HM;go_wp2_with fail;exact HP.out _ _ HE.out HM5.out.below
 have HR:Hid (∀x:Qbi w0,Calls Tryz.prog 131 #[.int .i64 k] x.val fun e w'=>e=.returned (.bool true)∧Below x.val.heap.size x.val w'):=LH (fun x=>(Qc2 k x.val).mono (by rintro e w' ⟨rfl,rfl⟩;rw [decide_eq_true hk];exact ⟨rfl,Below.refl _ _⟩));have hp2:=hpos hk;clear hpos
 by_cases hout:b<1∨(B:Int)≤b∨i<0
 ·have HE:Hid (-1=x):=LH (by rw [HC.out,if_pos (by rcases hout with h | h | h;exact .inr (.inl h);exact .inr (.inr (.inl h));exact .inr (.inr (.inr (.inl h))))]);have hc:b<1∨(1≤b∧(B:Int)≤b)∨(1≤b∧b<(B:Int)∧i<0):=by omega
  clear hout hk;rcases hc with h1 | ⟨h1,h2⟩|⟨h1,h2,h3⟩
  all_goals
   refine Qbh (by kernel_rfl) (by kernel_rfl) ?_
   repeat (quiet_step ((rename_i x;exact Qb7 (HR.out x))))
   refine wpQuiet_nil ?_;rintro w5 ⟨x5,hx5⟩;have HM5:=LH (HM.out.later (W':=w5) (by rw [hx5];exact x5.below));clear hx5 c0 c1 c2 r0 r1 r2 HM;go_wp2_with fail;exact HP.out _ _ HE.out HM5.out.below
 have h1:1≤b:=by omega
 have h2:b<(B:Int):=by omega
 have h3:0≤i:=by omega
 clear hout;obtain ⟨cn,hcn⟩:∃cn,cn=Qbd k:=⟨_,rfl⟩
 have HCl:Hid (∀x:Qbi w0,Calls Tryz.prog 162 #[.int .i64 k] x.val fun e w'=>e=.returned (.int .i64 (cn:Int))∧Below x.val.heap.size x.val w'):=LH (fun x=>by rw [hcn];exact Qo9 k x.val);rw [← hcn] at HC hcl;clear hcn
 by_cases h4:(cn:Int)≤i
 ·have HE:Hid (-1=x):=LH (by rw [HC.out,if_pos (.inr (.inr (.inr (.inr h4))))]);clear hk;refine Qbh (by kernel_rfl) (by kernel_rfl) ?_
  repeat (quiet_step ((rename_i x;first | (go_at_call 131;exact Qb7 (HR.out x)) | (go_at_call 162;exact Qb7 (HCl.out x)))))
  refine wpQuiet_nil ?_;rintro w5 ⟨x5,hx5⟩;have HM5:=LH (HM.out.later (W':=w5) (by rw [hx5];exact x5.below));clear hx5 c0 c1 c2 r0 r1 r2 HM;go_wp2_with fail;exact HP.out _ _ HE.out HM5.out.below
 ·have h5:i<(cn:Int):=by omega
  have HE:Hid (x=b*512+i*(Qar k:Int)):=LH (by rw [HC.out,if_neg (by rintro (h | h | h | h | h);exact h hk;omega;omega;omega;exact h4 h)]);clear h4;refine Qbh (by kernel_rfl) (by kernel_rfl) ?_
  repeat (quiet_step ((rename_i x;first | (go_at_call 131;exact Qb7 (HR.out x)) | (go_at_call 162;exact Qb7 (HCl.out x)))))
  refine wpQuiet_nil ?_;rintro w5 ⟨x5,hx5⟩;have HM5:=LH (HM.out.later (W':=w5) (by rw [hx5];exact x5.below));clear hx5 c0 c1 c2 r0 r1 r2 HM;go_wp2_with fail;have c0:=HM5.out.cell 0 0 rfl rfl;have c1:=HM5.out.cell 1 0 rfl rfl;have c2:=HM5.out.cell 1 1 rfl rfl;have r0:=fun x=>Qab c0 x
  have r1:=fun x=>Qab c1 x
  have r2:=fun x=>Qab c2 x
  obtain ⟨wn,hwn⟩:∃wn,wn=Qar k:=⟨_,rfl⟩
  have HFi:Hid (∀x:Qbi w5,Calls Tryz.prog 183 #[Qgk (B:Int),.int .i64 b] x.val fun e w'=>e=.returned (.int .i64 (b*512))∧Below x.val.heap.size x.val w'):=LH (fun x=>by
   have:=Qps B hB b x.val;rw [show Qfv (B:Int) b=b*512 by unfold Qfv;rw [if_neg (by omega)]] at this
   exact this)
  have HWo:Hid (∀x:Qbi w5,Calls Tryz.prog 185 #[.int .i64 k] x.val fun e w'=>e=.returned (.int .i64 (wn:Int))∧Below x.val.heap.size x.val w'):=LH (fun x=>by rw [hwn];exact Qg1 k x.val);rw [← hwn] at HE hwl hp2;have hm1:0≤i*(wn:Int):=Int.mul_nonneg h3 (by omega);have hm2:i*(wn:Int)≤512*256:=Int.mul_le_mul (by omega) (by omega) (by omega) (by omega);clear hwn hk;refine Qbh (by kernel_rfl) (by kernel_rfl) ?_
  repeat (quiet_step ((rename_i x;first | (go_at_call 183;exact Qb7 (HFi.out x)) | (go_at_call 185;exact Qb7 (HWo.out x)))))
  refine wpQuiet_nil ?_;rintro w6 ⟨x6,hx6⟩;have HM6:=LH (HM5.out.later (W':=w6) (by rw [hx6];exact x6.below));clear hx6 c0 c1 c2 r0 r1 r2 HM5;go_wp2_with fail;have e1:IntKind.i64.wrap (i*(wn:Int))=i*(wn:Int):=IntWalk.i64_in _ (by omega);have e2:IntKind.i64.wrap (b*512+i*(wn:Int))=b*512+i*(wn:Int):=IntWalk.i64_in _ (by omega);refine HP.out _ _ ?_ HM6.out.below;rw [e1,e2,HE.out]
end
section
open Go.Maps
def AF.re (A:AF) (R:List Nat):AF:={ A with R:=R }
def Jit (w w':World) (A:AF) (n B:Nat) (m:Al):Prop:=∃R',Qfy w' (A.re R') n B m∧Qam A.hot w w'∧∀b∈R',b∈A.R∨w.heap.size≤b
theorem Qfy.fixlt {w:World} {A:AF} {n B:Nat} {m:Al} (h:Qfy w A n B m) {k:Nat} (hk:k∈A.fix):k<w.heap.size:=h.mem k (by simp [AF.list,hk])
theorem Qfy.setUsed {w w':World} {A:AF} {n B:Nat} {m:Al} {l:List Bool} (h:Qfy w A n B m) (hs:Qez w' A.U l) (ht:Qam A.U.list w w') (hl:l.length=m.used.length):Jit w w' A n B ⟨m.bm,l,m.fl⟩:=by
 have nd:=h.nd;unfold AF.fix at nd;rw [List.nodup_cons,List.nodup_append] at nd;refine ⟨A.R,⟨(ht.block A.a (h.fixlt (by simp [AF.fix])) (fun hm=>nd.1 (List.mem_append_right _ hm))).trans h.head,h.man.keep (fun k hk=>ht.block k (h.fixlt (by simp [AF.fix,hk])) (fun hm=>nd.2.2.2 k hk k hm rfl)),hs,h.free.keep (fun k hk=>ht.block k (h.mem k (by simp [AF.list,hk])) (fun hm=>h.nR k hk (by simp [AF.fix,hm]))),h.nd,h.nR,by rw [hl];exact h.lenU⟩,ht.wide (fun b hb=>by simp [AF.hot,hb]),fun b hb=>.inl hb⟩
theorem Qtw {B k b i:Nat} (hk:k<32) (hb:1≤b) (hbB:b<B) (hi:i<Qbd k):Qgs (B:Int) (k:Int) (b:Int) (i:Int)=(Qbw b k i:Nat):=by
 unfold Qgs Qbw;rw [if_neg (by omega),Int.natCast_add,Int.natCast_mul,Int.natCast_mul];omega
theorem Qgr:∀(M:Nat) (l:List Nat),(∀x∈l,x<M)→(∀a,l.count a≤1)→l.length≤M
 | 0,l,h,_=>by
  cases l with
  | nil=>simp
  | cons x l=>exact absurd (h x (by simp)) (by omega)
 | M+1,l,h,h1=>by
  have e:l.length=(l.filter (fun x=>x == M)).length+(l.filter (fun x=>!(x == M))).length:=by
   induction l with
   | nil=>rfl
   | cons x l ih =>
    have:=ih (fun y hy=>h y (by simp [hy])) (fun a=>Nat.le_trans (List.count_le_count_cons) (h1 a))
    by_cases c:x=M <;> simp [c] <;> omega
  have h2:(l.filter (fun x=>x == M)).length≤1:=by
   rw [← List.countP_eq_length_filter];exact h1 M
  have h3:=Qgr M (l.filter (fun x=>!(x == M))) (fun x hx=>by
   obtain ⟨g1,g2⟩:=List.mem_filter.1 hx;have:=h x g1;simp at g2
   omega) (fun a=>Nat.le_trans (List.Sublist.count_le a List.filter_sublist) (h1 a))
  omega
theorem Jgx.upto {B:Nat} {m:Al} (h:Jgx B m):m.fl.upto (512*B):=by
 have key:∀k,k<32→∀l:List Nat,(∀a,l.count a≤m.fl.cnt k a)→l.length≤512*B:=fun k hk l hl=>by
  refine Qgr _ l (fun x hx=>?_) (fun a=>?_)
  ·have h1:=hl x;have h2:0<l.count x:=List.count_pos_iff.2 hx;have h3:=h.cells k x hk
   by_cases c:Qc3 m.bm.list k x∧m.used.getD x false=false
   ·have:=c.1.2.1;rw [h.bm.lenL] at this;exact this
   ·rw [if_neg c] at h3;omega
  ·have h1:=hl a;have h3:=h.cells k a hk
   split at h3 <;> omega
 intro i hi;unfold FL.at
 by_cases e:i<32
 ·rw [if_pos e];refine key i e _ (fun a=>?_);unfold FL.cnt;omega
 ·rw [if_neg e];refine key ((i-32) % 32) (Nat.mod_lt _ (by decide)) _ (fun a=>?_);unfold FL.cnt;have:(i-32)/32<4:=by omega
  rcases Ji3 this with c | c | c | c <;> rw [c] <;> omega
theorem FL.carve_upto {used:Nat→Bool} {at_:Nat→Nat} {k:Nat} : ∀ {S:FL} {N:Nat},S.upto N→∀n,(S.carve used at_ k n).upto (N+n)
 | S,N,h,0=>h
 | S,N,h,n+1=>by
  unfold FL.carve;have h2:(if used (at_ n) then S else S.pushed k (at_ n)).upto (N+1):=by
   split
   ·exact h.mono (by omega)
   ·exact FL.pushed_upto h _ _
  exact (FL.carve_upto h2 n).mono (by omega)
theorem Qvp (B:Nat) (hB:B≤1000) (b:Nat) (hb:b<B) (w:World):Calls Tryz.prog 183 #[Qgk (B:Int),.int .i64 (b:Int)] w fun e w'=>e=.returned (.int .i64 ((b:Int)*512))∧Below w.heap.size w w':=by
 have:=Qps B hB (b:Int) w;rw [show Qfv (B:Int) (b:Int)=(b:Int)*512 by unfold Qfv;rw [if_neg (by omega)]] at this;exact this
end
section
def Qlp (k a:Nat):Bool:=decide (a % 512 % Qar k=0∧a % 512/Qar k<Qbd k)
theorem Jga:Agg Tryz.prog 266 #[.int .i64 0,.int .i64 0]:=⟨⟨_,Tryz.underlying266,rfl⟩,by kernel_rfl⟩
theorem Jbq {B k a:Nat} (hk:k<32) (h1:512≤a) (h2:a<512*B):Qlp k a=decide (Qgs (B:Int) (k:Int) ((a/512:Nat):Int) ((a % 512/Qar k:Nat):Int)=(a:Int)):=by
 have hp:=Qbr (k:Int) (by omega);unfold Qlp;have e:=Nat.div_add_mod (a % 512) (Qar k);have hlt:=Nat.mod_lt (a % 512) (show 0<Qar (k:Int) by omega)
 by_cases hi:a % 512/Qar k<Qbd k
 ·have hc:=Qtw (B:=B) hk (b:=a/512) (by omega) (by omega) hi;rw [hc];unfold Qbw;rw [Nat.mul_comm (Qar (k:Int))] at e;generalize a % 512/Qar (k:Int)*Qar (k:Int)=y at *;generalize hz:a % 512 % Qar (k:Int)=z at *;rw [Bool.eq_iff_iff,decide_eq_true_eq,decide_eq_true_eq];omega
 ·have hc:Qgs (B:Int) (k:Int) ((a/512:Nat):Int) ((a % 512/Qar k:Nat):Int) = -1:=by
   unfold Qgs;rw [if_pos];exact .inr (.inr (.inr (.inr (by omega))))
  rw [hc,decide_eq_false (fun h=>hi h.2),decide_eq_false (by omega)]
def Jcc (k a:Nat) (w:World):Ending→World→Prop:=fun e w'=>(∃x y:Int,e=.returned (.tuple #[.agg #[.int .i64 x,.int .i64 y],.bool (Qlp k a)]))∧Below w.heap.size w w'
theorem Jfr (B:Nat) (hB:B≤1000) (k a:Nat) (hk:k<32) (h1:512≤a) (h2:a<512*B) (w:World):Calls Tryz.prog 182 #[Qgk (B:Int),.int .i64 (k:Int),.int .i64 (a:Int)] w (Jcc k a w):=by
 have HM:=LH (Mem.two w #[.int .i64 (B:Int)] 44 #[.int .i64 0,.int .i64 0] 266);have HP:Hid (∀(x y:Int) b w',b=Qlp k a→Below w.heap.size w w'→Jcc k a w (.returned (.tuple #[.agg #[.int .i64 x,.int .i64 y],.bool b])) w'):=LH (fun x y b w' h1 h2=>by subst h1;exact ⟨⟨x,y,rfl⟩,h2⟩);generalize Jcc k a w=Post at *;have HBe:=LH (Jbq (B:=B) hk h1 h2);have hp:=Qbr (k:Int) (by omega);have hbo:Qc6 (B:Int) (a:Int)=((a/512:Nat):Int):=by unfold Qc6;rw [if_neg (by omega)];omega
 have HData:=LH (fun w=>Jal B hB (a:Int) w);have HBlk:=LH (fun w=>Qe6 B hB (a:Int) w);rw [hbo] at HData HBlk;rw [decide_eq_true (show (1:Int)≤((a/512:Nat):Int) by omega)] at HData;have HWd:=LH (fun w=>Qg1 (k:Int) w);have HAd:=LH (fun w=>Qtd B hB (k:Int) ((a/512:Nat):Int) ((a % 512/Qar k:Nat):Int) w);have HRg:=LH (fun w=>Qc2 (k:Int) w);rw [decide_eq_true (show (0:Int)≤(k:Int)∧(k:Int)<32 by omega)] at HRg;have hda:a<512000:=by omega
 obtain ⟨b,hb⟩:∃b,b=a/512:=⟨_,rfl⟩
 obtain ⟨o,ho⟩:∃o,o=a % 512:=⟨_,rfl⟩
 have ho2:(a:Int) % 512=(o:Int):=by omega
 have ho5:o<512:=by omega
 rw [← hb] at HBlk HAd HBe;rw [← ho] at HAd HBe;obtain ⟨W,hW⟩:∃W,W=Qar (k:Int):=⟨_,rfl⟩
 rw [← hW] at HWd HAd HBe hp;obtain ⟨i,hi⟩:∃i,i=o/W:=⟨_,rfl⟩
 rw [← hi] at HAd HBe;have hi2:(o:Int)/(W:Int)=(i:Int):=by rw [hi];rfl
 have hi3:i≤512:=by rw [hi];exact Nat.le_trans (Nat.div_le_self _ _) (by omega)
 generalize Qgs (B:Int) (k:Int) (b:Int) (i:Int)=ca at *;generalize Qlp k a=be at *;clear hbo hb ho hW hi h1 h2;go_enter Tryz.func182,Tryz.ntmps182;go_upto_region 1 with fail;obtain ⟨q,hq⟩:∃q,q=w.heap.size:=⟨_,rfl⟩
 rw [← hq] at HM ⊢;generalize (w.alloc _).alloc _=w0 at *;clear hq;have c0:=HM.out.cell 0 0 rfl rfl;go_wp2_with fail;refine (HRg.out _).mono ?_;rintro e w1 ⟨rfl,rfl⟩;go_wp2_with fail;refine (HData.out _).mono ?_;rintro e w1 ⟨rfl,hb1⟩;have HM1:=LH (HM.out.later hb1);clear hb1 c0;have c0:=HM1.out.cell 0 0 rfl rfl;go_wp2_with fail;refine (HBlk.out _).mono ?_;rintro e w2 ⟨rfl,hb2⟩;have HM2:=LH (HM1.out.later hb2);clear hb2 c0;go_wp2_with fail;refine (HWd.out _).mono ?_;rintro e w3 ⟨rfl,hb3⟩;have HM3:=LH (HM2.out.later hb3);clear hb3;go_upto_region 4 with fail;have HM4:=LH (HM3.out.alloc #[.int .i64 (b:Int),.int .i64 (i:Int)] 266);obtain ⟨q4,hq4⟩:∃q4,q4=w3.heap.size:=⟨_,rfl⟩
 rw [← hq4] at HM4 ⊢;generalize w3.alloc _=w4 at *;clear hq4;have d0:=HM4.out.cell 2 0 rfl rfl;have d1:=HM4.out.cell 2 1 rfl rfl;have c1:=HM4.out.cell 0 0 rfl rfl;have hnd:=HM4.out.nd;simp only [List.map_cons,List.map_nil,List.cons_append,List.nil_append,List.nodup_cons,List.mem_cons,List.not_mem_nil,or_false,not_or] at hnd
 have hq1:q∉[q+1]:=by simp
 have hq2:q4∉[q+1]:=by simp;exact fun e=>hnd.2.1 e.symm
 have r0:=fun x=>Qao (L:=[q+1]) d0 hq2 x
 have r1:=fun x=>Qao (L:=[q+1]) d1 hq2 x
 have r2:=fun x=>Qao (L:=[q+1]) c1 hq1 x
 have HT0:Hid (Qam [q+1] w4 w4.drew):=LH (Qam.ofBelow (Qae (Qaj w4)));have HD0:Hid (Below w4.heap.size w4 w4.drew):=LH (Qae (Qaj w4));have hC1:=Qa0 HT0.out;clear d0 d1 c1 hnd hq1 hq2;refine Qai (C:=fun w'=>∃x:Qjj [q+1] w4,w'=x.val) [.fl [0,1,2,3,5],.sq [4] true,.fl [6],.sq [7] true,.sq [8] false] (by kernel_rfl) (by kernel_rfl) (by intro c a d v w h;cases d <;> exact h) ?_;simp only [Qdj,Qa3,List.getElem?_cons_succ,List.getElem?_cons_zero]
 refine Qak hC1 ?_
 repeat (first|go_big_quiet_step (fail)|quiet_step (fail))
 refine wpQuiet_nil ?_;clear r0 r1 r2;generalize w4.drew=w5 at *;refine Qah (fun K hK=>?_);go_wp2_with fail;refine (HAd.out _).mono ?_;rintro e w6 ⟨rfl,hb6⟩;have HM6:=LH (HM4.out.later (HD0.out.trans (hb6.mono HD0.out.size)));have HT6:Hid (Qam [q+1] w4 w6):=LH (HT0.out.later hb6);have hC2:=Qa0 HT6.out;clear hb6;go_wp2_with fail;refine hK _ _ (fun _=>hC2) ?_;clear hK K;refine Qak hC2 ?_
 repeat (first|go_big_quiet_step (fail)|quiet_step (fail))
 refine wpQuiet_nil ?_;refine Qah (fun K hK=>?_);go_wp2_with (refine Qaa Jga HM6.out 1 rfl rfl rfl rfl rfl rfl rfl rfl ?_;intro w7 h7 ht7;have H7:=LH h7;have HT7:=LH (HT6.out.trans ht7);clear h7 ht7)
 have hC3:=Qa0 HT7.out;go_wp2_with fail;refine hK _ _ (fun _=>hC3) ?_;clear hK K;refine Qal ?_;go_wp2_with fail;refine bodyPost_ret (Qac (p:=6) (u:=7) rfl _ _ _ _ _ _ _ rfl (H7.out.exact 1 rfl) Tryz.underlying266 rfl (by kernel_rfl)) rfl ?_;refine HP.out _ _ _ _ ?_ H7.out.below;rw [HBe.out]
 rfl
end
end Go.Proofs.YtpohaahihdhleaaGreat
