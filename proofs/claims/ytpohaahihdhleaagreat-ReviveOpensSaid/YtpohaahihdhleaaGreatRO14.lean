/- Parts of the proof of one statement of the seat. -/
import Derived.Test.YtpohaahihdhleaaGreatRO13
set_option linter.unusedVariables false
set_option maxHeartbeats 16000000
set_option maxRecDepth 100000
open Go.RowKit
namespace Go.Proofs.YtpohaahihdhleaaGreat
section
theorem Qlh (a:Option Addr) (n cap:Nat) (l:List Hd) (hn:l.length=n) (w:World) (hc:Qaq w a (Qbt l)) (hl:n≤1000) (b:Nat) (hb:b<n) :
  Calls Tryz.prog 125 #[.slice a n cap,.int .i64 (b:Int)] w (Qjt (.int .i64 (Qa4 l b:Nat)) w):=by
 have hbl:b<l.length:=by rw [hn];exact hb
 obtain ⟨k,c,z,he⟩:=Qe5 l b;have HW:Hid (Qa4 l b=if k≠2∨z<1∨(n:Int)-b<z then 0 else if Qdg l b z.toNat then z.toNat else 0):=LH (by
  unfold Qa4;rw [he,hn];dsimp only
  by_cases h1:k≠2∨z<1∨(n:Int)-b<z
  ·rw [if_pos (.inr h1),if_pos h1]
  ·rw [if_neg h1,if_neg (by rintro (h | h);omega;exact h1 h)])
 obtain ⟨b1,o1,rfl,d0,d1,d2⟩:=Qcq hc hbl he;have HC:=LH hc;have HN:=LH hn;have HP:Hid (∀(x:Int) w',x=(Qa4 l b:Int)→Below w.heap.size w w'→Qjt (.int .i64 (Qa4 l b:Nat)) w (.returned (.int .i64 x)) w'):=LH (fun x w' h1 h2=>by subst h1;exact ⟨rfl,h2⟩);generalize Qjt (.int .i64 (Qa4 l b:Nat)) w=Post at *;have HB1:Hid (b1<w.heap.size):=LH (by
  have:(w.cell? ⟨b1,o1+b*3,none⟩).isSome=true:=by rw [d0];rfl
  apply Classical.byContradiction
  intro hc;have hnone:w.heap[b1]?=none:=Array.getElem?_eq_none (by omega)
  simp [World.cell?,hnone] at this)
 have HD2:=LH d2;clear hc hn he d1;have hbn:(b:Int)<(n:Int):=by omega
 by_cases hk:k=2
 case neg =>
  have HE:Hid (Qa4 l b=0):=LH (by rw [HW.out,if_pos (.inl hk)]);have hk':(k != 2)=true:=by simpa using hk
  clear hk;go_enter Tryz.func125,Tryz.ntmps125;go_wp2_with fail;exact HP.out _ _ (by rw [HE.out];rfl) (Below.refl _ _)
 subst hk
 by_cases hz:z<1
 ·have HE:Hid (Qa4 l b=0):=LH (by rw [HW.out,if_pos (.inr (.inl hz))]);go_enter Tryz.func125,Tryz.ntmps125;go_wp2_with fail;exact HP.out _ _ (by rw [HE.out];rfl) (Below.refl _ _)
 by_cases hz2:(n:Int)-b<z
 ·have HE:Hid (Qa4 l b=0):=LH (by rw [HW.out,if_pos (.inr (.inr hz2))]);have hw1:IntKind.i64.wrap ((n:Int)-(b:Int))=(n:Int)-(b:Int):=IntWalk.i64_in _ (by omega);go_enter Tryz.func125,Tryz.ntmps125;go_wp2_with fail;exact HP.out _ _ (by rw [HE.out];rfl) (Below.refl _ _)
 obtain ⟨m,rfl⟩:=Int.eq_ofNat_of_zero_le (show 0≤z by omega);have hm1:1≤m:=by omega
 have hmn:b+m≤n:=by omega
 have HW2:Hid (Qa4 l b=if Qdg l b m then m else 0):=LH (by rw [HW.out,if_neg (by rintro (h | h | h);exact h rfl;omega;omega)];rfl);have hw1:IntKind.i64.wrap ((n:Int)-(b:Int))=(n:Int)-(b:Int):=IntWalk.i64_in _ (by omega);clear HW hz hz2;go_enter Tryz.func125,Tryz.ntmps125;go_wp2_with fail
 go_loopw [5] (fun i wr=>∃j:Nat,1≤j∧j≤m∧i=.int .i64 (j:Int)∧Qdg l b j=true∧Below w.heap.size w wr) (fun i _=>m-(intOf i).toNat)
 case atStart=>exact ⟨1,Nat.le_refl _,hm1,rfl,by simp [Qdg],Below.refl _ _⟩
 case round =>
  obtain ⟨j,hj1,hjm,rfl,hco,hbe⟩:=hrel;have HCo:=LH hco;have HB:=LH hbe;have e9:=(HB.out.cell (p:=⟨b1,o1+b*3+2,none⟩) HB1.out).trans HD2.out;clear hco hbe d0 d2
  by_cases hlt:j<m
  ·have hlt':(j:Int)<(m:Int):=by omega
   have hin:b+j<n:=by omega
   have hin':(b:Int)+(j:Int)<(n:Int):=by omega
   obtain ⟨k2,c2,z2,he2⟩:=Qe5 l (b+j);obtain ⟨b2,o2,hee,e0,e1,e2⟩:=Qcq (HC.out.below HB.out NR) (by rw [HN.out];exact hin) he2
   cases hee
   have hto:((b:Int)+(j:Int)).toNat=b+j:=by omega
   have HE2:=LH he2;have HNo:Hid ((⟨k2,c2,z2⟩:Hd)≠⟨3,0,(j:Int)⟩→Qa4 l b=0):=LH (fun hq=>by rw [HW2.out,Qt8 hj1 hlt (by rw [he2];exact hq)];rfl);clear he2;go_upto_region 7 with fail;have HMa:=LH (Mem.one wr #[.int .i64 k2,.int .i64 c2,.int .i64 z2] 105);have HBa:=LH (HB.out.trans (HMa.out.below.mono HB.out.size));generalize wr.alloc _=wa at *;have f0:=HMa.out.cell 0 0 rfl rfl;have f1:=HMa.out.cell 0 1 rfl rfl;have f2:=HMa.out.cell 0 2 rfl rfl
   by_cases h1:k2=3
   ·subst h1
    by_cases h2:c2=0
    ·subst h2
     by_cases h3:z2=(j:Int)
     ·subst h3;have HCo2:Hid (Qdg l b (j+1)=true):=LH (by rw [Qdg,HCo.out,HE2.out];simp);have hne:((j:Int) != (j:Int))=false:=by simp
      go_wp2_with fail;exact ⟨⟨j+1,by omega,by omega,Qb2 (by omega),HCo2.out,HBa.out⟩,by simp [intOf];omega⟩
     ·have HE:Hid (Qa4 l b=0):=LH (HNo.out (by intro e;injection e with _ _ e3;exact h3 e3));have hne:(z2 != (j:Int))=true:=by simpa using h3
      clear h3;go_wp2_with fail;exact HP.out _ _ (by rw [HE.out];rfl) HBa.out
    ·have HE:Hid (Qa4 l b=0):=LH (HNo.out (by intro e;injection e with _ e3 _;exact h2 e3));have hne:(c2 != 0)=true:=by simpa using h2
     clear h2;go_wp2_with fail;exact HP.out _ _ (by rw [HE.out];rfl) HBa.out
   ·have HE:Hid (Qa4 l b=0):=LH (HNo.out (by intro e;injection e with e3 _ _;exact h1 e3));have hne:(k2 != 3)=true:=by simpa using h1
    clear h1;go_wp2_with fail;exact HP.out _ _ (by rw [HE.out];rfl) HBa.out
  ·obtain rfl:j=m:=by omega
   have hlt':decide ((j:Int)<(j:Int))=false:=by simp
   have HE:Hid (Qa4 l b=j):=LH (by rw [HW2.out,HCo.out];rfl);go_wp2_with fail;exact HP.out _ _ (by rw [HE.out]) HB.out
def Qnl (S:Dev) (L:List Hd) (a:Int) (w:World):Ending→World→Prop:=fun e w'=>(∃p d:Int,e=.returned (.tuple #[vob p d,.bool (Qax S L a).isSome])∧∀o,Qax S L a=some o→o=⟨p,d,0⟩)∧Below w.heap.size w w'
theorem Qu5 {w:World} {v:Value} {S:Dev} {m:Nat} (hm:S.dirty.length=m) (h:RAt w v m S.ref) {N:Nat} (hf:S.fit N) (a:Option Addr) (n cap:Nat) (L:List Hd) (hn:L.length=n) (hc:Qaq w a (Qbt L)) (hl:n≤1000) (x:Int) (hx:Jij x) :
  Calls Tryz.prog 101 #[v,.slice a n cap,.int .i64 x] w (Qnl S L x w):=by
 have hIn:=hx;unfold Jij at hIn;have HHead:=LH (fun w' (h:RAt w' v m S.ref)=>Qos hm h hf x);have HP:Hid (∀(p d:Int) b w',b=(Qax S L x).isSome→(∀o,Qax S L x=some o→o=⟨p,d,0⟩)→Below w.heap.size w w'→Qnl S L x w (.returned (.tuple #[vob p d,.bool b])) w'):=LH (fun p d b w' h1 h2 h3=>by subst h1;exact ⟨⟨p,d,rfl,h2⟩,h3⟩);generalize Qnl S L x w=Post at *;obtain ⟨D,rfl⟩:=h.agg;obtain ⟨hD8,hD1⟩:=h.arr;have HM:=LH (Mem.two w D 38 #[.int .i64 0,.int .i64 0] 109);have HR0:=LH (h.below HM.out.below NR);have HCw:=LH hc;have HN:=LH hn;clear h hf hm hc hn hx;go_enter Tryz.func101,Tryz.ntmps101;go_upto_region 1 with fail;generalize (w.alloc _).alloc _=w0 at *;obtain ⟨q,hq⟩:∃q,q=w.heap.size:=⟨_,rfl⟩
 rw [← hq] at HM ⊢;clear hq;go_wp2_with (refine Qbn Qbk HM.out 0 rfl hD8 rfl rfl rfl ?_)
 refine (HHead.out _ HR0.out).mono ?_;rintro e w1 ⟨rfl,hb1⟩;have HM1:=LH (HM.out.later hb1);clear hb1 HHead HR0 HM;rcases Qnw S x with hh | ⟨p,d,hh⟩
 ·have HE:Hid (Qax S L x=none):=LH (by unfold Qax;rw [hh,if_pos (.inr (.inr (by simp)))]);rw [hh,show Jex (⟨0,0,22⟩:Qru)=.tuple #[vob 0 0,.bool false] from rfl];clear hh;go_upto_region 2 with fail;have HM2:=LH (HM1.out.alloc #[.int .i64 0,.int .i64 0] 109);generalize w1.alloc _=w2 at *;go_wp2_with (refine Qaa Qen HM2.out 1 rfl rfl rfl rfl rfl rfl rfl rfl ?_;intro w6 h6 ht6;have H6:=LH h6;have HT6:=LH ht6;clear h6 ht6)
  refine bodyPost_ret (Qac (p:=6) (u:=7) rfl _ _ _ _ _ _ _ rfl (H6.out.exact 1 rfl) Tryz.underlying109 rfl (by kernel_rfl)) rfl ?_;exact HP.out _ _ _ _ (by rw [HE.out];rfl) (fun o ho=>by rw [HE.out] at ho;cases ho) H6.out.below
 rw [hh,show Jex (⟨p,d,0⟩:Qru)=.tuple #[vob p d,.bool true] from rfl];have HH:=LH hh;clear hh;go_upto_region 2 with fail;have HM2:=LH (HM1.out.alloc #[.int .i64 p,.int .i64 d] 109);generalize w1.alloc _=w2 at *;obtain ⟨g,hg⟩:∃g,g=w1.heap.size:=⟨_,rfl⟩
 rw [← hg] at HM2 ⊢;clear hg HM1
 by_cases h5:x<512
 ·have HE:Hid (Qax S L x=none):=LH (by unfold Qax;rw [if_pos (.inl h5)]);go_wp2_with (refine Qaa Qen HM2.out 1 rfl rfl rfl rfl rfl rfl rfl rfl ?_;intro w6 h6 ht6;have H6:=LH h6;have HT6:=LH ht6;clear h6 ht6)
  refine bodyPost_ret (Qac (p:=6) (u:=7) rfl _ _ _ _ _ _ _ rfl (H6.out.exact 1 rfl) Tryz.underlying109 rfl (by kernel_rfl)) rfl ?_;exact HP.out _ _ _ _ (by rw [HE.out];rfl) (fun o ho=>by rw [HE.out] at ho;cases ho) H6.out.below
 obtain ⟨y,rfl⟩:=Int.eq_ofNat_of_zero_le (show 0≤x by omega);have hyd:((y:Nat):Int)/512=((y/512:Nat):Int):=by omega
 have hym:((y:Nat):Int) % 512=((y % 512:Nat):Int):=by omega
 obtain ⟨b,hb⟩:∃b,b=y/512:=⟨_,rfl⟩
 obtain ⟨o,ho⟩:∃o,o=y % 512:=⟨_,rfl⟩
 rw [← hb] at hyd;rw [← ho] at hym;have HBO:Hid (b=y/512∧o=y % 512):=LH ⟨hb,ho⟩;have hol:o<512:=by omega
 clear hb ho
 by_cases hbn:n≤b
 ·have HE:Hid (Qax S L (y:Int)=none):=LH (by unfold Qax;rw [if_pos (.inr (.inl (by rw [HN.out];have:=HBO.out.1;omega)))]);have hbn':(n:Int)≤(b:Int):=by omega
  go_wp2_with (refine Qaa Qen HM2.out 1 rfl rfl rfl rfl rfl rfl rfl rfl ?_;intro w6 h6 ht6;have H6:=LH h6;have HT6:=LH ht6;clear h6 ht6)
  refine bodyPost_ret (Qac (p:=6) (u:=7) rfl _ _ _ _ _ _ _ rfl (H6.out.exact 1 rfl) Tryz.underlying109 rfl (by kernel_rfl)) rfl ?_;exact HP.out _ _ _ _ (by rw [HE.out];rfl) (fun o ho=>by rw [HE.out] at ho;cases ho) H6.out.below
 have hbn':b<n:=by omega
 have HPl:Hid (Qax S L (y:Int)=if small (Qap p d) then (if Qc3 L (ofN (Qap p d:Nat)) y then some ⟨p,d,0⟩ else none)
  else if o=0∧Qa4 L b=Qbm (Qap p d) then some ⟨p,d,0⟩ else none):=LH (by
   unfold Qax
   rw [HH.out,HN.out,Int.toNat_natCast,← HBO.out.1,← HBO.out.2,if_neg (by have:=HBO.out.1;dsimp only;omega)])
 go_upto_region 4 with fail;obtain ⟨k,c,z,he⟩:=Qe5 L b;obtain ⟨b1,o1,rfl,e0,e1,e2⟩:=Qcq (HCw.out.below HM2.out.below NR) (by rw [HN.out];exact hbn') he;have HEb:=LH he;clear he;have hbn2:(b:Int)<(n:Int):=by omega
 go_cut [10,11] from 33 (fun hv kv wc=>∃g2:Nat,hv=.pointer (some ⟨g2,0,none⟩)∧kv=.int .i64 (Qu3 (Qap p d:Nat))∧Hid (Mem w wc [⟨q,38,D.toList,true⟩,⟨q+1,109,[.int .i64 0,.int .i64 0],true⟩,⟨g,109,[.int .i64 p,.int .i64 d],true⟩,⟨g2,105,[.int .i64 k,.int .i64 c,.int .i64 z],true⟩]))
 case first =>
  have d0:=HM2.out.cell 2 0 rfl rfl;have d1:=HM2.out.cell 2 1 rfl rfl;have r0:=fun x=>Qab d0 x
  have r1:=fun x=>Qab d1 x
  have r2:=fun x=>Qab e0 x
  have r3:=fun x=>Qab e1 x
  have r4:=fun x=>Qab e2 x
  clear d0 d1 e0 e1 e2;refine Qds (C:=fun w'=>∃x:Qbi (w2),w'=x.val) (.fl [0,1,2,3,4,5] (.br 6 true (.sq [7] true (.sq [8,9] false (.nil))) 7 true (.sq [6] true (.sq [8,9] false (.nil))))) (by kernel_rfl) (by kernel_rfl) (by intro c a d v w h;cases d <;> exact h) ?_;simp only [trO,Qa3,List.getElem?_cons_succ,List.getElem?_cons_zero]
  have hC1:=Qaj (w2);refine Qjm hC1 ?_
  repeat (first|go_big_quiet_step (fail)|quiet_step (fail))
  refine wpQuiet_nil ?_;clear r0 r1 r2 r3 r4;have HM3:=LH (HM2.out.later (Qae hC1));have HRef:Hid (∀w',Calls Tryz.prog 146 #[.agg #[.int .i64 p,.int .i64 d]] w' fun e w''=>e=.returned (.int .i64 (Qu3 (Qap p d:Nat)))∧Below w'.heap.size w' w''):=LH (Qpo p d);generalize Qu3 (Qap p d:Nat)=cls at *;generalize w2.drew=w3 at *;refine Qk3 ?_ ?_
  ·refine Qb8 (fun K hK=>?_);go_wp2_with fail;refine (HRef.out _).mono ?_;rintro e w4 ⟨rfl,hb4⟩;have hC2:=Qan hC1 hb4;have HM4:=LH ((HM3.out.later hb4).alloc #[.int .i64 0,.int .i64 0,.int .i64 0] 105);clear hb4;go_wp2_with fail;refine hK _ _ (fun _=>hC2) ?_;clear hK K;refine Qb8 (fun K hK=>?_);go_wp2_with fail;have hC3:=Qan hC2 (Qaf w4 (.cells #[.int .i64 0,.int .i64 0,.int .i64 0] 105));go_wp2_with fail;refine hK _ _ (fun _=>hC3) ?_;clear hK K;generalize w4.alloc _=w5 at *;obtain ⟨g2,hg2⟩:∃g2,g2=w4.heap.size:=⟨_,rfl⟩
   rw [← hg2] at HM4 ⊢;have HG2:Hid (g2<w5.heap.size):=LH (HM4.out.glt 3 rfl);clear hC1 hC2 hC3 hg2;refine Qcr ?_;go_wp2_with (refine Qaa Qyw HM4.out 3 rfl rfl rfl rfl rfl rfl rfl rfl ?_;intro w6 h6 ht6;have H6:=LH h6;have HT6:=LH ht6;clear h6 ht6)
   go_meet
   exact ⟨g2,rfl,rfl,H6⟩
  ·refine Qb8 (fun K hK=>?_);go_wp2_with fail;have HM4:=LH (HM3.out.alloc #[.int .i64 0,.int .i64 0,.int .i64 0] 105);have hC2:=Qan hC1 (Qaf w3 (.cells #[.int .i64 0,.int .i64 0,.int .i64 0] 105));go_wp2_with fail;refine hK _ _ (fun _=>hC2) ?_;clear hK K;generalize w3.alloc _=w4 at *;obtain ⟨g2,hg2⟩:∃g2,g2=w3.heap.size:=⟨_,rfl⟩
   rw [← hg2] at HM4 ⊢;clear hg2;refine Qb8 (fun K hK=>?_);go_wp2_with fail;refine (HRef.out _).mono ?_;rintro e w5 ⟨rfl,hb5⟩;have hC3:=Qan hC2 hb5;have HM5:=LH (HM4.out.later hb5);clear hb5;go_wp2_with fail;refine hK _ _ (fun _=>hC3) ?_;clear hK K;clear hC1 hC2 hC3;refine Qcr ?_;go_wp2_with (refine Qaa Qyw HM5.out 3 rfl rfl rfl rfl rfl rfl rfl rfl ?_;intro w6 h6 ht6;have H6:=LH h6;have HT6:=LH ht6;clear h6 ht6)
   go_meet
   exact ⟨g2,rfl,rfl,H6⟩
 case rest =>
  obtain ⟨g2,rfl,rfl,HM4⟩:=hcut;clear HM2 e0 e1 e2
  by_cases hsm:small (Qap p d)
  ·have hk:=Qzx hsm;rw [Qpz _ hsm];have HPl2:Hid (Qax S L (y:Int)=if Qc3 L (ofN (Qap p d:Nat)) y then some ⟨p,d,0⟩ else none):=LH (by rw [HPl.out,if_pos hsm]);generalize ofN (Qap p d:Nat)=kk at *;have HWd:=LH (fun w=>Qje (kk:Int) w);have HCl:=LH (fun w=>Qoo (kk:Int) w);have hp:=Qbr (kk:Int) (by omega);have HIs:Hid (Qc3 L kk y↔(⟨k,c,z⟩:Hd)=⟨1,kk,0⟩∧o % Qar kk=0∧o/Qar kk<Qbd kk):=LH (by
    unfold Qc3;rw [← HBO.out.1,← HBO.out.2,HEb.out,HN.out];have:=HBO.out.1;constructor
    ·rintro ⟨_,_,h⟩;exact h
    ·intro h;exact ⟨by omega,by omega,h⟩)
   generalize Qar (kk:Int)=W at *;generalize Qbd (kk:Int)=Cn at *;clear hsm HPl HBO HEb
   by_cases h1:k=1
   case neg =>
    have HE:Hid (Qax S L (y:Int)=none):=LH (by rw [HPl2.out,if_neg (fun h=>h1 (by have:=(HIs.out.1 h).1;injection this))]);have h1':(k == 1)=false:=by simpa using h1
    clear h1;go_upto_region 7 with fail;have d0:=HM4.out.cell 2 0 rfl rfl;have d1:=HM4.out.cell 2 1 rfl rfl;have f0:=HM4.out.cell 3 0 rfl rfl;have f1:=HM4.out.cell 3 1 rfl rfl;have f2:=HM4.out.cell 3 2 rfl rfl;have hnd:=HM4.out.nd;simp only [List.map_cons,List.map_nil,List.nodup_cons,List.mem_cons,List.not_mem_nil,or_false,not_or] at hnd
    have hg1:g∉[q+1]:=by simp;exact fun e=>hnd.2.1.1 e.symm
    have hg2:g2∉[q+1]:=by simp;exact fun e=>hnd.2.1.2 e.symm
    have r0:=fun x=>Qao (L:=[q+1]) d0 hg1 x
    have r1:=fun x=>Qao (L:=[q+1]) d1 hg1 x
    have r2:=fun x=>Qao (L:=[q+1]) f0 hg2 x
    have r3:=fun x=>Qao (L:=[q+1]) f1 hg2 x
    have r4:=fun x=>Qao (L:=[q+1]) f2 hg2 x
    have HT0:Hid (Qam [q+1] wc wc.drew):=LH (Qam.ofBelow (Qae (Qaj wc)));have HD0:Hid (Below wc.heap.size wc wc.drew):=LH (Qae (Qaj wc));have hC1:=Qa0 HT0.out;clear d0 d1 f0 f1 f2 hnd hg1 hg2;refine Qai (C:=fun w'=>∃x:Qjj [q+1] wc,w'=x.val) [.fl [0,1,2,3,4,5,6,7,8,9,10,11,12,13,14,15,16,17],.sq [18] true,.fl [19,20,21,22,23,24,27],.sq [25] true,.fl [26],.sq [28] true,.fl [29,30],.sq [31] true,.sq [32] false] (by kernel_rfl) (by kernel_rfl) (by intro c a d v w h;cases d <;> exact h) ?_;simp only [Qdj,Qa3,List.getElem?_cons_succ,List.getElem?_cons_zero]
    refine Qak hC1 ?_
    repeat (first|go_big_quiet_step (fail)|quiet_step (fail))
    refine wpQuiet_nil ?_;refine Qah (fun K hK=>?_);go_wp2_with fail;go_wp2_with fail;refine hK _ _ (fun _=>hC1) ?_;clear hK K;refine Qak hC1 ?_
    repeat (first|go_big_quiet_step (fail)|quiet_step (fail))
    refine wpQuiet_nil ?_;refine Qah (fun K hK=>?_);go_wp2_with fail;go_wp2_with fail;refine hK _ _ (fun _=>hC1) ?_;clear hK K;refine Qak hC1 ?_
    repeat (first|go_big_quiet_step (fail)|quiet_step (fail))
    refine wpQuiet_nil ?_;refine Qah (fun K hK=>?_);go_wp2_with fail;go_wp2_with fail;refine hK _ _ (fun _=>hC1) ?_;clear hK K;refine Qak hC1 ?_
    repeat (first|go_big_quiet_step (fail)|quiet_step (fail))
    refine wpQuiet_nil ?_;refine Qah (fun K hK=>?_);go_wp2_with (refine Qaa Qen (HM4.out.later HD0.out) 1 rfl rfl rfl rfl rfl rfl rfl rfl ?_;intro w8 h8 ht8;have H8:=LH h8;have HT8:=LH (HT0.out.trans ht8);clear h8 ht8)
    have hC9:=Qa0 HT8.out;go_wp2_with fail;refine hK _ _ (fun _=>hC9) ?_;clear hK K;refine Qal ?_;go_wp2_with fail;refine bodyPost_ret (Qac (p:=6) (u:=7) rfl _ _ _ _ _ _ _ rfl (H8.out.exact 1 rfl) Tryz.underlying109 rfl (by kernel_rfl)) rfl ?_;exact HP.out _ _ _ _ (by rw [HE.out];rfl) (fun o ho=>by rw [HE.out] at ho;cases ho) H8.out.below
   subst h1
   by_cases h2:c=(kk:Int)
   case neg =>
    have HE:Hid (Qax S L (y:Int)=none):=LH (by rw [HPl2.out,if_neg (fun h=>h2 (by have:=(HIs.out.1 h).1;injection this))]);have h2':(c == (kk:Int))=false:=by simpa using h2
    clear h2;go_upto_region 7 with fail;have d0:=HM4.out.cell 2 0 rfl rfl;have d1:=HM4.out.cell 2 1 rfl rfl;have f0:=HM4.out.cell 3 0 rfl rfl;have f1:=HM4.out.cell 3 1 rfl rfl;have f2:=HM4.out.cell 3 2 rfl rfl;have hnd:=HM4.out.nd;simp only [List.map_cons,List.map_nil,List.nodup_cons,List.mem_cons,List.not_mem_nil,or_false,not_or] at hnd
    have hg1:g∉[q+1]:=by simp;exact fun e=>hnd.2.1.1 e.symm
    have hg2:g2∉[q+1]:=by simp;exact fun e=>hnd.2.1.2 e.symm
    have r0:=fun x=>Qao (L:=[q+1]) d0 hg1 x
    have r1:=fun x=>Qao (L:=[q+1]) d1 hg1 x
    have r2:=fun x=>Qao (L:=[q+1]) f0 hg2 x
    have r3:=fun x=>Qao (L:=[q+1]) f1 hg2 x
    have r4:=fun x=>Qao (L:=[q+1]) f2 hg2 x
    have HT0:Hid (Qam [q+1] wc wc.drew):=LH (Qam.ofBelow (Qae (Qaj wc)));have HD0:Hid (Below wc.heap.size wc wc.drew):=LH (Qae (Qaj wc));have hC1:=Qa0 HT0.out;clear d0 d1 f0 f1 f2 hnd hg1 hg2;refine Qai (C:=fun w'=>∃x:Qjj [q+1] wc,w'=x.val) [.fl [0,1,2,3,4,5,6,7,8,9,10,11,12,13,14,15,16,17],.sq [18] true,.fl [19,20,21,22,23,24,27],.sq [25] true,.fl [26],.sq [28] true,.fl [29,30],.sq [31] true,.sq [32] false] (by kernel_rfl) (by kernel_rfl) (by intro c a d v w h;cases d <;> exact h) ?_;simp only [Qdj,Qa3,List.getElem?_cons_succ,List.getElem?_cons_zero]
    refine Qak hC1 ?_
    repeat (first|go_big_quiet_step (fail)|quiet_step (fail))
    refine wpQuiet_nil ?_;refine Qah (fun K hK=>?_);go_wp2_with fail;go_wp2_with fail;refine hK _ _ (fun _=>hC1) ?_;clear hK K;refine Qak hC1 ?_
    repeat (first|go_big_quiet_step (fail)|quiet_step (fail))
    refine wpQuiet_nil ?_;refine Qah (fun K hK=>?_);go_wp2_with fail;go_wp2_with fail;refine hK _ _ (fun _=>hC1) ?_;clear hK K;refine Qak hC1 ?_
    repeat (first|go_big_quiet_step (fail)|quiet_step (fail))
    refine wpQuiet_nil ?_;refine Qah (fun K hK=>?_);go_wp2_with fail;go_wp2_with fail;refine hK _ _ (fun _=>hC1) ?_;clear hK K;refine Qak hC1 ?_
    repeat (first|go_big_quiet_step (fail)|quiet_step (fail))
    refine wpQuiet_nil ?_;refine Qah (fun K hK=>?_);go_wp2_with (refine Qaa Qen (HM4.out.later HD0.out) 1 rfl rfl rfl rfl rfl rfl rfl rfl ?_;intro w8 h8 ht8;have H8:=LH h8;have HT8:=LH (HT0.out.trans ht8);clear h8 ht8)
    have hC9:=Qa0 HT8.out;go_wp2_with fail;refine hK _ _ (fun _=>hC9) ?_;clear hK K;refine Qal ?_;go_wp2_with fail;refine bodyPost_ret (Qac (p:=6) (u:=7) rfl _ _ _ _ _ _ _ rfl (H8.out.exact 1 rfl) Tryz.underlying109 rfl (by kernel_rfl)) rfl ?_;exact HP.out _ _ _ _ (by rw [HE.out];rfl) (fun o ho=>by rw [HE.out] at ho;cases ho) H8.out.below
   subst h2
   by_cases h3:z=0
   case neg =>
    have HE:Hid (Qax S L (y:Int)=none):=LH (by rw [HPl2.out,if_neg (fun h=>h3 (by have:=(HIs.out.1 h).1;injection this))]);have h3':(z == 0)=false:=by simpa using h3
    have heq:((kk:Int) == (kk:Int))=true:=by simp
    clear h3;go_upto_region 7 with fail;have d0:=HM4.out.cell 2 0 rfl rfl;have d1:=HM4.out.cell 2 1 rfl rfl;have f0:=HM4.out.cell 3 0 rfl rfl;have f1:=HM4.out.cell 3 1 rfl rfl;have f2:=HM4.out.cell 3 2 rfl rfl;have hnd:=HM4.out.nd;simp only [List.map_cons,List.map_nil,List.nodup_cons,List.mem_cons,List.not_mem_nil,or_false,not_or] at hnd
    have hg1:g∉[q+1]:=by simp;exact fun e=>hnd.2.1.1 e.symm
    have hg2:g2∉[q+1]:=by simp;exact fun e=>hnd.2.1.2 e.symm
    have r0:=fun x=>Qao (L:=[q+1]) d0 hg1 x
    have r1:=fun x=>Qao (L:=[q+1]) d1 hg1 x
    have r2:=fun x=>Qao (L:=[q+1]) f0 hg2 x
    have r3:=fun x=>Qao (L:=[q+1]) f1 hg2 x
    have r4:=fun x=>Qao (L:=[q+1]) f2 hg2 x
    have HT0:Hid (Qam [q+1] wc wc.drew):=LH (Qam.ofBelow (Qae (Qaj wc)));have HD0:Hid (Below wc.heap.size wc wc.drew):=LH (Qae (Qaj wc));have hC1:=Qa0 HT0.out;clear d0 d1 f0 f1 f2 hnd hg1 hg2;refine Qai (C:=fun w'=>∃x:Qjj [q+1] wc,w'=x.val) [.fl [0,1,2,3,4,5,6,7,8,9,10,11,12,13,14,15,16,17],.sq [18] true,.fl [19,20,21,22,23,24,27],.sq [25] true,.fl [26],.sq [28] true,.fl [29,30],.sq [31] true,.sq [32] false] (by kernel_rfl) (by kernel_rfl) (by intro c a d v w h;cases d <;> exact h) ?_;simp only [Qdj,Qa3,List.getElem?_cons_succ,List.getElem?_cons_zero]
    refine Qak hC1 ?_
    repeat (first|go_big_quiet_step (fail)|quiet_step (fail))
    refine wpQuiet_nil ?_;refine Qah (fun K hK=>?_);go_wp2_with fail;go_wp2_with fail;refine hK _ _ (fun _=>hC1) ?_;clear hK K;refine Qak hC1 ?_
    repeat (first|go_big_quiet_step (fail)|quiet_step (fail))
    refine wpQuiet_nil ?_;refine Qah (fun K hK=>?_);go_wp2_with fail;go_wp2_with fail;refine hK _ _ (fun _=>hC1) ?_;clear hK K;refine Qak hC1 ?_
    repeat (first|go_big_quiet_step (fail)|quiet_step (fail))
    refine wpQuiet_nil ?_;refine Qah (fun K hK=>?_);go_wp2_with fail;go_wp2_with fail;refine hK _ _ (fun _=>hC1) ?_;clear hK K;refine Qak hC1 ?_
    repeat (first|go_big_quiet_step (fail)|quiet_step (fail))
    refine wpQuiet_nil ?_;refine Qah (fun K hK=>?_);go_wp2_with (refine Qaa Qen (HM4.out.later HD0.out) 1 rfl rfl rfl rfl rfl rfl rfl rfl ?_;intro w8 h8 ht8;have H8:=LH h8;have HT8:=LH (HT0.out.trans ht8);clear h8 ht8)
    have hC9:=Qa0 HT8.out;go_wp2_with fail;refine hK _ _ (fun _=>hC9) ?_;clear hK K;refine Qal ?_;go_wp2_with fail;refine bodyPost_ret (Qac (p:=6) (u:=7) rfl _ _ _ _ _ _ _ rfl (H8.out.exact 1 rfl) Tryz.underlying109 rfl (by kernel_rfl)) rfl ?_;exact HP.out _ _ _ _ (by rw [HE.out];rfl) (fun o ho=>by rw [HE.out] at ho;cases ho) H8.out.below
   subst h3;have heq:((kk:Int) == (kk:Int))=true:=by simp
   by_cases h4:o % W=0
   case neg =>
    have HE:Hid (Qax S L (y:Int)=none):=LH (by rw [HPl2.out,if_neg (fun h=>h4 (HIs.out.1 h).2.1)]);obtain ⟨om,hom⟩:∃om,om=o % W:=⟨_,rfl⟩
    rw [← hom] at h4 HIs;have h4':(o:Int) % (W:Int)=(om:Int):=by rw [hom];rfl
    have h4'':((om:Int) == 0)=false:=by simpa using h4
    clear h4 hom;go_upto_region 7 with fail;have d0:=HM4.out.cell 2 0 rfl rfl;have d1:=HM4.out.cell 2 1 rfl rfl;have f0:=HM4.out.cell 3 0 rfl rfl;have f1:=HM4.out.cell 3 1 rfl rfl;have f2:=HM4.out.cell 3 2 rfl rfl;have hnd:=HM4.out.nd;simp only [List.map_cons,List.map_nil,List.nodup_cons,List.mem_cons,List.not_mem_nil,or_false,not_or] at hnd
    have hg1:g∉[q+1]:=by simp;exact fun e=>hnd.2.1.1 e.symm
    have hg2:g2∉[q+1]:=by simp;exact fun e=>hnd.2.1.2 e.symm
    have r0:=fun x=>Qao (L:=[q+1]) d0 hg1 x
    have r1:=fun x=>Qao (L:=[q+1]) d1 hg1 x
    have r2:=fun x=>Qao (L:=[q+1]) f0 hg2 x
    have r3:=fun x=>Qao (L:=[q+1]) f1 hg2 x
    have r4:=fun x=>Qao (L:=[q+1]) f2 hg2 x
    have HT0:Hid (Qam [q+1] wc wc.drew):=LH (Qam.ofBelow (Qae (Qaj wc)));have HD0:Hid (Below wc.heap.size wc wc.drew):=LH (Qae (Qaj wc));have hC1:=Qa0 HT0.out;clear d0 d1 f0 f1 f2 hnd hg1 hg2;refine Qai (C:=fun w'=>∃x:Qjj [q+1] wc,w'=x.val) [.fl [0,1,2,3,4,5,6,7,8,9,10,11,12,13,14,15,16,17],.sq [18] true,.fl [19,20,21,22,23,24,27],.sq [25] true,.fl [26],.sq [28] true,.fl [29,30],.sq [31] true,.sq [32] false] (by kernel_rfl) (by kernel_rfl) (by intro c a d v w h;cases d <;> exact h) ?_;simp only [Qdj,Qa3,List.getElem?_cons_succ,List.getElem?_cons_zero]
    refine Qak hC1 ?_
    repeat (first|go_big_quiet_step (fail)|quiet_step (fail))
    refine wpQuiet_nil ?_;refine Qah (fun K hK=>?_);go_wp2_with fail;refine (HWd.out _).mono ?_;rintro e w11 ⟨rfl,hb11⟩;have HD11:=LH (HD0.out.trans (hb11.mono HD0.out.size));have HT11:Hid (Qam [q+1] wc w11):=LH (HT0.out.later hb11);have hC11:=Qa0 HT11.out;clear hb11;go_wp2_with fail;refine hK _ _ (fun _=>hC11) ?_;clear hK K;refine Qak hC11 ?_
    repeat (first|go_big_quiet_step (fail)|quiet_step (fail))
    refine wpQuiet_nil ?_;refine Qah (fun K hK=>?_);go_wp2_with fail;go_wp2_with fail;refine hK _ _ (fun _=>hC11) ?_;clear hK K;refine Qak hC11 ?_
    repeat (first|go_big_quiet_step (fail)|quiet_step (fail))
    refine wpQuiet_nil ?_;refine Qah (fun K hK=>?_);go_wp2_with fail;go_wp2_with fail;refine hK _ _ (fun _=>hC11) ?_;clear hK K;refine Qak hC11 ?_
    repeat (first|go_big_quiet_step (fail)|quiet_step (fail))
    refine wpQuiet_nil ?_;refine Qah (fun K hK=>?_);go_wp2_with (refine Qaa Qen (HM4.out.later HD11.out) 1 rfl rfl rfl rfl rfl rfl rfl rfl ?_;intro w8 h8 ht8;have H8:=LH h8;have HT8:=LH (HT11.out.trans ht8);clear h8 ht8)
    have hC9:=Qa0 HT8.out;go_wp2_with fail;refine hK _ _ (fun _=>hC9) ?_;clear hK K;refine Qal ?_;go_wp2_with fail;refine bodyPost_ret (Qac (p:=6) (u:=7) rfl _ _ _ _ _ _ _ rfl (H8.out.exact 1 rfl) Tryz.underlying109 rfl (by kernel_rfl)) rfl ?_;exact HP.out _ _ _ _ (by rw [HE.out];rfl) (fun o ho=>by rw [HE.out] at ho;cases ho) H8.out.below
   have h4':(o:Int) % (W:Int)=0:=by omega
   have h5':(o:Int)/(W:Int)=((o/W:Nat):Int):=by omega
   have h5l:o/W≤512:=Nat.le_trans (Nat.div_le_self _ _) (by omega)
   by_cases h5:o/W<Cn
   case neg =>
    have HE:Hid (Qax S L (y:Int)=none):=LH (by rw [HPl2.out,if_neg (fun h=>h5 (HIs.out.1 h).2.2)]);have h5'':Cn≤o/W:=by omega
    clear h5;generalize o/W=ow at *;go_upto_region 7 with fail;have d0:=HM4.out.cell 2 0 rfl rfl;have d1:=HM4.out.cell 2 1 rfl rfl;have f0:=HM4.out.cell 3 0 rfl rfl;have f1:=HM4.out.cell 3 1 rfl rfl;have f2:=HM4.out.cell 3 2 rfl rfl;have hnd:=HM4.out.nd;simp only [List.map_cons,List.map_nil,List.nodup_cons,List.mem_cons,List.not_mem_nil,or_false,not_or] at hnd
    have hg1:g∉[q+1]:=by simp;exact fun e=>hnd.2.1.1 e.symm
    have hg2:g2∉[q+1]:=by simp;exact fun e=>hnd.2.1.2 e.symm
    have r0:=fun x=>Qao (L:=[q+1]) d0 hg1 x
    have r1:=fun x=>Qao (L:=[q+1]) d1 hg1 x
    have r2:=fun x=>Qao (L:=[q+1]) f0 hg2 x
    have r3:=fun x=>Qao (L:=[q+1]) f1 hg2 x
    have r4:=fun x=>Qao (L:=[q+1]) f2 hg2 x
    have HT0:Hid (Qam [q+1] wc wc.drew):=LH (Qam.ofBelow (Qae (Qaj wc)));have HD0:Hid (Below wc.heap.size wc wc.drew):=LH (Qae (Qaj wc));have hC1:=Qa0 HT0.out;clear d0 d1 f0 f1 f2 hnd hg1 hg2;refine Qai (C:=fun w'=>∃x:Qjj [q+1] wc,w'=x.val) [.fl [0,1,2,3,4,5,6,7,8,9,10,11,12,13,14,15,16,17],.sq [18] true,.fl [19,20,21,22,23,24,27],.sq [25] true,.fl [26],.sq [28] true,.fl [29,30],.sq [31] true,.sq [32] false] (by kernel_rfl) (by kernel_rfl) (by intro c a d v w h;cases d <;> exact h) ?_;simp only [Qdj,Qa3,List.getElem?_cons_succ,List.getElem?_cons_zero]
    refine Qak hC1 ?_
    repeat (first|go_big_quiet_step (fail)|quiet_step (fail))
    refine wpQuiet_nil ?_;refine Qah (fun K hK=>?_);go_wp2_with fail;refine (HWd.out _).mono ?_;rintro e w11 ⟨rfl,hb11⟩;have HD11:=LH (HD0.out.trans (hb11.mono HD0.out.size));have HT11:Hid (Qam [q+1] wc w11):=LH (HT0.out.later hb11);have hC11:=Qa0 HT11.out;clear hb11;go_wp2_with fail;refine hK _ _ (fun _=>hC11) ?_;clear hK K;refine Qak hC11 ?_
    repeat (first|go_big_quiet_step (fail)|quiet_step (fail))
    refine wpQuiet_nil ?_;refine Qah (fun K hK=>?_);go_wp2_with fail;refine (HWd.out _).mono ?_;rintro e w12 ⟨rfl,hb12⟩;have HD12:=LH (HD11.out.trans (hb12.mono HD11.out.size));have HT12:Hid (Qam [q+1] wc w12):=LH (HT11.out.later hb12);have hC12:=Qa0 HT12.out;clear hb12;go_wp2_with fail;refine hK _ _ (fun _=>hC12) ?_;clear hK K;refine Qak hC12 ?_
    repeat (first|go_big_quiet_step (fail)|quiet_step (fail))
    refine wpQuiet_nil ?_;refine Qah (fun K hK=>?_);go_wp2_with fail;refine (HCl.out _).mono ?_;rintro e w13 ⟨rfl,hb13⟩;have HD13:=LH (HD12.out.trans (hb13.mono HD12.out.size));have HT13:Hid (Qam [q+1] wc w13):=LH (HT12.out.later hb13);have hC13:=Qa0 HT13.out;clear hb13;go_wp2_with fail;refine hK _ _ (fun _=>hC13) ?_;clear hK K;refine Qak hC13 ?_
    repeat (first|go_big_quiet_step (fail)|quiet_step (fail))
    refine wpQuiet_nil ?_;refine Qah (fun K hK=>?_);go_wp2_with (refine Qaa Qen (HM4.out.later HD13.out) 1 rfl rfl rfl rfl rfl rfl rfl rfl ?_;intro w8 h8 ht8;have H8:=LH h8;have HT8:=LH (HT13.out.trans ht8);clear h8 ht8)
    have hC9:=Qa0 HT8.out;go_wp2_with fail;refine hK _ _ (fun _=>hC9) ?_;clear hK K;refine Qal ?_;go_wp2_with fail;refine bodyPost_ret (Qac (p:=6) (u:=7) rfl _ _ _ _ _ _ _ rfl (H8.out.exact 1 rfl) Tryz.underlying109 rfl (by kernel_rfl)) rfl ?_;exact HP.out _ _ _ _ (by rw [HE.out,decide_eq_false (by omega)];rfl) (fun o ho=>by rw [HE.out] at ho;cases ho) H8.out.below
   have HE:Hid (Qax S L (y:Int)=some ⟨p,d,0⟩):=LH (by rw [HPl2.out,if_pos (HIs.out.2 ⟨rfl,h4,h5⟩)]);generalize o/W=ow at *;go_upto_region 7 with fail;have d0:=HM4.out.cell 2 0 rfl rfl;have d1:=HM4.out.cell 2 1 rfl rfl;have f0:=HM4.out.cell 3 0 rfl rfl;have f1:=HM4.out.cell 3 1 rfl rfl;have f2:=HM4.out.cell 3 2 rfl rfl;have hnd:=HM4.out.nd;simp only [List.map_cons,List.map_nil,List.nodup_cons,List.mem_cons,List.not_mem_nil,or_false,not_or] at hnd
   have hg1:g∉[q+1]:=by simp;exact fun e=>hnd.2.1.1 e.symm
   have hg2:g2∉[q+1]:=by simp;exact fun e=>hnd.2.1.2 e.symm
   have r0:=fun x=>Qao (L:=[q+1]) d0 hg1 x
   have r1:=fun x=>Qao (L:=[q+1]) d1 hg1 x
   have r2:=fun x=>Qao (L:=[q+1]) f0 hg2 x
   have r3:=fun x=>Qao (L:=[q+1]) f1 hg2 x
   have r4:=fun x=>Qao (L:=[q+1]) f2 hg2 x
   have HT0:Hid (Qam [q+1] wc wc.drew):=LH (Qam.ofBelow (Qae (Qaj wc)));have HD0:Hid (Below wc.heap.size wc wc.drew):=LH (Qae (Qaj wc));have hC1:=Qa0 HT0.out;clear d0 d1 f0 f1 f2 hnd hg1 hg2;refine Qai (C:=fun w'=>∃x:Qjj [q+1] wc,w'=x.val) [.fl [0,1,2,3,4,5,6,7,8,9,10,11,12,13,14,15,16,17],.sq [18] true,.fl [19,20,21,22,23,24,27],.sq [25] true,.fl [26],.sq [28] true,.fl [29,30],.sq [31] true,.sq [32] false] (by kernel_rfl) (by kernel_rfl) (by intro c a d v w h;cases d <;> exact h) ?_;simp only [Qdj,Qa3,List.getElem?_cons_succ,List.getElem?_cons_zero]
   refine Qak hC1 ?_
   repeat (first|go_big_quiet_step (fail)|quiet_step (fail))
   refine wpQuiet_nil ?_;refine Qah (fun K hK=>?_);go_wp2_with fail;refine (HWd.out _).mono ?_;rintro e w11 ⟨rfl,hb11⟩;have HD11:=LH (HD0.out.trans (hb11.mono HD0.out.size));have HT11:Hid (Qam [q+1] wc w11):=LH (HT0.out.later hb11);have hC11:=Qa0 HT11.out;clear hb11;go_wp2_with fail;refine hK _ _ (fun _=>hC11) ?_;clear hK K;refine Qak hC11 ?_
   repeat (first|go_big_quiet_step (fail)|quiet_step (fail))
   refine wpQuiet_nil ?_;refine Qah (fun K hK=>?_);go_wp2_with fail;refine (HWd.out _).mono ?_;rintro e w12 ⟨rfl,hb12⟩;have HD12:=LH (HD11.out.trans (hb12.mono HD11.out.size));have HT12:Hid (Qam [q+1] wc w12):=LH (HT11.out.later hb12);have hC12:=Qa0 HT12.out;clear hb12;go_wp2_with fail;refine hK _ _ (fun _=>hC12) ?_;clear hK K;refine Qak hC12 ?_
   repeat (first|go_big_quiet_step (fail)|quiet_step (fail))
   refine wpQuiet_nil ?_;refine Qah (fun K hK=>?_);go_wp2_with fail;refine (HCl.out _).mono ?_;rintro e w13 ⟨rfl,hb13⟩;have HD13:=LH (HD12.out.trans (hb13.mono HD12.out.size));have HT13:Hid (Qam [q+1] wc w13):=LH (HT12.out.later hb13);have hC13:=Qa0 HT13.out;clear hb13;go_wp2_with fail;refine hK _ _ (fun _=>hC13) ?_;clear hK K;refine Qak hC13 ?_
   repeat (first|go_big_quiet_step (fail)|quiet_step (fail))
   refine wpQuiet_nil ?_;refine Qah (fun K hK=>?_);go_wp2_with (refine Qaa Qen (HM4.out.later HD13.out) 1 rfl rfl rfl rfl rfl rfl rfl rfl ?_;intro w8 h8 ht8;have H8:=LH h8;have HT8:=LH (HT13.out.trans ht8);clear h8 ht8)
   have hC9:=Qa0 HT8.out;go_wp2_with fail;refine hK _ _ (fun _=>hC9) ?_;clear hK K;refine Qal ?_;go_wp2_with fail;refine bodyPost_ret (Qac (p:=6) (u:=7) rfl _ _ _ _ _ _ _ rfl (H8.out.exact 1 rfl) Tryz.underlying109 rfl (by kernel_rfl)) rfl ?_;exact HP.out _ _ _ _ (by rw [HE.out];rfl) (fun o ho=>by rw [HE.out] at ho;cases ho;rfl) H8.out.below
  ·rw [Qpc _ hsm];have HPl2:Hid (Qax S L (y:Int)=if o=0∧Qa4 L b=Qbm (Qap p d) then some ⟨p,d,0⟩ else none):=LH (by rw [HPl.out,if_neg hsm]);have HBk:=LH (fun w=>Qrv p d w);generalize Qbm (Qap p d)=nb at *;clear hsm HPl HBO HEb
   by_cases h1:o=0
   case neg =>
    have HE:Hid (Qax S L (y:Int)=none):=LH (by rw [HPl2.out,if_neg (fun h=>h1 h.1)]);have h1':((o:Int) == 0)=false:=by simpa using h1
    clear h1;go_upto_region 8 with fail;have d0:=HM4.out.cell 2 0 rfl rfl;have d1:=HM4.out.cell 2 1 rfl rfl;have f0:=HM4.out.cell 3 0 rfl rfl;have f1:=HM4.out.cell 3 1 rfl rfl;have f2:=HM4.out.cell 3 2 rfl rfl;have hnd:=HM4.out.nd;simp only [List.map_cons,List.map_nil,List.nodup_cons,List.mem_cons,List.not_mem_nil,or_false,not_or] at hnd
    have hg1:g∉[q+1]:=by simp;exact fun e=>hnd.2.1.1 e.symm
    have hg2:g2∉[q+1]:=by simp;exact fun e=>hnd.2.1.2 e.symm
    have r0:=fun x=>Qao (L:=[q+1]) d0 hg1 x
    have r1:=fun x=>Qao (L:=[q+1]) d1 hg1 x
    have r2:=fun x=>Qao (L:=[q+1]) f0 hg2 x
    have r3:=fun x=>Qao (L:=[q+1]) f1 hg2 x
    have r4:=fun x=>Qao (L:=[q+1]) f2 hg2 x
    have HT0:Hid (Qam [q+1] wc wc.drew):=LH (Qam.ofBelow (Qae (Qaj wc)));have HD0:Hid (Below wc.heap.size wc wc.drew):=LH (Qae (Qaj wc));have hC1:=Qa0 HT0.out;clear d0 d1 f0 f1 f2 hnd hg1 hg2;refine Qai (C:=fun w'=>∃x:Qjj [q+1] wc,w'=x.val) [.fl [0,1,2,3,4,5,6,7,9],.sq [8] true,.sq [10] true,.fl [11,12],.sq [13] true,.sq [14] false] (by kernel_rfl) (by kernel_rfl) (by intro c a d v w h;cases d <;> exact h) ?_;simp only [Qdj,Qa3,List.getElem?_cons_succ,List.getElem?_cons_zero]
    refine Qak hC1 ?_
    repeat (first|go_big_quiet_step (fail)|quiet_step (fail))
    refine wpQuiet_nil ?_;refine Qah (fun K hK=>?_);go_wp2_with fail;go_wp2_with fail;refine hK _ _ (fun _=>hC1) ?_;clear hK K;refine Qah (fun K hK=>?_);go_wp2_with fail;go_wp2_with fail;refine hK _ _ (fun _=>hC1) ?_;clear hK K;refine Qak hC1 ?_
    repeat (first|go_big_quiet_step (fail)|quiet_step (fail))
    refine wpQuiet_nil ?_;refine Qah (fun K hK=>?_);go_wp2_with (refine Qaa Qen (HM4.out.later HD0.out) 1 rfl rfl rfl rfl rfl rfl rfl rfl ?_;intro w8 h8 ht8;have H8:=LH h8;have HT8:=LH (HT0.out.trans ht8);clear h8 ht8)
    have hC9:=Qa0 HT8.out;go_wp2_with fail;refine hK _ _ (fun _=>hC9) ?_;clear hK K;refine Qal ?_;go_wp2_with fail;refine bodyPost_ret (Qac (p:=6) (u:=7) rfl _ _ _ _ _ _ _ rfl (H8.out.exact 1 rfl) Tryz.underlying109 rfl (by kernel_rfl)) rfl ?_;exact HP.out _ _ _ _ (by rw [HE.out];rfl) (fun o ho=>by rw [HE.out] at ho;cases ho) H8.out.below
   subst h1;have HE0:=LH HPl2.out
   by_cases h2:Qa4 L b=nb
   ·have HE:Hid (Qax S L (y:Int)=some ⟨p,d,0⟩):=LH (by rw [HPl2.out,if_pos ⟨rfl,h2⟩]);have HW2:=LH h2;go_upto_region 8 with fail;have d0:=HM4.out.cell 2 0 rfl rfl;have d1:=HM4.out.cell 2 1 rfl rfl;have f0:=HM4.out.cell 3 0 rfl rfl;have f1:=HM4.out.cell 3 1 rfl rfl;have f2:=HM4.out.cell 3 2 rfl rfl;have hnd:=HM4.out.nd;simp only [List.map_cons,List.map_nil,List.nodup_cons,List.mem_cons,List.not_mem_nil,or_false,not_or] at hnd
    have hg1:g∉[q+1]:=by simp;exact fun e=>hnd.2.1.1 e.symm
    have hg2:g2∉[q+1]:=by simp;exact fun e=>hnd.2.1.2 e.symm
    have r0:=fun x=>Qao (L:=[q+1]) d0 hg1 x
    have r1:=fun x=>Qao (L:=[q+1]) d1 hg1 x
    have r2:=fun x=>Qao (L:=[q+1]) f0 hg2 x
    have r3:=fun x=>Qao (L:=[q+1]) f1 hg2 x
    have r4:=fun x=>Qao (L:=[q+1]) f2 hg2 x
    have HT0:Hid (Qam [q+1] wc wc.drew):=LH (Qam.ofBelow (Qae (Qaj wc)));have HD0:Hid (Below wc.heap.size wc wc.drew):=LH (Qae (Qaj wc));have hC1:=Qa0 HT0.out;clear d0 d1 f0 f1 f2 hnd hg1 hg2;refine Qai (C:=fun w'=>∃x:Qjj [q+1] wc,w'=x.val) [.fl [0,1,2,3,4,5,6,7,9],.sq [8] true,.sq [10] true,.fl [11,12],.sq [13] true,.sq [14] false] (by kernel_rfl) (by kernel_rfl) (by intro c a d v w h;cases d <;> exact h) ?_;simp only [Qdj,Qa3,List.getElem?_cons_succ,List.getElem?_cons_zero]
    refine Qak hC1 ?_
    repeat (first|go_big_quiet_step (fail)|quiet_step (fail))
    refine wpQuiet_nil ?_;refine Qah (fun K hK=>?_);go_wp2_with fail;refine (Qlh (some ⟨b1,o1,none⟩) n cap L HN.out _ (HCw.out.below (HM4.out.later HD0.out).below NR) hl b hbn').mono ?_;rintro e w11 ⟨rfl,hb11⟩;have HD11:=LH (HD0.out.trans (hb11.mono HD0.out.size));have HT11:Hid (Qam [q+1] wc w11):=LH (HT0.out.later hb11);have hC11:=Qa0 HT11.out;clear hb11;go_wp2_with fail;refine hK _ _ (fun _=>hC11) ?_;clear hK K;refine Qah (fun K hK=>?_);go_wp2_with fail;refine (HBk.out _).mono ?_;rintro e w12 ⟨rfl,hb12⟩;have HD12:=LH (HD11.out.trans (hb12.mono HD11.out.size));have HT12:Hid (Qam [q+1] wc w12):=LH (HT11.out.later hb12);have hC12:=Qa0 HT12.out;clear hb12;go_wp2_with fail;refine hK _ _ (fun _=>hC12) ?_;clear hK K;refine Qak hC12 ?_
    repeat (first|go_big_quiet_step (fail)|quiet_step (fail))
    refine wpQuiet_nil ?_;refine Qah (fun K hK=>?_);go_wp2_with (refine Qaa Qen (HM4.out.later HD12.out) 1 rfl rfl rfl rfl rfl rfl rfl rfl ?_;intro w8 h8 ht8;have H8:=LH h8;have HT8:=LH (HT12.out.trans ht8);clear h8 ht8)
    have hC9:=Qa0 HT8.out;go_wp2_with fail;refine hK _ _ (fun _=>hC9) ?_;clear hK K;refine Qal ?_;go_wp2_with fail;refine bodyPost_ret (Qac (p:=6) (u:=7) rfl _ _ _ _ _ _ _ rfl (H8.out.exact 1 rfl) Tryz.underlying109 rfl (by kernel_rfl)) rfl ?_;exact HP.out _ _ _ _ (by rw [HE.out];rfl) (fun o ho=>by rw [HE.out] at ho;cases ho;rfl) H8.out.below
   ·have HE:Hid (Qax S L (y:Int)=none):=LH (by rw [HPl2.out,if_neg (fun h=>h2 h.2)]);have HW2:=LH h2;clear h2;go_upto_region 8 with fail;have d0:=HM4.out.cell 2 0 rfl rfl;have d1:=HM4.out.cell 2 1 rfl rfl;have f0:=HM4.out.cell 3 0 rfl rfl;have f1:=HM4.out.cell 3 1 rfl rfl;have f2:=HM4.out.cell 3 2 rfl rfl;have hnd:=HM4.out.nd;simp only [List.map_cons,List.map_nil,List.nodup_cons,List.mem_cons,List.not_mem_nil,or_false,not_or] at hnd
    have hg1:g∉[q+1]:=by simp;exact fun e=>hnd.2.1.1 e.symm
    have hg2:g2∉[q+1]:=by simp;exact fun e=>hnd.2.1.2 e.symm
    have r0:=fun x=>Qao (L:=[q+1]) d0 hg1 x
    have r1:=fun x=>Qao (L:=[q+1]) d1 hg1 x
    have r2:=fun x=>Qao (L:=[q+1]) f0 hg2 x
    have r3:=fun x=>Qao (L:=[q+1]) f1 hg2 x
    have r4:=fun x=>Qao (L:=[q+1]) f2 hg2 x
    have HT0:Hid (Qam [q+1] wc wc.drew):=LH (Qam.ofBelow (Qae (Qaj wc)));have HD0:Hid (Below wc.heap.size wc wc.drew):=LH (Qae (Qaj wc));have hC1:=Qa0 HT0.out;clear d0 d1 f0 f1 f2 hnd hg1 hg2;refine Qai (C:=fun w'=>∃x:Qjj [q+1] wc,w'=x.val) [.fl [0,1,2,3,4,5,6,7,9],.sq [8] true,.sq [10] true,.fl [11,12],.sq [13] true,.sq [14] false] (by kernel_rfl) (by kernel_rfl) (by intro c a d v w h;cases d <;> exact h) ?_;simp only [Qdj,Qa3,List.getElem?_cons_succ,List.getElem?_cons_zero]
    refine Qak hC1 ?_
    repeat (first|go_big_quiet_step (fail)|quiet_step (fail))
    refine wpQuiet_nil ?_;refine Qah (fun K hK=>?_);go_wp2_with fail;refine (Qlh (some ⟨b1,o1,none⟩) n cap L HN.out _ (HCw.out.below (HM4.out.later HD0.out).below NR) hl b hbn').mono ?_;rintro e w11 ⟨rfl,hb11⟩;have HD11:=LH (HD0.out.trans (hb11.mono HD0.out.size));have HT11:Hid (Qam [q+1] wc w11):=LH (HT0.out.later hb11);have hC11:=Qa0 HT11.out;clear hb11;go_wp2_with fail;refine hK _ _ (fun _=>hC11) ?_;clear hK K;refine Qah (fun K hK=>?_);go_wp2_with fail;refine (HBk.out _).mono ?_;rintro e w12 ⟨rfl,hb12⟩;have HD12:=LH (HD11.out.trans (hb12.mono HD11.out.size));have HT12:Hid (Qam [q+1] wc w12):=LH (HT11.out.later hb12);have hC12:=Qa0 HT12.out;clear hb12;go_wp2_with fail;refine hK _ _ (fun _=>hC12) ?_;clear hK K;refine Qak hC12 ?_
    repeat (first|go_big_quiet_step (fail)|quiet_step (fail))
    refine wpQuiet_nil ?_;refine Qah (fun K hK=>?_);go_wp2_with (refine Qaa Qen (HM4.out.later HD12.out) 1 rfl rfl rfl rfl rfl rfl rfl rfl ?_;intro w8 h8 ht8;have H8:=LH h8;have HT8:=LH (HT12.out.trans ht8);clear h8 ht8)
    have hC9:=Qa0 HT8.out;go_wp2_with fail;refine hK _ _ (fun _=>hC9) ?_;clear hK K;refine Qal ?_;go_wp2_with fail;refine bodyPost_ret (Qac (p:=6) (u:=7) rfl _ _ _ _ _ _ _ rfl (H8.out.exact 1 rfl) Tryz.underlying109 rfl (by kernel_rfl)) rfl ?_;exact HP.out _ _ _ _ (by have:=HW2.out;rw [HE.out,beq_eq_false_iff_ne.2 (show ((Qa4 L b:Nat):Int)≠(nb:Int) by omega)];rfl) (fun o ho=>by rw [HE.out] at ho;cases ho) H8.out.below
end
section
open Go.Maps
theorem Qtp (S:Dev) (a:Int):Qxg S a (if (Qa9 S a).code=0 then (Qa9 S a).p.toNat else 0)=Qjr S a:=by
 unfold Qjr
 split
 ·rfl
 ·rfl
theorem Trc.mem {ok:Nat→Prop} {P:Nat→List Nat} {f seen opn opn' rest:List Nat} {bad:Bool} (h:Trc ok P f seen opn rest bad) (hm:∀x,x∈opn↔x∈opn'):Trc ok P f seen opn' rest bad :=
 ⟨h.nd,h.in_,fun x hx=>h.sub x ((hm x).2 hx),h.from_,h.base,fun y hy=>(h.next y hy).imp (hm y).1 id,fun hb=>⟨(h.clean hb).1,fun y hy=>((h.clean hb).2 y hy).imp (hm y).1 id⟩,h.dirty⟩
theorem Trc.popF {ok:Nat→Prop} {P:Nat→List Nat} {f seen opn:List Nat} {a:Nat} {bad:Bool} (h:Trc ok P f seen (a :: opn) [] bad):Trc ok P f seen opn (P a) bad :=
 (h.mem (opn':=opn ++ [a]) (fun x=>by simp [or_comm])).pop
structure Q19 (w wr:World) (q:Nat) (D:Array Value) (sv:Value) (seen:List Nat):Prop where
 below:Below w.heap.size w wr
 dev:wr.heap[q]?=some (.cells D 38 (0,0))
 own:Qcs wr sv seen
 row:∀b,Qbc sv=some b→q<b
 q0:w.heap.size≤q
section
variable {w wr w':World} {q:Nat} {D:Array Value} {sv:Value} {seen:List Nat}
theorem Q19.later (h:Q19 w wr q D sv seen) (hb:Below wr.heap.size wr w'):Q19 w w' q D sv seen :=
 ⟨h.below.trans (hb.mono h.below.size),(hb.block _ (Qbu h.dev)).trans h.dev,h.own.keep (fun b hb'=>hb.block b (h.own.lt b hb')),h.row,h.q0⟩
theorem Q19.grow (h:Q19 w wr q D sv seen) {sv':Value} {seen':List Nat} (hg:wr.grownBy w' (Qbc sv)) (ho:Qcs w' sv' seen') (hr:∀b,Qbc sv'=some b→Qbc sv=some b∨b=wr.heap.size):Q19 w w' q D sv' seen':=by
 refine ⟨⟨hg.os.trans h.below.os,hg.tape.trans h.below.tape,hg.output.trans h.below.output,Nat.le_trans h.below.size hg.size,fun k hk=>(hg.block k (Nat.lt_of_lt_of_le hk h.below.size) (fun e=>?_)).trans (h.below.block k hk)⟩,(hg.block q (Qbu h.dev) (fun e=>?_)).trans h.dev,ho,fun b hb=>?_,h.q0⟩
 ·have:=h.row _ e.symm;have:=h.q0;omega
 ·have:=h.row _ e.symm;omega
 ·rcases hr b hb with c | c
  ·exact h.row b c
  ·rw [c];exact Qbu h.dev
theorem Q19.cell (h:Q19 w wr q D sv seen) (i:Nat) {v:Value} (hv:D.toList[i]?=some v):wr.cell? ⟨q,0+i,none⟩=some v:=by
 rw [Nat.zero_add];exact (cell_of_row _ _ i _ _ _ h.dev).trans (by rw [← Array.getElem?_toList];exact hv)
end
theorem Je5:Qgg Tryz.prog 134 193 (.agg #[.int .i64 0,.int .i64 0]) 2 16:=Qgg.mk' Tryz.underlying134 (by kernel_rfl) rfl (by decide)
def Qqi (S:Dev) (L:List Hd) (fr:List Nat) (w:World):Ending→World→Prop:=fun e w'=>Below w.heap.size w w'∧∃v ys ba nb bc,e=.returned (.tuple #[v,.slice ba nb bc])∧Qcs w' v ys∧ys.Pairwise (· < ·)∧(∀x,x∈ys↔Rch (okN S L) (Qcn S) fr x)∧(∀b,Qbc v=some b→w.heap.size≤b)∧(nb=0↔Qmi (okN S L) (Qcn S) fr)
theorem Jgf {S:Dev} {L:List Hd} {fr ys:List Nat} (h:∀x,x∈ys↔Rch (okN S L) (Qcn S) fr x):Qmi (okN S L) (Qcn S) fr↔(¬ ∃x∈fr,x≠0∧¬okN S L x)∧∀y∈ys,∀x∈Qcn S y,x=0∨x∈ys:=by
 constructor
 ·intro hc;refine ⟨fun ⟨x,h1,h2,h3⟩=>h3 (hc x h2 (.inl h1)),fun y hy x hx=>?_⟩
  by_cases h0:x=0
  ·exact .inl h0
  ·exact .inr ((h x).2 (.step ((h y).1 hy) hx (hc x h0 (.inr ⟨y,(h y).1 hy,hx⟩))))
 ·rintro ⟨h1,h2⟩ x h0 hx;rcases hx with hx | ⟨y,hy,hx⟩
  ·by_cases c:okN S L x
   ·exact c
   ·exact absurd ⟨x,hx,h0,c⟩ h1
  ·rcases h2 y ((h y).2 hy) x hx with c | c
   ·exact absurd c h0
   ·exact ((h x).1 c).ok'
theorem Qvh {w:World} {v:Value} {S:Dev} {m:Nat} (hm:S.dirty.length=m) (h:RAt w v m S.ref) {N:Nat} (hf:S.fit N) (a:Nat) :
  Calls Tryz.prog 102 #[v,.int .i64 (a:Int)] w fun e w'=>∃av c,e=.returned (.slice av (Qcn S a).length c)∧w'.ownsRow w.heap.size 3 1 (.slice av (Qcn S a).length c) (Qcn S a).length ((Qcn S a).map vi)∧Below w.heap.size w w':=by
 refine (Qum hm h hf (a:Int)).mono ?_;rintro e w' ⟨v',rfl,ho,hb⟩;rw [Qtp] at ho;have hl:(Qjr S (a:Int)).length=(if (Qa9 S (a:Int)).code=0 then (Qa9 S (a:Int)).p.toNat else 0):=by rw [← Qtp,Qjd]
 rw [← hl] at ho;obtain ⟨av,c,rfl,_,_⟩:=Qbe ho;exact ⟨av,c,rfl,ho,hb⟩
theorem Qud {w:World} {base e n size d t:Nat} {v:Value} {xs:List Value} {cs:Array Value} {fr:Nat × Nat} (ho:w.ownsRow base e size v n xs) (h:w.heap[d]?=some (.cells cs t fr)) (hne:t≠e):some d≠v.ownBlock:=by
 intro c;rcases ho.2 with ⟨rfl,_⟩|⟨g,cap,cur,rfl,_,hg,_⟩
 ·simp [Value.ownBlock] at c
 ·simp [Value.ownBlock] at c
  subst c;rw [hg] at h;injection h with h
  injection h with h1 h2
  exact hne h2.symm
theorem Qq1 {w w':World} {base e size n base2 e2 size2 n2:Nat} {v v2:Value} {xs xs2:List Value} (h:w.ownsRow base e size v n xs) (ho:w.ownsRow base2 e2 size2 v2 n2 xs2) (hg:w.grownBy w' v2.ownBlock) (hne:e≠e2):w'.ownsRow base e size v n xs:=by
 refine ⟨h.1,?_⟩;rcases h.2 with hn | ⟨g,cap,cur,rfl,h1,hg0,r⟩
 ·exact .inl hn
 ·exact .inr ⟨g,cap,cur,rfl,h1,by rw [hg.block g (Array.getElem?_eq_some_iff.1 hg0).1 (Qud ho hg0 hne)];exact hg0,r⟩
theorem Qrs {w:World} {v:Value} {S:Dev} {m:Nat} (hm:S.dirty.length=m) (h:RAt w v m S.ref) {N:Nat} (hf:S.fit N) (a:Option Addr) (B cap:Nat) (L:List Hd) (hlen:L.length=B) (hc:Qaq w a (Qbt L)) (hB:B≤1000)
  (fa:Option Addr) (fl fc:Nat) (fr:List Nat) (hfl:fr.length=fl) (hfc:Qaq w fa (fr.map vi)) (hfs:fl≤1000) (hfb:∀x∈fr,x≤4611686018427387904) :
  Calls Tryz.prog 52 #[v,.slice a B cap,.slice fa fl fc] w (Qqi S L fr w):=by
 have HP:Hid (∀v ys ba nb bc w',Below w.heap.size w w'→Qcs w' v ys→ys.Pairwise (· < ·)→(∀x,x∈ys↔Rch (okN S L) (Qcn S) fr x)→(∀b,Qbc v=some b→w.heap.size≤b)→(nb=0↔Qmi (okN S L) (Qcn S) fr)→Qqi S L fr w (.returned (.tuple #[v,.slice ba nb bc])) w'):=LH (fun v ys ba nb bc w' h1 h2 h3 h4 h5 h6=>⟨h1,v,ys,ba,nb,bc,rfl,h2,h3,h4,h5,h6⟩);generalize Qqi S L fr w=Post at *;obtain ⟨D,rfl⟩:=h.agg;obtain ⟨hD8,hD1⟩:=h.arr;have HPl:Hid (∀w',Below w.heap.size w w'→∀x:Nat,x≤4611686018427387904→Calls Tryz.prog 101 #[.agg D,.slice a B cap,.int .i64 (x:Int)] w' (Qnl S L (x:Int) w')):=LH (fun w' hb x hx =>
  Qu5 hm (h.below hb NR) hf a B cap L hlen (hc.below hb NR) hB (x:Int) (by unfold Jij;omega))
 have HPt:Hid (∀w',Below w.heap.size w w'→∀x:Nat,Calls Tryz.prog 102 #[.agg D,.int .i64 (x:Int)] w' fun e w''=>∃av c,e=.returned (.slice av (Qcn S x).length c)∧w''.ownsRow w'.heap.size 3 1 (.slice av (Qcn S x).length c) (Qcn S x).length ((Qcn S x).map vi)∧Below w'.heap.size w' w''):=LH (fun w' hb x =>
  Qvh hm (h.below hb NR) hf x)
 have HPn:Hid (∀x:Nat,(Qcn S x).length≤64):=LH (fun x=>Qs7 hf.wf.small (x:Int));have HPb:Hid (∀y,∀x∈Qcn S y,x≤4611686018427387904):=LH (fun y x hx=>by
  unfold Qcn Qjr at hx
  split at hx
  ·obtain ⟨i,_,rfl⟩:=List.mem_map.1 hx;exact Nat.le_trans (Jbu _) (by decide)
  ·cases hx)
 obtain ⟨q,hq⟩:∃q,q=w.heap.size:=⟨_,rfl⟩
 have H0:Hid (Q19 w (w.alloc (.cells D 38)) q D (.slice none 0 0) []):=LH ⟨Qaf _ _,by rw [hq];exact heap_alloc_new w _,Qcs.nil _,fun b hb=>(by cases hb),by omega⟩;have HCf:=LH hfc;have HFl:=LH hfl;have HFb:=LH hfb;have HLn:=LH hlen;clear h hf hm hc hfc hfl hfb hlen;go_enter Tryz.func52,Tryz.ntmps52;go_upto_region 1 with fail;rw [← hq];generalize w.alloc _=w1 at *;have HQz:=LH hq;clear hq;go_wp2_with fail
 go_loopw [8,9,10] (fun sv rv iv wr=>∃(k:Nat) (seen:List Nat) (rl bad:Bool),k≤fl∧rv=.bool rl∧iv=.int .i64 (k:Int)∧Hid (Q19 w wr q D sv seen)∧Hid (Trc (okN S L) (Qcn S) fr seen seen (fr.drop k) bad)∧Hid (rl=true↔∃x∈fr.take k,x≠0∧¬okN S L x)∧Hid (seen.length≤k)) (fun _ _ iv _=>fl-(RowKit.intOf iv).toNat)
 case atStart=>exact ⟨0,[],false,false,by omega,rfl,rfl,H0,LH (Trc.start _ _ _),LH (by simp),LH (by simp)⟩
 case round =>
  obtain ⟨k,seen,rl,bad,hk,rfl,rfl,HQ,HTc,HRl,HSl⟩:=hrel;obtain ⟨sa,sc,hsv,hscl,_⟩:=HQ.out.own.cells;obtain ⟨sl,hsl⟩:∃sl,sl=seen.length:=⟨_,rfl⟩
  rw [← hsl] at hsv;have HSn:=LH hsl;have HCs:=LH hscl;subst hsv;clear hsl hscl
  by_cases hlt:k<fl
  ·have hlt':(k:Int)<(fl:Int):=by omega
   obtain ⟨x,hx⟩:∃x,fr[k]?=some x:=⟨_,GE (by rw [HFl.out];exact hlt)⟩
   obtain ⟨b1,o1,q1,_,hcx⟩:=(HCf.out.below HQ.out.below NR).at (i:=k) (by rw [List.length_map,HFl.out];exact hlt);have cx:wr.cell? ⟨b1,o1+k,none⟩=some (.int .i64 (x:Int)):=hcx k (vi x) (by rw [List.getElem?_map,hx];rfl);have HXb:=LH (HFb.out x (List.mem_of_getElem? hx));have hk2:k<fr.length:=by rw [HFl.out];exact hlt
   have HDr:Hid (fr.drop k=x :: fr.drop (k+1)):=LH (by
    rw [List.drop_eq_getElem_cons hk2]
    congr 1
    rw [GE hk2] at hx
    injection hx)
   have HTk:Hid (fr.take (k+1)=fr.take k ++ [x]):=LH (by
    rw [List.take_succ_eq_append_getElem hk2,(List.getElem?_eq_some_iff.1 hx).2])
   have HTx:Hid (Trc (okN S L) (Qcn S) fr seen seen (x :: fr.drop (k+1)) bad):=LH (by rw [← HDr.out];exact HTc.out);have HRs:Hid ((x=0∨okN S L x)→(rl=true↔∃x∈fr.take (k+1),x≠0∧¬okN S L x)):=LH (fun hx=>by
    rw [HTk.out,HRl.out];constructor
    ·rintro ⟨y,h1,h2⟩;exact ⟨y,List.mem_append_left _ h1,h2⟩
    ·rintro ⟨y,h1,h2,h3⟩;rcases List.mem_append.1 h1 with h1 | h1
     ·exact ⟨y,h1,h2,h3⟩
     ·simp at h1;subst h1
      rcases hx with hx | hx
      ·exact absurd hx h2
      ·exact absurd hx h3)
   subst q1;clear hcx hx hk2 HTc HDr
   by_cases hx0:x=0
   ·have HT2:=LH (HTx.out.skip (Qhm S L) (.inl hx0));have HR2:=LH (HRs.out (.inl hx0));subst hx0;rw [show ((0:Nat):Int)=0 from rfl] at cx;go_wp2_with fail;exact ⟨⟨k+1,seen,rl,bad,by omega,rfl,Qb2 (by omega),HQ,HT2,HR2,LH (by have:=HSl.out;omega)⟩,by simp [RowKit.intOf];omega⟩
   have hx0':((x:Int) == 0)=false:=by rw [beq_eq_false_iff_ne];omega
   have HX0:=LH hx0;have HHas:=LH (Qq0 (w:=wr) sa sl sc seen HSn.out.symm HCs.out (by have:=HSn.out;have:=HSl.out;omega) x);clear hx0
   by_cases hs:x∈seen
   ·have hct:seen.contains x=true:=List.contains_iff_mem.2 hs;rw [hct] at HHas;have HT2:=LH (HTx.out.skip (Qhm S L) (.inr hs));have HR2:=LH (HRs.out (.inr (HTx.out.in_ x hs).ok'));clear hct hs;go_wp2_with fail;refine HHas.out.mono ?_;rintro e w2 ⟨rfl,rfl⟩;go_wp2_with fail;exact ⟨⟨k+1,seen,rl,bad,by omega,rfl,Qb2 (by omega),HQ,HT2,HR2,LH (by have:=HSl.out;omega)⟩,by simp [RowKit.intOf];omega⟩
   have hct:seen.contains x=false:=by
    cases hq:seen.contains x with
    | false=>rfl
    | true=>exact absurd (List.contains_iff_mem.1 hq) hs
   rw [hct] at HHas;have HNs:=LH hs;clear hct hs;have hpl:=HPl.out wr HQ.out.below x HXb.out;obtain ⟨okk,hok⟩:∃okk,okk=(Qax S L (x:Int)).isSome:=⟨_,rfl⟩
   unfold Qnl at hpl;rw [← hok] at hpl;have HPx:=LH hpl;have HOk:=LH hok;have hld:=fun i v hi=>HQ.out.cell i (v:=v) hi
   clear hpl hok;go_wp2_with fail;refine HHas.out.mono ?_;rintro e w2 ⟨rfl,rfl⟩;go_wp2_with (refine Qig Qbk D hld hD8 rfl rfl rfl ?_)
   refine HPx.out.mono ?_;rintro e w2 ⟨⟨p,d,rfl,_⟩,hb2⟩;have HQ2:=LH (HQ.out.later hb2);have HQ3:=LH (HQ2.out.later (Qaf w2 (.cells #[.int .i64 p,.int .i64 d] 109)));clear hb2 cx hld HQ HPx;go_upto_region 9 with fail;generalize w2.alloc _=w3 at *
   cases okk with
   | false =>
    have hno:¬okN S L x:=by unfold okN;rw [← HOk.out];simp
    have HT2:=LH (HTx.out.fail HX0.out hno);have HR2:Hid (true=true↔∃x∈fr.take (k+1),x≠0∧¬okN S L x):=LH ⟨fun _=>⟨x,by rw [HTk.out];simp,HX0.out,hno⟩,fun _=>rfl⟩;clear hno;go_wp2_with fail;exact ⟨⟨k+1,seen,true,true,by omega,rfl,Qb2 (by omega),HQ3,HT2,HR2,LH (by have:=HSl.out;omega)⟩,by simp [RowKit.intOf];omega⟩
   | true =>
    have hyes:okN S L x:=by unfold okN;rw [← HOk.out]
    have HT2:=LH (HTx.out.take hyes HNs.out);have HR2:=LH (HRs.out (.inr hyes));have HQ4:=LH (HQ3.out.later (Qaf w3 (.cells #[.int .i64 (x:Int)] 3)));have HC2:Hid (Qaq (w3.alloc (.cells #[.int .i64 (x:Int)] 3)) (some ⟨w3.heap.size,0,none⟩) ([x].map vi)):=LH (Qa6.cells ⟨_,heap_alloc_new _ _,[],rfl⟩);have HN1:Hid (seen.length+1≤1000000000000):=LH (by have:=HSl.out;omega);clear hyes;go_wp2_with (refine Qbz (m:=1) HQ4.out.own HC2.out rfl HN1.out rfl rfl rfl rfl ?_;intro v' w4 ho4 hg4 hr4;have HO4:=LH ho4;have HG4:=LH hg4;have HR4:=LH hr4;clear ho4 hg4 hr4)
    exact ⟨⟨k+1,seen ++ [x],rl,bad,by omega,rfl,Qb2 (by omega),LH (HQ4.out.grow HG4.out HO4.out HR4.out),HT2,HR2,LH (by have:=HSl.out;simp;omega)⟩,by simp [RowKit.intOf];omega⟩
  ·have hltd:decide ((k:Int)<(fl:Int))=false:=by simp;omega
   have hke:k=fl:=by omega
   have HT2:Hid (Trc (okN S L) (Qcn S) fr seen (seen.drop 0) [] bad):=LH (by have:=HTc.out;rw [hke,← HFl.out,List.drop_length] at this;exact this);have HR2:Hid (rl=true↔∃x∈fr,x≠0∧¬okN S L x):=LH (by have:=HRl.out;rw [hke,← HFl.out,List.take_length] at this;exact this);clear HTc HRl hke;go_wp2_with fail
   go_loopw [8,14] (fun sv iv wr=>∃(i:Nat) (seen:List Nat) (bad:Bool),iv=.int .i64 (i:Int)∧Hid (i≤seen.length)∧Hid (Q19 w wr q D sv seen)∧Hid (Trc (okN S L) (Qcn S) fr seen (seen.drop i) [] bad)) (fun _ iv _=>512*B-(RowKit.intOf iv).toNat)
   case atStart=>exact ⟨0,seen,bad,rfl,LH (by omega),HQ,HT2⟩
   case round =>
    clear HQ HT2 HCs HSn HSl;obtain ⟨i,seen,bad,rfl,HIl,HQ,HTc⟩:=hrel;obtain ⟨sa,sc,hsv,hscl,_⟩:=HQ.out.own.cells;obtain ⟨sl,hsl⟩:∃sl,sl=seen.length:=⟨_,rfl⟩
    rw [← hsl] at hsv;have hil:i≤sl:=by rw [hsl];exact HIl.out
    have hslB:sl≤512*B:=by rw [hsl];have:=HTc.out.len;rw [HLn.out] at this;exact this
    have HSn:=LH hsl;have HCs:=LH hscl;subst hsv;clear hsl hscl HIl
    by_cases hlt2:i<sl
    ·have hlt2':(i:Int)<(sl:Int):=by omega
     obtain ⟨y,hy⟩:∃y,seen[i]?=some y:=⟨_,GE (by rw [← HSn.out];exact hlt2)⟩
     obtain ⟨b1,o1,q1,_,hcx⟩:=HCs.out.at (i:=i) (by rw [List.length_map,← HSn.out];exact hlt2);have cy:wr.cell? ⟨b1,o1+i,none⟩=some (.int .i64 (y:Int)):=hcx i (vi y) (by rw [List.getElem?_map,hy];rfl);have ry:=fun x=>Qab cy x
     have hi2:i<seen.length:=by rw [← HSn.out];exact hlt2
     have HTp:Hid (Trc (okN S L) (Qcn S) fr seen (seen.drop (i+1)) (Qcn S y) bad):=LH (by
      have h1:=HTc.out;rw [List.drop_eq_getElem_cons hi2,(List.getElem?_eq_some_iff.1 hy).2] at h1
      exact h1.popF)
     have HI2:Hid (i<seen.length):=LH hi2;subst q1;clear hcx hy cy hi2 HTc;have hld:∀w',(∃x:Qbi wr,w'=x.val)→∀(i:Nat) (v:Value),D.toList[i]?=some v→w'.cell? ⟨q,0+i,none⟩=some v:=by
      rintro w' ⟨x,rfl⟩ i v hi;exact Qab (HQ.out.cell i hi) x
     go_upto_region 15 with fail;refine Qai (C:=fun w'=>∃x:Qbi (wr),w'=x.val) [.fl [0,1,2,3,4],.sq [5,6] false] (by kernel_rfl) (by kernel_rfl) (by intro c a d v w h;cases d <;> exact h) ?_;simp only [Qdj,Qa3,List.getElem?_cons_succ,List.getElem?_cons_zero]
     have hC1:=Qaj (wr);refine Qak hC1 ?_
     repeat (first | (refine Qbf Qbk D hld hD8 rfl rfl rfl ?_) | go_big_quiet_step (fail) | quiet_step (fail))
     refine wpQuiet_nil ?_;clear hld ry;have HQ1:=LH (HQ.out.later (Qae hC1));generalize wr.drew=wd at *;clear hC1 HQ;have HPty:=LH (HPt.out wd HQ1.out.below y);refine Qal ?_;go_wp2_with fail;refine HPty.out.mono ?_;rintro e w2 ⟨ap,cp,rfl,hop,hb2⟩;have HQ2:=LH (HQ1.out.later hb2);have hPn:=HPn.out y;have HPb2:=LH (HPb.out y);obtain ⟨P,hP⟩:∃P,P=Qcn S y:=⟨_,rfl⟩
     rw [← hP] at hop hPn HPb2 HTp ⊢;have HCp:=LH (Qaq.owned hop);have HNw:Hid (0<P.length→∀x,ap=some x→x.block<w2.heap.size∧Qbc (.slice (some ⟨b1,o1,none⟩) sl sc)≠some x.block):=LH (fun hk x hx=>by
      have h1:=Qej hop x hx;refine ⟨?_,fun e=>?_⟩
      ·obtain ⟨b2,o2,q2,hq2,_⟩:=(Qaq.owned hop).at (i:=0) (by rw [List.length_map];exact hk);rw [hx] at q2;injection q2 with q2
       rw [q2];exact hq2
      ·have:=HQ1.out.own.lt _ e;omega)
     obtain ⟨kl,hkl⟩:∃kl,kl=P.length:=⟨_,rfl⟩
     rw [← hkl] at HNw hPn ⊢;have HKl:=LH hkl;clear hop hb2 hkl hP HPty;go_wp2_with fail
     go_loopw [8,16] (fun sv kv wr=>∃(k:Nat) (seen:List Nat) (bad:Bool),k≤kl∧kv=.int .i64 (k:Int)∧Hid (Q19 w wr q D sv seen)∧Hid (Trc (okN S L) (Qcn S) fr seen (seen.drop (i+1)) (P.drop k) bad)∧Hid (i<seen.length)∧Hid (Qaq wr ap (P.map vi))∧Hid (0<kl→∀x,ap=some x→x.block<wr.heap.size∧Qbc sv≠some x.block)) (fun _ kv _=>kl-(RowKit.intOf kv).toNat)
     case atStart=>exact ⟨0,seen,bad,by omega,rfl,HQ2,HTp,HI2,HCp,HNw⟩
     case round =>
      clear HQ2 HTp HI2 HCp HNw HQ1 HCs HSn hil hslB hlt2 hlt2';obtain ⟨k,seen,bad,hk,rfl,HQ,HTc,HI2,HCp,HNw⟩:=hrel;obtain ⟨sa,sc,hsv,hscl,_⟩:=HQ.out.own.cells;obtain ⟨sl,hsl⟩:∃sl,sl=seen.length:=⟨_,rfl⟩
      rw [← hsl] at hsv;have hslB:sl≤512*B:=by rw [hsl];have:=HTc.out.len;rw [HLn.out] at this;exact this
      have HSn:=LH hsl;subst hsv;clear hsl hscl
      by_cases hlt3:k<kl
      ·have hlt3':(k:Int)<(kl:Int):=by omega
       obtain ⟨x,hx⟩:∃x,P[k]?=some x:=⟨_,GE (by rw [← HKl.out];exact hlt3)⟩
       obtain ⟨b2,o2,q2,_,hcx⟩:=HCp.out.at (i:=k) (by rw [List.length_map,← HKl.out];exact hlt3);have cx:wr.cell? ⟨b2,o2+k,none⟩=some (.int .i64 (x:Int)):=hcx k (vi x) (by rw [List.getElem?_map,hx];rfl);have HXb:=LH (HPb2.out x (List.mem_of_getElem? hx));have hk2:k<P.length:=by rw [← HKl.out];exact hlt3
       have HTx:Hid (Trc (okN S L) (Qcn S) fr seen (seen.drop (i+1)) (x :: P.drop (k+1)) bad):=LH (by
        have h1:=HTc.out;rw [List.drop_eq_getElem_cons hk2,(List.getElem?_eq_some_iff.1 hx).2] at h1
        exact h1)
       subst q2;clear hcx hx hk2 HTc;obtain ⟨okk,hok⟩:∃okk,okk=(Qax S L (x:Int)).isSome:=⟨_,rfl⟩
       have HOk:=LH hok;have HPx:Hid (∀w',Below wr.heap.size wr w'→Calls Tryz.prog 101 #[.agg D,.slice a B cap,.int .i64 (x:Int)] w' fun e w''=>(∃p d:Int,e=.returned (.tuple #[vob p d,.bool okk]))∧Below w'.heap.size w' w''):=LH (fun w' hb=>by
        refine (HPl.out w' (HQ.out.later hb).below x HXb.out).mono ?_;rintro e w'' ⟨⟨p,d,he,_⟩,hb2⟩
        exact ⟨⟨p,d,by rw [hok];exact he⟩,hb2⟩)
       clear hok;go_upto_region 19 with fail
       go_cut [17,18] from 154 (fun ov kv wc=>∃g2:Nat,ov=.pointer (some ⟨g2,0,none⟩)∧kv=.bool okk∧Hid (Below wr.heap.size wr wc))
       case first =>
        have rx:=fun x=>Qab cx x
        have hld:∀w',(∃x:Qbi wr,w'=x.val)→∀(i:Nat) (v:Value),D.toList[i]?=some v→w'.cell? ⟨q,0+i,none⟩=some v:=by
         rintro w' ⟨x,rfl⟩ i v hi;exact Qab (HQ.out.cell i hi) x
        refine Qds (C:=fun w'=>∃x:Qbi (wr),w'=x.val) (.fl [0,1,2,3,4,5] (.br 6 false (.pu [7,8,9] (.sq [10] true (.sq [11,12] false (.nil)))) 10 true (.sq [6,7] false (.pu [8,9] (.sq [11,12] false (.nil)))))) (by kernel_rfl) (by kernel_rfl) (by intro c a d v w h;cases d <;> exact h) ?_;simp only [trO,Qa3,List.getElem?_cons_succ,List.getElem?_cons_zero]
        have hC1:=Qaj (wr);refine Qjm hC1 ?_
        repeat (first | (refine Qbf Qbk D hld hD8 rfl rfl rfl ?_) | go_big_quiet_step (fail) | quiet_step (fail))
        refine wpQuiet_nil ?_;clear rx hld;have HMd:=LH ((Mem.start wr).later (Qae hC1));generalize wr.drew=wd at *;refine Qk3 ?_ ?_
        ·refine Qb8 (fun K hK=>?_);go_wp2_with fail;refine (HPx.out _ HMd.out.below).mono ?_;rintro e w4 ⟨⟨p,d,rfl⟩,hb4⟩;have hC2:=Qan hC1 hb4;have HM4:=LH (HMd.out.later hb4);clear hb4;go_wp2_with fail;refine hK _ _ (fun h=>nomatch h) ?_;clear hK K;refine Qg9 ?_
         repeat (first|go_big_quiet_step (fail)|quiet_step (fail))
         refine wpQuiet_nil ?_;refine Qb8 (fun K hK=>?_);go_wp2_with fail;have hba:=Qaf w4 (.cells #[.int .i64 0,.int .i64 0] 109);have hC3:=Qan hC2 hba;have HM5:=LH (HM4.out.alloc #[.int .i64 0,.int .i64 0] 109);clear hba;go_wp2_with fail;refine hK _ _ (fun _=>hC3) ?_;clear hK K;generalize w4.alloc _=w5 at *;obtain ⟨g2,hg⟩:∃g2,g2=w4.heap.size:=⟨_,rfl⟩
         rw [← hg] at HM5 ⊢;clear hg hC1 hC2 hC3;refine Qcr ?_;go_wp2_with (refine Qaa Qen HM5.out 0 rfl rfl rfl rfl rfl rfl rfl rfl ?_;intro w6 h6 ht6;have H6:=LH h6;clear h6 ht6)
         go_meet
         exact ⟨g2,rfl,rfl,LH H6.out.below⟩
        ·refine Qb8 (fun K hK=>?_);go_wp2_with fail;have hba:=Qaf wd (.cells #[.int .i64 0,.int .i64 0] 109);have hC2:=Qan hC1 hba;have HM4:=LH (HMd.out.alloc #[.int .i64 0,.int .i64 0] 109);clear hba;go_wp2_with fail;refine hK _ _ (fun _=>hC2) ?_;clear hK K;generalize wd.alloc _=w4 at *;obtain ⟨g2,hg⟩:∃g2,g2=wd.heap.size:=⟨_,rfl⟩
         rw [← hg] at HM4 ⊢;clear hg;refine Qb8 (fun K hK=>?_);go_wp2_with fail;refine (HPx.out _ HM4.out.below).mono ?_;rintro e w5 ⟨⟨p,d,rfl⟩,hb5⟩;have HM5:=LH (HM4.out.later hb5);clear hb5;go_wp2_with fail;refine hK _ _ (fun h=>nomatch h) ?_;clear hK K;refine Qg9 ?_
         repeat (first|go_big_quiet_step (fail)|quiet_step (fail))
         refine wpQuiet_nil ?_;clear hC1 hC2;refine Qcr ?_;go_wp2_with (refine Qaa Qen HM5.out 0 rfl rfl rfl rfl rfl rfl rfl rfl ?_;intro w6 h6 ht6;have H6:=LH h6;clear h6 ht6)
         go_meet
         exact ⟨g2,rfl,rfl,LH H6.out.below⟩
       case rest =>
        obtain ⟨g2,rfl,rfl,HBc⟩:=hcut;have HQc:=LH (HQ.out.later HBc.out);have cx2:=Qaz HBc.out cx NR;have HCc:=LH (HCp.out.below HBc.out NR);have HNc:Hid (0<kl→∀x,(some ⟨b2,o2,none⟩:Option Addr)=some x→x.block<wc.heap.size∧Qbc (.slice sa sl sc)≠some x.block):=LH (fun h x hx=>⟨Nat.lt_of_lt_of_le (HNw.out h x hx).1 HBc.out.size,(HNw.out h x hx).2⟩);obtain ⟨sa',sc',hsv,hscl,_⟩:=HQc.out.own.cells;injection hsv with e1 e2 e3
        subst e1 e3;have HCs:=LH hscl;clear cx HQ HCp HNw HPx hscl e2;have hx3:x=0∨x≠0:=by omega
        cases okk with
        | false =>
         have hno:¬okN S L x:=by unfold okN;rw [← HOk.out];simp
         have HT2:Hid (∃bad',Trc (okN S L) (Qcn S) fr seen (seen.drop (i+1)) (P.drop (k+1)) bad'):=LH (by
          rcases hx3 with c | c
          ·exact ⟨bad,HTx.out.skip (Qhm S L) (.inl c)⟩
          ·exact ⟨true,HTx.out.fail c hno⟩)
         clear hno hx3;go_wp2_with fail;obtain ⟨bad',ht2⟩:=HT2.out;exact ⟨⟨k+1,seen,bad',by omega,Qb2 (by omega),HQc,LH ht2,HI2,HCc,HNc⟩,by simp [RowKit.intOf];omega⟩
        | true =>
         have hyes:okN S L x:=by unfold okN;rw [← HOk.out]
         have hx0:x≠0:=fun e=>by have:=Ql9 hyes;omega
         have hx0':((x:Int) == 0)=false:=by rw [beq_eq_false_iff_ne];omega
         have hx0'':((x:Int) != 0)=true:=by rw [bne_iff_ne];omega
         have HHas:=LH (Qq0 (w:=wc) sa sl sc seen HSn.out.symm HCs.out (by omega) x);have HYes:=LH hyes;clear hx3 hx0 hyes
         by_cases hs:x∈seen
         ·have hct:seen.contains x=true:=List.contains_iff_mem.2 hs;rw [hct] at HHas;have HT2:=LH (HTx.out.skip (Qhm S L) (.inr hs));clear hct hs;go_wp2_with fail;refine HHas.out.mono ?_;rintro e w2 ⟨rfl,rfl⟩;go_wp2_with fail;exact ⟨⟨k+1,seen,bad,by omega,Qb2 (by omega),HQc,HT2,HI2,HCc,HNc⟩,by simp [RowKit.intOf];omega⟩
         have hct:seen.contains x=false:=by
          cases hq:seen.contains x with
          | false=>rfl
          | true=>exact absurd (List.contains_iff_mem.1 hq) hs
         rw [hct] at HHas;have HT2:Hid (Trc (okN S L) (Qcn S) fr (seen ++ [x]) ((seen ++ [x]).drop (i+1)) (P.drop (k+1)) bad):=LH (by
          have h1:=HTx.out.take HYes.out hs;rw [List.drop_append_of_le_length (by have:=HI2.out;omega)]
          exact h1)
         clear hct hs;have HQ4:=LH (HQc.out.later (Qaf wc (.cells #[.int .i64 (x:Int)] 3)));have HC4:=LH (HCc.out.below (Qaf wc (.cells #[.int .i64 (x:Int)] 3)) NR);have HC2:Hid (Qaq (wc.alloc (.cells #[.int .i64 (x:Int)] 3)) (some ⟨wc.heap.size,0,none⟩) ([x].map vi)):=LH (Qa6.cells ⟨_,heap_alloc_new _ _,[],rfl⟩);have HN1:Hid (seen.length+1≤1000000000000):=LH (by have:=HSn.out;omega);go_wp2_with fail;refine HHas.out.mono ?_;rintro e w2 ⟨rfl,rfl⟩;go_wp2_with (refine Qbz (m:=1) HQ4.out.own HC2.out rfl HN1.out rfl rfl rfl rfl ?_;intro v' w4 ho4 hg4 hr4;have HO4:=LH ho4;have HG4:=LH hg4;have HR4:=LH hr4;clear ho4 hg4 hr4)
         have hnc:=HNc.out (by omega) _ rfl;have HC5:Hid (Qaq w4 (some ⟨b2,o2,none⟩) (P.map vi)):=LH (HC4.out.touchL (Qh0 HG4.out) (fun z hz _ hm=>by
          injection hz with hz
          rw [← hz] at hm
          exact hnc.2 (by simpa using hm)))
         have HN5:Hid (0<kl→∀z,(some ⟨b2,o2,none⟩:Option Addr)=some z→z.block<w4.heap.size∧Qbc v'≠some z.block):=LH (fun _ z hz=>by
          injection hz with hz
          subst hz;have h1:wc.heap.size≤(wc.alloc (.cells #[.int .i64 (x:Int)] 3)).heap.size:=(Qaf wc _).size;refine ⟨Nat.lt_of_lt_of_le hnc.1 (Nat.le_trans h1 HG4.out.size),fun e=>?_⟩;rcases HR4.out _ e with c | c
          ·exact hnc.2 c
          ·have:=hnc.1;dsimp only at c this
           omega)
         exact ⟨⟨k+1,seen ++ [x],bad,by omega,Qb2 (by omega),LH (HQ4.out.grow HG4.out HO4.out HR4.out),HT2,LH (by have:=HI2.out;simp;omega),HC5,HN5⟩,by simp [RowKit.intOf];omega⟩
      ·have hltd3:decide ((k:Int)<(kl:Int))=false:=by simp;omega
       have hke:k=kl:=by omega
       have HTe:Hid (Trc (okN S L) (Qcn S) fr seen (seen.drop (i+1)) [] bad):=LH (by have:=HTc.out;rw [hke,HKl.out,List.drop_length] at this;exact this);have hiB:i<512*B:=by have:=HI2.out;rw [← HSn.out] at this;omega
       clear hke HTc;go_wp2_with fail;exact ⟨⟨i+1,seen,bad,Qb2 (by omega),LH (by have:=HI2.out;omega),HQ,HTe⟩,by simp [RowKit.intOf];omega⟩
    ·have hltd2:decide ((i:Int)<(sl:Int))=false:=by simp;omega
     have hie:i=sl:=by omega
     have HTe:Hid (Trc (okN S L) (Qcn S) fr seen [] [] bad):=LH (by have:=HTc.out;rw [hie,HSn.out,List.drop_length] at this;exact this);clear hie HTc;go_wp2_with fail;refine (Qul sa sl sc seen HSn.out.symm HCs.out (by omega)).mono ?_;rintro e w5 ⟨yv,ys,rfl,hoy,hso,hpm,hb5,hrw⟩;have HQ5:Hid (Q19 w w5 q D yv ys):=LH (by
      have h1:=HQ.out.later hb5
      exact ⟨h1.below,h1.dev,hoy,fun b hb=>Nat.lt_of_lt_of_le (Qbu HQ.out.dev) (hrw b hb),h1.q0⟩)
     have HYs:Hid (ys.Pairwise (· < ·)):=LH (Qi2 hso (hpm.nodup_iff.2 HTe.out.nd));have HYm:Hid (∀x,x∈ys↔Rch (okN S L) (Qcn S) fr x):=LH (fun x=>by rw [hpm.mem_iff];exact HTe.out.done x);obtain ⟨ya,yc,hyv,hycl,_⟩:=hoy.cells;obtain ⟨yl,hyl⟩:∃yl,yl=ys.length:=⟨_,rfl⟩
     rw [← hyl] at hyv;have HYl:=LH hyl;have hylB:yl≤512*B:=by rw [hyl,hpm.length_eq,← HSn.out];exact hslB
     have HYc:=LH hycl;have HYr:=LH hrw;subst hyv;clear hoy hso hpm hb5 hrw hyl hycl;have HOe0:Hid (w5.ownsRow w5.heap.size 193 2 (.slice none 0 0) 0 []):=LH ⟨rfl,.inl ⟨rfl,rfl⟩⟩;clear HQ HCs HSn HTe
     go_upto_if 106 with fail
     go_cut [19] from 154 (fun bv wc=>∃(ba:Option Addr) (nb bc:Nat),bv=.slice ba nb bc∧Hid (∃xs,wc.ownsRow w5.heap.size 193 2 (.slice ba nb bc) nb xs)∧Hid (Below w5.heap.size w5 wc)∧Hid (nb≤1∧(nb=0↔rl=false)))
     case first =>
      cases rl with
      | false =>
       go_wp2_with fail
       go_meet
       exact ⟨none,0,0,rfl,LH ⟨[],HOe0.out⟩,LH (Below.refl _ _),LH ⟨by omega,by simp⟩⟩
      | true =>
       have hba:=Qaf w5 (.cells #[.int .i64 (-1),.int .i64 0] 193);have HB6:=LH hba;have HO6:=LH (Qcc HOe0.out hba NR);have HC6:Hid (Qaq (w5.alloc (.cells #[.int .i64 (-1),.int .i64 0] 193)) (some ⟨w5.heap.size,0,none⟩) [.int .i64 (-1),.int .i64 0]):=LH (Qa6.cells ⟨_,heap_alloc_new _ _,[],rfl⟩);have HBs:Hid (w5.heap.size≤(w5.alloc (.cells #[.int .i64 (-1),.int .i64 0] 193)).heap.size):=LH hba.size;clear hba;go_wp2_with (refine Qbb Je5 HO6.out HC6.out (rfl:([.int .i64 (-1),.int .i64 0]:List Value).length=1*2) (by simp [Value.oneCell']) (by decide) (by decide) HBs.out rfl rfl rfl rfl ?_;intro v6 w6 h1 h2 h3;have HO7:=LH h1;have HG7:=LH h2;obtain ⟨a6,c6,e6,_⟩:=Qbe h1;subst e6;clear h1 h2 h3)
       go_meet
       exact ⟨a6,0+1,c6,rfl,LH ⟨_,HO7.out⟩,LH (Qav HB6.out HO6.out HG7.out NR NR),LH ⟨by omega,by simp⟩⟩
     case rest =>
      obtain ⟨ba,nb,bc,rfl,HOe,HBc,HNb⟩:=hcut;clear HOe0;have HIff:Hid (nb=0↔rl=false∧∀y∈ys.take 0,∀x∈Qcn S y,x=0∨x∈ys):=LH (by rw [HNb.out.2];simp);have HNl:Hid (nb≤1+64*0):=LH (by have:=HNb.out.1;omega);clear HNb;go_wp2_with fail
      go_loopw [19,20] (fun bv iv wr=>∃(i:Nat) (ba:Option Addr) (nb bc:Nat),i≤yl∧bv=.slice ba nb bc∧iv=.int .i64 (i:Int)∧Hid (∃xs,wr.ownsRow w5.heap.size 193 2 (.slice ba nb bc) nb xs)∧Hid (Below w5.heap.size w5 wr)∧Hid (nb≤1+64*i)∧Hid (nb=0↔rl=false∧∀y∈ys.take i,∀x∈Qcn S y,x=0∨x∈ys)) (fun _ iv _=>yl-(RowKit.intOf iv).toNat)
      case atStart=>exact ⟨0,ba,nb,bc,by omega,rfl,rfl,HOe,HBc,HNl,HIff⟩
      case round =>
       clear HOe HBc HNl HIff;obtain ⟨i,ba,nb,bc,hi,rfl,rfl,HOe,HBr,HNl,HIff⟩:=hrel;have HQr:=LH (HQ5.out.later HBr.out);have HYr2:=LH (HYc.out.below HBr.out NR)
       by_cases hlt2:i<yl
       ·have hlt2':(i:Int)<(yl:Int):=by omega
        obtain ⟨y,hy⟩:∃y,ys[i]?=some y:=⟨_,GE (by rw [← HYl.out];exact hlt2)⟩
        obtain ⟨b1,o1,q1,_,hcx⟩:=HYr2.out.at (i:=i) (by rw [List.length_map,← HYl.out];exact hlt2);have cy:wr.cell? ⟨b1,o1+i,none⟩=some (.int .i64 (y:Int)):=hcx i (vi y) (by rw [List.getElem?_map,hy];rfl);have ry:=fun x=>Qab cy x
        have HTk:Hid (ys.take (i+1)=ys.take i ++ [y]):=LH (by
         have h1:=(List.getElem?_eq_some_iff.1 hy).1
         rw [List.take_succ_eq_append_getElem h1,(List.getElem?_eq_some_iff.1 hy).2])
        subst q1;clear hcx hy;have hld:∀w',(∃x:Qbi wr,w'=x.val)→∀(i:Nat) (v:Value),D.toList[i]?=some v→w'.cell? ⟨q,0+i,none⟩=some v:=by
         rintro w' ⟨x,rfl⟩ i v hi;exact Qab (HQr.out.cell i hi) x
        go_upto_region 29 with fail;refine Qai (C:=fun w'=>∃x:Qbi (wr),w'=x.val) [.fl [0,1,2,3,4],.sq [5,6] false] (by kernel_rfl) (by kernel_rfl) (by intro c a d v w h;cases d <;> exact h) ?_;simp only [Qdj,Qa3,List.getElem?_cons_succ,List.getElem?_cons_zero]
        have hC1:=Qaj (wr);refine Qak hC1 ?_
        repeat (first | (refine Qbf Qbk D hld hD8 rfl rfl rfl ?_) | go_big_quiet_step (fail) | quiet_step (fail))
        refine wpQuiet_nil ?_;clear hld ry;have hbd:=Qae hC1;have HQ1:=LH (HQr.out.later hbd);have HBd:Hid (Below w5.heap.size w5 wr.drew):=LH (HBr.out.trans (hbd.mono HBr.out.size));have HOd:Hid (∃xs,wr.drew.ownsRow w5.heap.size 193 2 (.slice ba nb bc) nb xs):=LH (by
         obtain ⟨xs,h1⟩:=HOe.out
         exact ⟨xs,Qcc h1 hbd NR⟩)
        have cy1:=Qaz hbd cy NR;generalize wr.drew=wd at *;clear hC1 hbd cy HQr HYr2 HOe HBr;have HPty:=LH (HPt.out wd HQ1.out.below y);refine Qal ?_;go_wp2_with fail;refine HPty.out.mono ?_;rintro e w2 ⟨ap,cp,rfl,hop,hb2⟩;have HB2:Hid (Below w5.heap.size w5 w2):=LH (HBd.out.trans (hb2.mono HBd.out.size));have HO2:Hid (∃xs,w2.ownsRow w5.heap.size 193 2 (.slice ba nb bc) nb xs):=LH (by
         obtain ⟨xs,h1⟩:=HOd.out
         exact ⟨xs,Qcc h1 hb2 NR⟩)
        have hPn:=HPn.out y;have HPb2:=LH (HPb.out y);obtain ⟨P,hP⟩:∃P,P=Qcn S y:=⟨_,rfl⟩
        have HPe:=LH hP;rw [← hP] at hop hPn HPb2 ⊢;have HIf2:Hid (nb=0↔rl=false∧(∀y∈ys.take i,∀x∈Qcn S y,x=0∨x∈ys)∧∀x∈P.take 0,x=0∨x∈ys):=LH (by rw [HIff.out];simp);have HOp:=LH hop;obtain ⟨kl,hkl⟩:∃kl,kl=P.length:=⟨_,rfl⟩
        rw [← hkl] at HOp hPn ⊢;have HKl:=LH hkl;clear hop hb2 hkl hP HPty HQ1 HBd HOd cy1;go_wp2_with fail
        go_loopw [19,22] (fun bv kv wr=>∃(k:Nat) (ba:Option Addr) (nb bc:Nat),k≤kl∧bv=.slice ba nb bc∧kv=.int .i64 (k:Int)∧Hid (∃xs,wr.ownsRow w5.heap.size 193 2 (.slice ba nb bc) nb xs)∧Hid (Below w5.heap.size w5 wr)∧Hid (nb≤1+64*i+k)∧Hid (nb=0↔rl=false∧(∀y∈ys.take i,∀x∈Qcn S y,x=0∨x∈ys)∧∀x∈P.take k,x=0∨x∈ys)∧Hid (wr.ownsRow wd.heap.size 3 1 (.slice ap kl cp) kl (P.map vi))) (fun _ kv _=>kl-(RowKit.intOf kv).toNat)
        case atStart=>exact ⟨0,ba,nb,bc,by omega,rfl,rfl,HO2,HB2,HNl,HIf2,HOp⟩
        case round =>
         clear HO2 HB2 HNl HIf2 HOp HIff;obtain ⟨k,ba,nb,bc,hk,rfl,rfl,HOe,HBr,HNl,HIff,HOp⟩:=hrel
         by_cases hlt3:k<kl
         ·have hlt3':(k:Int)<(kl:Int):=by omega
          obtain ⟨x,hx⟩:∃x,P[k]?=some x:=⟨_,GE (by rw [← HKl.out];exact hlt3)⟩
          obtain ⟨b2,o2,q2,_,hcx⟩:=(Qaq.owned HOp.out).at (i:=k) (by rw [List.length_map,← HKl.out];exact hlt3);have cx:wr.cell? ⟨b2,o2+k,none⟩=some (.int .i64 (x:Int)):=hcx k (vi x) (by rw [List.getElem?_map,hx];rfl);have HXb:=LH (HPb2.out x (List.mem_of_getElem? hx));have HTp:Hid (P.take (k+1)=P.take k ++ [x]):=LH (by
           have h1:=(List.getElem?_eq_some_iff.1 hx).1
           rw [List.take_succ_eq_append_getElem h1,(List.getElem?_eq_some_iff.1 hx).2])
          have HGood:Hid ((x=0∨x∈ys)→(nb=0↔rl=false∧(∀y∈ys.take i,∀x∈Qcn S y,x=0∨x∈ys)∧∀x∈P.take (k+1),x=0∨x∈ys)):=LH (fun h=>by
           rw [HIff.out,HTp.out];constructor
           ·rintro ⟨h1,h2,h3⟩;refine ⟨h1,h2,fun z hz=>?_⟩;rcases List.mem_append.1 hz with hz | hz
            ·exact h3 z hz
            ·simp at hz;subst hz;exact h
           ·rintro ⟨h1,h2,h3⟩
            exact ⟨h1,h2,fun z hz=>h3 z (List.mem_append_left _ hz)⟩)
          subst q2;clear hcx hx
          by_cases hx0:x=0
          ·have HG2:=LH (HGood.out (.inl hx0));subst hx0;rw [show ((0:Nat):Int)=0 from rfl] at cx;go_wp2_with fail;exact ⟨⟨k+1,ba,nb,bc,by omega,rfl,Qb2 (by omega),HOe,HBr,LH (by have:=HNl.out;omega),HG2,HOp⟩,by simp [RowKit.intOf];omega⟩
          have hx0':((x:Int) == 0)=false:=by rw [beq_eq_false_iff_ne];omega
          have hx0'':((x:Int) != 0)=true:=by rw [bne_iff_ne];omega
          have HYw:=LH (HYc.out.below HBr.out NR);have HHas:=LH (Qq0 (w:=wr) (some ⟨b1,o1,none⟩) yl yc ys HYl.out.symm HYw.out (by omega) x);have HX0:=LH hx0;clear hx0
          by_cases hs:x∈ys
          ·have hct:ys.contains x=true:=List.contains_iff_mem.2 hs;rw [hct] at HHas;have HG2:=LH (HGood.out (.inr hs));clear hct hs;go_wp2_with fail;refine HHas.out.mono ?_;rintro e w3 ⟨rfl,rfl⟩;go_wp2_with fail;exact ⟨⟨k+1,ba,nb,bc,by omega,rfl,Qb2 (by omega),HOe,HBr,LH (by have:=HNl.out;omega),HG2,HOp⟩,by simp [RowKit.intOf];omega⟩
          have hct:ys.contains x=false:=by
           cases hq:ys.contains x with
           | false=>rfl
           | true=>exact absurd (List.contains_iff_mem.1 hq) hs
          rw [hct] at HHas;have HG2:Hid (nb+1=0↔rl=false∧(∀y∈ys.take i,∀x∈Qcn S y,x=0∨x∈ys)∧∀x∈P.take (k+1),x=0∨x∈ys):=LH (by
           constructor
           ·intro h;omega
           ·rintro ⟨_,_,h3⟩;rcases h3 x (by rw [HTp.out];simp) with c | c
            ·exact absurd c HX0.out
            ·exact absurd c hs)
          clear hct hs;obtain ⟨y2,hy2⟩:∃y,ys[i]?=some y:=⟨_,GE (by rw [← HYl.out];exact hlt2)⟩
          obtain ⟨b3,o3,q3,_,hcy⟩:=HYw.out.at (i:=i) (by rw [List.length_map,← HYl.out];exact hlt2);have cy:wr.cell? ⟨b3,o3+i,none⟩=some (.int .i64 (y2:Int)):=hcy i (vi y2) (by rw [List.getElem?_map,hy2];rfl);injection q3 with q3
          injection q3 with q3 q4
          subst q3 q4;obtain ⟨xs,hox⟩:=HOe.out;have hba:=Qaf wr (.cells #[.int .i64 (y2:Int),.int .i64 (k:Int)] 193);have HB6:Hid (Below w5.heap.size w5 (wr.alloc (.cells #[.int .i64 (y2:Int),.int .i64 (k:Int)] 193))):=LH (HBr.out.trans (hba.mono HBr.out.size));have HO6:=LH (Qcc hox hba NR);have HOp6:=LH (Qcc HOp.out hba NR);have HC6:Hid (Qaq (wr.alloc (.cells #[.int .i64 (y2:Int),.int .i64 (k:Int)] 193)) (some ⟨wr.heap.size,0,none⟩) [.int .i64 (y2:Int),.int .i64 (k:Int)]):=LH (Qa6.cells ⟨_,heap_alloc_new _ _,[],rfl⟩);have HBs:Hid (w5.heap.size≤(wr.alloc (.cells #[.int .i64 (y2:Int),.int .i64 (k:Int)] 193)).heap.size):=LH (Nat.le_trans HBr.out.size hba.size);have HNn:Hid (nb+1<1000000000000):=LH (by have:=HNl.out;omega);clear hba hcy hy2 hox;go_wp2_with fail;refine HHas.out.mono ?_;rintro e w3 ⟨rfl,rfl⟩;go_wp2_with (refine Qbb Je5 HO6.out HC6.out (rfl:([.int .i64 (y2:Int),.int .i64 (k:Int)]:List Value).length=1*2) (by simp [Value.oneCell']) HNn.out (by decide) HBs.out rfl rfl rfl rfl ?_;intro v6 w6 h1 h2 h3;have HO7:=LH h1;have HG7:=LH h2;obtain ⟨a6,c6,e6,_⟩:=Qbe h1;subst e6;clear h1 h2 h3)
          exact ⟨⟨k+1,a6,nb+1,c6,by omega,rfl,Qb2 (by omega),LH ⟨_,HO7.out⟩,LH (Qav HB6.out HO6.out HG7.out NR NR),LH (by have:=HNl.out;omega),HG2,LH (Qq1 HOp6.out HO6.out HG7.out (by decide))⟩,by simp [RowKit.intOf];omega⟩
         ·have hltd3:decide ((k:Int)<(kl:Int))=false:=by simp;omega
          have hke:k=kl:=by omega
          have HIf3:Hid (nb=0↔rl=false∧∀y∈ys.take (i+1),∀x∈Qcn S y,x=0∨x∈ys):=LH (by
           rw [HIff.out,HTk.out,hke,HKl.out,List.take_length,HPe.out];constructor
           ·rintro ⟨h1,h2,h3⟩;refine ⟨h1,fun z hz=>?_⟩;rcases List.mem_append.1 hz with hz | hz
            ·exact h2 z hz
            ·simp at hz;subst hz;exact h3
           ·rintro ⟨h1,h2⟩
            exact ⟨h1,fun z hz=>h2 z (List.mem_append_left _ hz),h2 y (by simp)⟩)
          have HNl2:Hid (nb≤1+64*(i+1)):=LH (by have:=HNl.out;omega);clear hke;go_wp2_with fail;exact ⟨⟨i+1,ba,nb,bc,by omega,rfl,Qb2 (by omega),HOe,HBr,HNl2,HIf3⟩,by simp [RowKit.intOf];omega⟩
       ·have hltd2:decide ((i:Int)<(yl:Int))=false:=by simp;omega
        have hie:i=yl:=by omega
        have HFin:Hid (nb=0↔Qmi (okN S L) (Qcn S) fr):=LH (by
         rw [Jgf HYm.out,HIff.out,hie,HYl.out,List.take_length];have:rl=false↔¬ ∃x∈fr,x≠0∧¬okN S L x:=by
          rw [← HR2.out];simp
         rw [this])
        have HRw:Hid (∀b,Qbc (.slice ya yl yc)=some b→w.heap.size≤b):=LH (fun b hb=>Nat.le_trans HQr.out.q0 (Nat.le_of_lt (HQr.out.row b hb)));clear hie;go_wp2_with fail;exact HP.out _ _ _ _ _ _ HQr.out.below HQr.out.own HYs.out HYm.out HRw.out HFin.out
end
section
def Jic (D:Array Value) (n:Nat) (rs:List Int) (i:Int):Value:=.agg (D.toList ++ Qad n :: (rs.map (Value.int .i64) ++ .int .i64 i :: rs.map (Value.int .i64))).toArray
def rtZ:Array Value:=#[.slice none 0 0,.slice none 0 0,.slice none 0 0,.slice none 0 0,.slice none 0 0,.int .i64 0,.int .i64 0,.bool false,.int .u64 0,.int .i64 0,.int .i64 0,.int .i64 0,.int .i64 0,.int .i64 0,.int .i64 0,.int .i64 0,.int .i64 0,.int .i64 0,.int .i64 0,.int .i64 0,.int .i64 0,.int .i64 0,.int .i64 0,.int .i64 0,.int .i64 0,.int .i64 0]
theorem Qzm:Agg Tryz.prog 57 rtZ:=⟨⟨_,Tryz.underlying57,rfl⟩,by kernel_rfl⟩
def Qnb (v : Value) (r : Nat × List Int × Int × Bool) (w : World) : Ending → World → Prop := fun e w' => Below w.heap.size w w' ∧
  ((r.2.2.2 = true ∧ ∃ D, v = .agg D ∧ e = .returned (.tuple #[Jic D r.1 r.2.1 r.2.2.1, .int .i64 0])) ∨
   (r.2.2.2 = false ∧ e = .returned (.tuple #[.agg rtZ, .int .i64 23])))
theorem Quk {w:World} {v:Value} {S:Dev} {m:Nat} (h:RAt w v m S.ref) (hm:m≤100000) (hu:∀z∈S.cache,z<18446744073709551616) :
  Calls Tryz.prog 51 #[v] w (Qnb v (Qa5 S) w):=by
 have HR1:=LH (fun w' (hb:Below w.heap.size w w')=>Qnm (h.below hb NR) hm 64 (by omega));have HR2:=LH (fun w' (hb:Below w.heap.size w w')=>Qnm (h.below hb NR) hm 128 (by omega));have hC:=Qq9 (Qas S 64 16) (Qas S 128 16) (Qbl _ _ _) (Qbl _ _ _) (Qcw hu 64 16) (Qcw hu 128 16);have hok:=Qfs hu;obtain ⟨⟨n,rs,i,b⟩,hX⟩:∃X,X=Qa5 S:=⟨_,rfl⟩
 rw [show Qff (Qdv (Qas S 64 16)) (Qdv (Qas S 128 16))=(n,rs,i,b) from hX.symm] at hC;rw [← hX] at hok ⊢;obtain ⟨hn,hl,hi1,hi0⟩:=hok;simp only [] at hn hl hi1 hi0
 rw [show ((64:Nat):Int)=64 from rfl] at HR1;rw [show ((128:Nat):Int)=128 from rfl] at HR2;obtain ⟨xs,hxs⟩:∃xs,xs=Qas S 64 16:=⟨_,rfl⟩
 obtain ⟨ys,hys⟩:∃ys,ys=Qas S 128 16:=⟨_,rfl⟩
 rw [← hxs] at HR1 hC;rw [← hys] at HR2 hC;obtain ⟨xa,hxa⟩:∃x,x=Qgb xs:=⟨_,rfl⟩
 obtain ⟨ya,hya⟩:∃x,x=Qgb ys:=⟨_,rfl⟩
 rw [← hxa] at HR1 hC;rw [← hya] at HR2 hC;obtain ⟨j,hj⟩:∃j,j=if b=true then i else -1:=⟨_,rfl⟩
 unfold Jib at hC;dsimp only at hC;rw [← hj] at hC;have HJ:=LH hj;clear hj;have HC:=LH (fun w' (_:Below w.heap.size w w')=>hC w');obtain ⟨an,cn,al,cl,aw,cw,ad,cd,ap,cp,rfl,_⟩:=h.ex;obtain ⟨s6,hs6⟩:∃n,n=S.ref.steps:=⟨_,rfl⟩
 obtain ⟨s7,hs7⟩:∃n,n=S.ref.fuse:=⟨_,rfl⟩
 obtain ⟨s8,hs8⟩:∃n,n=S.ref.dead:=⟨_,rfl⟩
 rw [← hs6,← hs7,← hs8] at HR1 HR2 ⊢;have HY:Hid (∀w',b=true→Below w.heap.size w w'→Qnb (.agg #[.slice an m cn,.slice al m cl,.slice aw m cw,.slice ad m cd,.slice ap m cp,.int .i64 s6,.int .i64 s7,.bool s8]) (n,rs,i,b) w (.returned (.tuple #[Jic #[.slice an m cn,.slice al m cl,.slice aw m cw,.slice ad m cd,.slice ap m cp,.int .i64 s6,.int .i64 s7,.bool s8] n rs i,.int .i64 0])) w'):=LH (fun w' h1 h2=>⟨h2,.inl ⟨h1,_,rfl,rfl⟩⟩);have HN:Hid (∀w',b=false→Below w.heap.size w w'→Qnb (.agg #[.slice an m cn,.slice al m cl,.slice aw m cw,.slice ad m cd,.slice ap m cp,.int .i64 s6,.int .i64 s7,.bool s8]) (n,rs,i,b) w (.returned (.tuple #[.agg rtZ,.int .i64 23])) w'):=LH (fun w' h1 h2=>⟨h2,.inr ⟨h1,rfl⟩⟩);generalize Qnb _ (n,rs,i,b) w=Post at *;clear hX hC hxs hys hxa hya h hs6 hs7 hs8;obtain ⟨r0,r1,r2,r3,r4,r5,r6,r7,rfl⟩:=Qcb hl;clear hl;rw [show Qbg n [r0,r1,r2,r3,r4,r5,r6,r7]=.agg #[Qad n,.int .i64 r0,.int .i64 r1,.int .i64 r2,.int .i64 r3,.int .i64 r4,.int .i64 r5,.int .i64 r6,.int .i64 r7] from rfl] at HC;rw [show Jic #[.slice an m cn,.slice al m cl,.slice aw m cw,.slice ad m cd,.slice ap m cp,.int .i64 s6,.int .i64 s7,.bool s8] n [r0,r1,r2,r3,r4,r5,r6,r7] i=.agg #[.slice an m cn,.slice al m cl,.slice aw m cw,.slice ad m cd,.slice ap m cp,.int .i64 s6,.int .i64 s7,.bool s8,Qad n,.int .i64 r0,.int .i64 r1,.int .i64 r2,.int .i64 r3,.int .i64 r4,.int .i64 r5,.int .i64 r6,.int .i64 r7,.int .i64 i,.int .i64 r0,.int .i64 r1,.int .i64 r2,.int .i64 r3,.int .i64 r4,.int .i64 r5,.int .i64 r6,.int .i64 r7] from rfl] at HY
 have HM:=LH (Mem.two w #[.slice an m cn,.slice al m cl,.slice aw m cw,.slice ad m cd,.slice ap m cp,.int .i64 s6,.int .i64 s7,.bool s8] 38 rtZ 57);go_enter Tryz.func51,Tryz.ntmps51;go_upto_region 1 with fail;rw [show (#[.slice none 0 0,.slice none 0 0,.slice none 0 0,.slice none 0 0,.slice none 0 0,.int .i64 0,.int .i64 0,.bool false,.int .u64 0,.int .i64 0,.int .i64 0,.int .i64 0,.int .i64 0,.int .i64 0,.int .i64 0,.int .i64 0,.int .i64 0,.int .i64 0,.int .i64 0,.int .i64 0,.int .i64 0,.int .i64 0,.int .i64 0,.int .i64 0,.int .i64 0,.int .i64 0]:Array Value)=rtZ from rfl];obtain ⟨q1,hq1⟩:∃q,q=w.heap.size:=⟨_,rfl⟩
 obtain ⟨q2,hq2⟩:∃q,q=w.heap.size+1:=⟨_,rfl⟩
 rw [← hq2,← hq1] at HM ⊢;generalize (w.alloc _).alloc _=w1 at *;clear hq1 hq2;have HM1:Hid (Mem w w1 [⟨q1,38,[.slice an m cn,.slice al m cl,.slice aw m cw,.slice ad m cd,.slice ap m cp,.int .i64 s6,.int .i64 s7,.bool s8],true⟩,⟨q2,57,rtZ.toList,true⟩]):=LH HM.out;clear HM
 go_cut [4,5] from 6 (fun pv jv wc=>∃g:Nat,pv=.pointer (some ⟨g,0,none⟩)∧jv=.int .i64 j∧Hid (Mem w wc [⟨q1,38,[.slice an m cn,.slice al m cl,.slice aw m cw,.slice ad m cd,.slice ap m cp,.int .i64 s6,.int .i64 s7,.bool s8],true⟩,⟨q2,57,rtZ.toList,true⟩,⟨g,55,[Qad n,.int .i64 r0,.int .i64 r1,.int .i64 r2,.int .i64 r3,.int .i64 r4,.int .i64 r5,.int .i64 r6,.int .i64 r7],true⟩]))
 case first =>
  have hld:∀w',(∃x:Qbi w1,w'=x.val)→∀(i:Nat) (v:Value),(#[.slice an m cn,.slice al m cl,.slice aw m cw,.slice ad m cd,.slice ap m cp,.int .i64 s6,.int .i64 s7,.bool s8]:Array Value).toList[i]?=some v→w'.cell? ⟨q1,0+i,none⟩=some v:=by
   rintro w' ⟨x,rfl⟩ i v hi;rw [Nat.zero_add];exact Qab (HM1.out.cell 0 i rfl hi) x
  refine Qds (C:=fun w'=>∃x:Qbi (w1),w'=x.val) (.fl [0,2] (.br 1 true (.br 3 false (.br 4 false (.pu [5,6,7] (.sq [8] true (.sq [9,10] false (.nil)))) 8 true (.sq [4,5] false (.pu [6,7] (.sq [9,10] false (.nil))))) 8 true (.sq [3,4,5] false (.pu [6,7] (.sq [9,10] false (.nil))))) 8 true (.sq [1] true (.sq [3,4,5] false (.pu [6,7] (.sq [9,10] false (.nil))))))) (by kernel_rfl) (by kernel_rfl) (by intro c a d v w h;cases d <;> exact h) ?_;simp only [trO,Qa3,List.getElem?_cons_succ,List.getElem?_cons_zero]
  have hC1:=Qaj (w1);refine Qjm hC1 ?_
  repeat (first | (refine Qbf Qbk #[.slice an m cn,.slice al m cl,.slice aw m cw,.slice ad m cd,.slice ap m cp,.int .i64 s6,.int .i64 s7,.bool s8] hld rfl rfl rfl rfl ?_) | go_big_quiet_step (fail) | quiet_step (fail))
  refine wpQuiet_nil ?_;clear hld;have HB0:Hid (Below w.heap.size w w1):=LH HM1.out.below;have HMd:=LH (HM1.out.later (Qae hC1));have HBd:=LH (HMd.out.below);generalize w1.drew=wd at *;refine Qk3 ?_ ?_
  ·refine Qb8 (fun K hK=>?_);go_wp2_with fail;refine (HR1.out _ HMd.out.below).mono ?_;rintro e we1 ⟨rfl,hb⟩;have hCe1:=Qan hC1 hb;have HMe1:=LH (HMd.out.later hb);clear hb;go_wp2_with fail;refine hK _ _ (fun _=>hCe1) ?_;clear hK K;refine Qk3 ?_ ?_
   ·refine Qb8 (fun K hK=>?_);go_wp2_with fail;refine (HR2.out _ HMe1.out.below).mono ?_;rintro e we3 ⟨rfl,hb⟩;have hCe3:=Qan hCe1 hb;have HMe3:=LH (HMe1.out.later hb);clear hb;go_wp2_with fail;refine hK _ _ (fun h=>nomatch h) ?_;clear hK K;refine Qk3 ?_ ?_
    ·refine Qb8 (fun K hK=>?_);go_wp2_with fail;refine (HC.out _ HMe3.out.below).mono ?_;rintro e we4 ⟨rfl,hb⟩;have hCe4:=Qan hCe3 hb;have HMe4:=LH (HMe3.out.later hb);clear hb;go_wp2_with fail;refine hK _ _ (fun h=>nomatch h) ?_;clear hK K;refine Qg9 ?_
     repeat (first|go_big_quiet_step (fail)|quiet_step (fail))
     refine wpQuiet_nil ?_;refine Qb8 (fun K hK=>?_);go_wp2_with fail;have hba:=Qaf we4 (.cells #[.int .u64 0,.int .i64 0,.int .i64 0,.int .i64 0,.int .i64 0,.int .i64 0,.int .i64 0,.int .i64 0,.int .i64 0] 55);have hCe48:=Qan hCe4 hba;have HMe48:=LH (HMe4.out.alloc #[.int .u64 0,.int .i64 0,.int .i64 0,.int .i64 0,.int .i64 0,.int .i64 0,.int .i64 0,.int .i64 0,.int .i64 0] 55);clear hba;go_wp2_with fail;refine hK _ _ (fun _=>hCe48) ?_;clear hK K;obtain ⟨g,hg⟩:∃g,g=we4.heap.size:=⟨_,rfl⟩
     rw [← hg] at HMe48 ⊢;generalize we4.alloc _=we48 at *;clear hg;refine Qcr ?_;go_wp2_with (refine Qaa Qek HMe48.out 2 rfl rfl rfl rfl rfl rfl rfl rfl ?_;intro w6 h6 ht6;have H6:=LH h6;clear h6 ht6)
     go_meet
     exact ⟨g,rfl,rfl,H6⟩
    ·refine Qb8 (fun K hK=>?_);go_wp2_with fail;have hba:=Qaf we3 (.cells #[.int .u64 0,.int .i64 0,.int .i64 0,.int .i64 0,.int .i64 0,.int .i64 0,.int .i64 0,.int .i64 0,.int .i64 0] 55);have hCe38:=Qan hCe3 hba;have HMe38:=LH (HMe3.out.alloc #[.int .u64 0,.int .i64 0,.int .i64 0,.int .i64 0,.int .i64 0,.int .i64 0,.int .i64 0,.int .i64 0,.int .i64 0] 55);clear hba;go_wp2_with fail;refine hK _ _ (fun _=>hCe38) ?_;clear hK K;obtain ⟨g,hg⟩:∃g,g=we3.heap.size:=⟨_,rfl⟩
     rw [← hg] at HMe38 ⊢;generalize we3.alloc _=we38 at *;clear hg;refine Qb8 (fun K hK=>?_);go_wp2_with fail;refine (HC.out _ HMe38.out.below).mono ?_;rintro e we384 ⟨rfl,hb⟩;have hCe384:=Qan hCe38 hb;have HMe384:=LH (HMe38.out.later hb);clear hb;go_wp2_with fail;refine hK _ _ (fun h=>nomatch h) ?_;clear hK K;refine Qg9 ?_
     repeat (first|go_big_quiet_step (fail)|quiet_step (fail))
     refine wpQuiet_nil ?_;refine Qcr ?_;go_wp2_with (refine Qaa Qek HMe384.out 2 rfl rfl rfl rfl rfl rfl rfl rfl ?_;intro w6 h6 ht6;have H6:=LH h6;clear h6 ht6)
     go_meet
     exact ⟨g,rfl,rfl,H6⟩
   ·refine Qb8 (fun K hK=>?_);go_wp2_with fail;have hba:=Qaf we1 (.cells #[.int .u64 0,.int .i64 0,.int .i64 0,.int .i64 0,.int .i64 0,.int .i64 0,.int .i64 0,.int .i64 0,.int .i64 0] 55);have hCe18:=Qan hCe1 hba;have HMe18:=LH (HMe1.out.alloc #[.int .u64 0,.int .i64 0,.int .i64 0,.int .i64 0,.int .i64 0,.int .i64 0,.int .i64 0,.int .i64 0,.int .i64 0] 55);clear hba;go_wp2_with fail;refine hK _ _ (fun _=>hCe18) ?_;clear hK K;obtain ⟨g,hg⟩:∃g,g=we1.heap.size:=⟨_,rfl⟩
    rw [← hg] at HMe18 ⊢;generalize we1.alloc _=we18 at *;clear hg;refine Qb8 (fun K hK=>?_);go_wp2_with fail;refine (HR2.out _ HMe18.out.below).mono ?_;rintro e wf1 ⟨rfl,hb⟩;have HMf1:=LH (HMe18.out.later hb);clear hb;go_wp2_with fail;refine (HC.out _ HMf1.out.below).mono ?_;rintro e wg1 ⟨rfl,hb⟩;have HMg1:=LH (HMf1.out.later hb);clear hb;go_wp2_with fail;refine hK _ _ (fun h=>nomatch h) ?_;clear hK K;refine Qg9 ?_
    repeat (first|go_big_quiet_step (fail)|quiet_step (fail))
    refine wpQuiet_nil ?_;refine Qcr ?_;go_wp2_with (refine Qaa Qek HMg1.out 2 rfl rfl rfl rfl rfl rfl rfl rfl ?_;intro w6 h6 ht6;have H6:=LH h6;clear h6 ht6)
    go_meet
    exact ⟨g,rfl,rfl,H6⟩
  ·refine Qb8 (fun K hK=>?_);go_wp2_with fail;have hba:=Qaf wd (.cells #[.int .u64 0,.int .i64 0,.int .i64 0,.int .i64 0,.int .i64 0,.int .i64 0,.int .i64 0,.int .i64 0,.int .i64 0] 55);have hCe8:=Qan hC1 hba;have HMe8:=LH (HMd.out.alloc #[.int .u64 0,.int .i64 0,.int .i64 0,.int .i64 0,.int .i64 0,.int .i64 0,.int .i64 0,.int .i64 0,.int .i64 0] 55);clear hba;go_wp2_with fail;refine hK _ _ (fun _=>hCe8) ?_;clear hK K;obtain ⟨g,hg⟩:∃g,g=wd.heap.size:=⟨_,rfl⟩
   rw [← hg] at HMe8 ⊢;generalize wd.alloc _=we8 at *;clear hg;refine Qb8 (fun K hK=>?_);go_wp2_with fail;refine (HR1.out _ HMe8.out.below).mono ?_;rintro e we81 ⟨rfl,hb⟩;have hCe81:=Qan hCe8 hb;have HMe81:=LH (HMe8.out.later hb);clear hb;go_wp2_with fail;refine hK _ _ (fun _=>hCe81) ?_;clear hK K;refine Qb8 (fun K hK=>?_);go_wp2_with fail;refine (HR2.out _ HMe81.out.below).mono ?_;rintro e wf2 ⟨rfl,hb⟩;have HMf2:=LH (HMe81.out.later hb);clear hb;go_wp2_with fail;refine (HC.out _ HMf2.out.below).mono ?_;rintro e wg2 ⟨rfl,hb⟩;have HMg2:=LH (HMf2.out.later hb);clear hb;go_wp2_with fail;refine hK _ _ (fun h=>nomatch h) ?_;clear hK K;refine Qg9 ?_
   repeat (first|go_big_quiet_step (fail)|quiet_step (fail))
   refine wpQuiet_nil ?_;refine Qcr ?_;go_wp2_with (refine Qaa Qek HMg2.out 2 rfl rfl rfl rfl rfl rfl rfl rfl ?_;intro w6 h6 ht6;have H6:=LH h6;clear h6 ht6)
   go_meet
   exact ⟨g,rfl,rfl,H6⟩
 case rest =>
  obtain ⟨g,rfl,rfl,HMc⟩:=hcut;clear HR1 HR2 HC HM1;have hj:=HJ.out;clear HJ
  cases b
  case false =>
   rw [if_neg (by simp)] at hj;subst hj;go_wp2_with (refine Qaa Qzm HMc.out 1 rfl rfl rfl rfl rfl rfl rfl rfl ?_;intro w6 h6 ht6;have H6:=LH h6;clear h6 ht6)
   refine bodyPost_ret (Qac (p:=2) (u:=3) rfl _ _ _ _ _ _ _ rfl (H6.out.exact 1 rfl) Tryz.underlying57 rfl (by kernel_rfl)) rfl ?_;exact HN.out _ (by simp) H6.out.below
  rw [if_pos rfl] at hj;subst hj;have hjn:decide (j<0)=false:=by rw [decide_eq_false_iff_not];omega
  go_wp2_with (first
   | (refine Qag Qbk HMc.out 0 rfl rfl rfl rfl rfl ?_)
   | (refine Qag Qek HMc.out 2 rfl rfl rfl rfl rfl ?_)
   | (refine Qcf Jcp [.int .i64 r0,.int .i64 r1,.int .i64 r2,.int .i64 r3,.int .i64 r4,.int .i64 r5,.int .i64 r6,.int .i64 r7] (g:=g) (off:=1) (fun j v hv=>HMc.out.cell 2 (1+j) rfl (by rw [Nat.add_comm];exact hv)) rfl rfl rfl rfl ?_)
   | (refine Qaa Qzm HMc.out 1 rfl rfl rfl rfl rfl rfl rfl rfl ?_;intro w6 h6 ht6;have H6:=LH h6;clear h6 ht6))
  refine bodyPost_ret (Qac (p:=2) (u:=3) rfl _ _ _ _ _ _ _ rfl (H6.out.exact 1 rfl) Tryz.underlying57 rfl (by kernel_rfl)) rfl ?_;exact HY.out _ (by simp) H6.out.below
end
end Go.Proofs.YtpohaahihdhleaaGreat
