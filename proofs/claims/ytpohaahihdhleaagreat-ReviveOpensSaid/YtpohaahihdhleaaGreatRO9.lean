/- Parts of the proof of one statement of the seat. -/
import Derived.Test.YtpohaahihdhleaaGreatRO8
import Derived.Deep.CutBlock
import Derived.BigQuiet
import Derived.Lib.ItoaNum
import Derived.Lib.ItoaLen
import Derived.Lib.SplitLaws
import Derived.RangeFuncNested
import Derived.RangeFuncBound
import Derived.RangeFuncCalls
import Derived.RangeFuncLeaves
import Derived.RangeFuncBox
import Derived.Shelf.Abstract
import Derived.WalkKit
import Derived.OwnWalkIn
import Derived.TacticsInMore
import Derived.LoopNIn
import Derived.LoopIn
import Derived.Maps.AppendAt
set_option linter.unusedVariables false
set_option maxHeartbeats 16000000
set_option maxRecDepth 100000
open Go.RowKit
namespace Go.Proofs.YtpohaahihdhleaaGreat
section
def Qmb (S:Dev) (L:List Hd) (a:Int) (w:World):Ending→World→Prop:=fun e w'=>(∃p d:Int,e=.returned (.tuple #[vob p d,.bool (Qax S L a).isSome])∧∀o,Qax S L a=some o→o=⟨p,d,0⟩)∧Below w.heap.size w w'
theorem Qnw (S:Dev) (a:Int):Qa9 S a=⟨0,0,22⟩∨∃p d,Qa9 S a=⟨p,d,0⟩:=by
 rcases Qfl S a with h | h
 ·refine .inr ⟨(Qa9 S a).p,(Qa9 S a).d,?_⟩;have:=h.1;generalize Qa9 S a=o at *;obtain ⟨p,d,c⟩:=o;dsimp only at this;rw [this]
 ·exact .inl h
theorem Qm8 {w:World} {F:Qb0} {S:Dev} (h:Qa7 w F S) (a:Option Addr) (B cap:Nat) (L:List Hd) (hlen:L.length=B) (hc:Qaq w a (Qbt L)) (hB:B≤1000) (hS:S.cache.length≤1000000) (x:Int) :
  Calls Tryz.prog 159 #[Qei F,Qgk (B:Int),.slice a B cap,.int .i64 x] w (Qmb S L x w):=by
 have HM:=LH (Mem.two w #[.int .i64 (B:Int)] 44 #[.int .i64 0,.int .i64 0] 211);have HP:Hid (∀(p d:Int) b w',b=(Qax S L x).isSome→(∀o,Qax S L x=some o→o=⟨p,d,0⟩)→Below w.heap.size w w'→Qmb S L x w (.returned (.tuple #[vob p d,.bool b])) w'):=LH (fun p d b w' h1 h2 h3=>by subst h1;exact ⟨⟨p,d,rfl,h2⟩,h3⟩);generalize Qmb S L x w=Post at *;have HD0:=LH (h.below HM.out.below);have HC0:=LH (hc.below HM.out.below NR);have HLen:=LH hlen;have HBlk:=LH (fun w=>Qe6 B hB x w);clear h hc hlen;go_enter Tryz.func159,Tryz.ntmps159;go_upto_region 1 with fail;obtain ⟨q,hq⟩:∃q,q=w.heap.size:=⟨_,rfl⟩
 rw [← hq] at HM ⊢;generalize (w.alloc _).alloc _=w0 at *;clear hq;have c0:=HM.out.cell 0 0 rfl rfl
 by_cases hin:x<512∨512*(B:Int)≤x
 ·have HN:Hid (Qax S L x=none):=LH (by unfold Qax;rw [if_pos (by rw [HLen.out];omega)]);have hbb:Qc6 (B:Int) x<1:=by unfold Qc6;split <;> omega
  have HBb:=LH HBlk.out;generalize Qc6 (B:Int) x=bb at *;clear hin;go_wp2_with fail;refine (HBlk.out _).mono ?_;rintro e w1 ⟨rfl,hb1⟩;have HM1:=LH (HM.out.later hb1);clear hb1 c0;go_wp2_with (refine Qaa Qhh HM1.out 1 rfl rfl rfl rfl rfl rfl rfl rfl ?_;intro w7 h7 ht7;have H7:=LH h7;clear h7 ht7)
  refine bodyPost_ret (Qac (p:=8) (u:=9) rfl _ _ _ _ _ _ _ rfl (H7.out.exact 1 rfl) Tryz.underlying211 rfl (by kernel_rfl)) rfl ?_;refine HP.out _ _ _ _ (by rw [HN.out];rfl) (fun o ho=>by rw [HN.out] at ho;cases ho) H7.out.below
 obtain ⟨y,hy⟩:∃y:Nat,x=(y:Int):=⟨x.toNat,by omega⟩
 subst hy;have h1:512≤y:=by omega
 have h2:y<512*B:=by omega
 have hbo:Qc6 (B:Int) (y:Int)=((y/512:Nat):Int):=by unfold Qc6;rw [if_neg (by omega)];omega
 rw [hbo] at HBlk;obtain ⟨b,hb⟩:∃b,b=y/512:=⟨_,rfl⟩
 have hb1:1≤b:=by omega
 have hb2:b<B:=by omega
 rw [← hb] at HBlk;have HBy:=LH hb;have HPl:Hid (Qax S L (y:Int)=if (Qa9 S (y:Int)).code≠0 then none
  else if small (Qap (Qa9 S (y:Int)).p (Qa9 S (y:Int)).d) then (if Qc3 L (ofN (Qap (Qa9 S (y:Int)).p (Qa9 S (y:Int)).d:Nat)) y then some (Qa9 S (y:Int)) else none)
  else if y % 512=0∧Qa4 L b=Qbm (Qap (Qa9 S (y:Int)).p (Qa9 S (y:Int)).d) then some (Qa9 S (y:Int)) else none):=LH (by
  unfold Qax;rw [Int.toNat_natCast,← hb,HLen.out]
  by_cases c:(Qa9 S (y:Int)).code≠0
  ·rw [if_pos (.inr (.inr c)),if_pos c]
  ·rw [if_neg (by omega),if_neg c])
 clear hbo hin hb;go_wp2_with fail;refine (HBlk.out _).mono ?_;rintro e w1 ⟨rfl,hb1'⟩;have HM1:=LH (HM.out.later hb1');have HD1:=LH (HD0.out.below hb1');have HC1:=LH (HC0.out.below hb1' NR);clear hb1' c0;go_wp2_with fail;refine (Qn5 HD1.out (y:Int)).mono ?_;rintro e w2 ⟨rfl,hb2'⟩;have HM2:=LH (HM1.out.later hb2');have HD2:=LH (HD1.out.below hb2');have HC2:=LH (HC1.out.below hb2' NR);clear hb2';unfold Qru.val;rcases Qnw S (y:Int) with hh | ⟨p,d,hh⟩
 ·have HN:Hid (Qax S L (y:Int)=none):=LH (by rw [HPl.out,hh];rfl);rw [hh];dsimp only;go_upto_region 5 with fail;have HM3:=LH (HM2.out.alloc #[.int .i64 0,.int .i64 0] 211);generalize w2.alloc _=w3 at *;go_wp2_with (refine Qaa Qhh HM3.out 1 rfl rfl rfl rfl rfl rfl rfl rfl ?_;intro w7 h7 ht7;have H7:=LH h7;clear h7 ht7)
  refine bodyPost_ret (Qac (p:=8) (u:=9) rfl _ _ _ _ _ _ _ rfl (H7.out.exact 1 rfl) Tryz.underlying211 rfl (by kernel_rfl)) rfl ?_;refine HP.out _ _ _ _ (by rw [HN.out];rfl) (fun o ho=>by rw [HN.out] at ho;cases ho) H7.out.below
 have HS0:Hid (Qap p d≠0):=LH (by
  have:=Qfl S (y:Int);rw [hh] at this;rcases this with h | h
  ·exact h.2.2.2.1
  ·injection h with _ _ h3;cases h3)
 rw [hh];have HPl2:Hid (Qax S L (y:Int)=if small (Qap p d) then (if Qc3 L (ofN (Qap p d:Nat)) y then some ⟨p,d,0⟩ else none)
  else if y % 512=0∧Qa4 L b=Qbm (Qap p d) then some ⟨p,d,0⟩ else none):=LH (by rw [HPl.out,hh,if_neg (by simp)])
 dsimp only;clear HPl HBlk;have HSm:=LH (fun w=>Qqc p d w);have HBl:=LH (fun w=>Qvi p d w);generalize Qap p d=s at *;go_upto_region 7 with fail;have HB3:=LH (Qaf w2 (Obj.cells #[.int .i64 p,.int .i64 d] 211));have HM3:=LH (HM2.out.alloc #[.int .i64 p,.int .i64 d] 211);have HC3:=LH (HC2.out.below HB3.out NR);obtain ⟨q3,hq3⟩:∃q3,q3=w2.heap.size:=⟨_,rfl⟩
 rw [← hq3] at HM3 ⊢;generalize w2.alloc _=w3 at *;clear hq3;obtain ⟨k,c,z,he⟩:=Qe5 L b;obtain ⟨b1,o1,rfl,e0,e1,e2⟩:=Qcq HC3.out (by rw [HLen.out];exact hb2) he;have HEb:=LH he;clear he;have hbB:(b:Int)<(B:Int):=by omega
 go_upto_region 8 with fail;have HB4:=LH (Qaf w3 (Obj.cells #[.int .i64 k,.int .i64 c,.int .i64 z] 107));have HM4:=LH (HM3.out.alloc #[.int .i64 k,.int .i64 c,.int .i64 z] 107);have HC4:=LH (HC3.out.below HB4.out NR);obtain ⟨q4,hq4⟩:∃q4,q4=w3.heap.size:=⟨_,rfl⟩
 rw [← hq4] at HM4 ⊢;generalize w3.alloc _=w4 at *;clear hq4 e0 e1 e2;have d0:=HM4.out.cell 2 0 rfl rfl;have d1:=HM4.out.cell 2 1 rfl rfl;go_wp2_with fail;refine (HSm.out _).mono ?_;rintro e w5 ⟨rfl,hb5⟩;have HM5:=LH (HM4.out.later hb5);have HC5:=LH (HC4.out.below hb5 NR);clear hb5 d0 d1;have hnd:=HM5.out.nd;simp only [List.map_cons,List.map_nil,List.cons_append,List.nil_append,List.nodup_cons,List.mem_cons,List.not_mem_nil,or_false,not_or] at hnd
 have hn0:q∉[q+1]:=by simp
 have hn2:q3∉[q+1]:=by simp;exact fun e=>hnd.2.1.1 e.symm
 have hn3:q4∉[q+1]:=by simp;exact fun e=>hnd.2.1.2 e.symm
 have HNs:=LH (And.intro hn0 (And.intro hn2 hn3));clear hnd hn0 hn2 hn3
 by_cases hsm:small s
 ·have hk:=Qzx hsm;rw [Qsa _ hsm];have HPl3:Hid (Qax S L (y:Int)=if Qc3 L (ofN (s:Int)) y then some ⟨p,d,0⟩ else none):=LH (by rw [HPl2.out,if_pos hsm]);generalize ofN (s:Int)=kk at *;have HIs:Hid (Qc3 L kk y↔Qlp kk y=true∧(⟨k,c,z⟩:Hd)=⟨1,kk,0⟩):=LH (by
   unfold Qc3 Qlp;rw [← HBy.out,HEb.out,decide_eq_true_eq,HLen.out];constructor
   ·rintro ⟨_,_,h3,h4,h5⟩;exact ⟨⟨h4,h5⟩,h3⟩
   ·rintro ⟨⟨h4,h5⟩,h3⟩;exact ⟨h1,h2,h3,h4,h5⟩)
  have HAt:=LH (fun w=>Jfr B hB kk y hk h1 h2 w);clear HPl2 hsm HSm HBl;have c0:=HM5.out.cell 0 0 rfl rfl;go_wp2_with fail;refine (HAt.out _).mono ?_;rintro e w6 ⟨⟨ax,ay,rfl⟩,hb6⟩;have HM6:=LH (HM5.out.later hb6);clear hb6 c0 HAt;go_upto_region 11 with fail;have HM7:=LH (HM6.out.alloc #[.int .i64 ax,.int .i64 ay] 266);generalize w6.alloc _=w7 at *;have d0:=HM7.out.cell 2 0 rfl rfl;have d1:=HM7.out.cell 2 1 rfl rfl;have d3:=HM7.out.cell 3 0 rfl rfl;have d4:=HM7.out.cell 3 1 rfl rfl;have d5:=HM7.out.cell 3 2 rfl rfl;have r0:=fun x=>Qao (L:=[q+1]) d0 HNs.out.2.1 x
  have r1:=fun x=>Qao (L:=[q+1]) d1 HNs.out.2.1 x
  have r3:=fun x=>Qao (L:=[q+1]) d3 HNs.out.2.2 x
  have r4:=fun x=>Qao (L:=[q+1]) d4 HNs.out.2.2 x
  have r5:=fun x=>Qao (L:=[q+1]) d5 HNs.out.2.2 x
  have HT0:Hid (Qam [q+1] w7 w7.drew):=LH (Qam.ofBelow (Qae (Qaj w7)));have HD0:Hid (Below w7.heap.size w7 w7.drew):=LH (Qae (Qaj w7));have hC1:=Qa0 HT0.out;clear d0 d1 d3 d4 d5;have hgd:=Jii
  cases hbg:Qlp kk y with
  | false =>
   have HN:Hid (Qax S L (y:Int)=none):=LH (by rw [HPl3.out,if_neg (fun h=>by have:=(HIs.out.1 h).1;rw [hbg] at this;cases this)]);clear hbg HPl3 HIs;refine Qai (C:=fun w'=>∃x:Qjj [q+1] w7,w'=x.val) [.fl [0,1,2,3,4,5,6,7],.sq [8] true,.sq [9] false] (by kernel_rfl) (by kernel_rfl) (by intro c a d v w h;cases d <;> exact h) ?_;simp only [Qdj,Qa3,List.getElem?_cons_succ,List.getElem?_cons_zero]
   refine Qak hC1 ?_
   repeat (first|go_big_quiet_step (fail)|quiet_step (fail))
   refine wpQuiet_nil ?_;refine Qah (fun K hK=>?_);go_wp2_with (refine Qaa Qhh (HM7.out.later HD0.out) 1 rfl rfl rfl rfl rfl rfl rfl rfl ?_;intro w8 h8 ht8;have H8:=LH h8;have HT8:=LH (HT0.out.trans ht8);clear h8 ht8)
   have hC2:=Qa0 HT8.out;go_wp2_with fail;refine hK _ _ (fun _=>hC2) ?_;clear hK K;refine Qal ?_;go_wp2_with fail;refine bodyPost_ret (Qac (p:=8) (u:=9) rfl _ _ _ _ _ _ _ rfl (H8.out.exact 1 rfl) Tryz.underlying211 rfl (by kernel_rfl)) rfl ?_;refine HP.out _ _ _ _ (by rw [HN.out];rfl) (fun o ho=>by rw [HN.out] at ho;cases ho) H8.out.below
  | true =>
   by_cases hq:(⟨k,c,z⟩:Hd)=⟨1,kk,0⟩
   ·have heq:∀w',(Op.equalIn 10000 107 (.agg #[.int .i64 k,.int .i64 c,.int .i64 z]) (.agg #[.int .i64 1,.int .i64 (kk:Int),.int .i64 0])).run Tryz.prog w'=.ok true w':=fun w'=>Qk9 w' _ _ _ _ _ _ _ (by rw [← Qi7];simp [hq])
    have HN:Hid (Qax S L (y:Int)=some ⟨p,d,0⟩):=LH (by rw [HPl3.out,if_pos (HIs.out.2 ⟨hbg,hq⟩)]);clear hbg HPl3 HIs hq;refine Qai (C:=fun w'=>∃x:Qjj [q+1] w7,w'=x.val) [.fl [0,1,2,3,4,5,6,7],.sq [8] true,.sq [9] false] (by kernel_rfl) (by kernel_rfl) (by intro c a d v w h;cases d <;> exact h) ?_;simp only [Qdj,Qa3,List.getElem?_cons_succ,List.getElem?_cons_zero]
    refine Qak hC1 ?_
    repeat (first|go_big_quiet_step (fail)|quiet_step (fail))
    refine wpQuiet_nil ?_;refine Qah (fun K hK=>?_);go_wp2_with (refine Qaa Qhh (HM7.out.later HD0.out) 1 rfl rfl rfl rfl rfl rfl rfl rfl ?_;intro w8 h8 ht8;have H8:=LH h8;have HT8:=LH (HT0.out.trans ht8);clear h8 ht8)
    have hC2:=Qa0 HT8.out;go_wp2_with fail;refine hK _ _ (fun _=>hC2) ?_;clear hK K;refine Qal ?_;go_wp2_with fail;refine bodyPost_ret (Qac (p:=8) (u:=9) rfl _ _ _ _ _ _ _ rfl (H8.out.exact 1 rfl) Tryz.underlying211 rfl (by kernel_rfl)) rfl ?_;refine HP.out _ _ _ _ (by rw [HN.out];rfl) (fun o ho=>by rw [HN.out] at ho;cases ho;rfl) H8.out.below
   ·have heq:∀w',(Op.equalIn 10000 107 (.agg #[.int .i64 k,.int .i64 c,.int .i64 z]) (.agg #[.int .i64 1,.int .i64 (kk:Int),.int .i64 0])).run Tryz.prog w'=.ok false w':=fun w'=>Qk9 w' _ _ _ _ _ _ _ (by rw [← Qi7];simp [hq])
    have HN:Hid (Qax S L (y:Int)=none):=LH (by rw [HPl3.out,if_neg (fun h=>hq (HIs.out.1 h).2)]);clear hbg HPl3 HIs hq;refine Qai (C:=fun w'=>∃x:Qjj [q+1] w7,w'=x.val) [.fl [0,1,2,3,4,5,6,7],.sq [8] true,.sq [9] false] (by kernel_rfl) (by kernel_rfl) (by intro c a d v w h;cases d <;> exact h) ?_;simp only [Qdj,Qa3,List.getElem?_cons_succ,List.getElem?_cons_zero]
    refine Qak hC1 ?_
    repeat (first|go_big_quiet_step (fail)|quiet_step (fail))
    refine wpQuiet_nil ?_;refine Qah (fun K hK=>?_);go_wp2_with (refine Qaa Qhh (HM7.out.later HD0.out) 1 rfl rfl rfl rfl rfl rfl rfl rfl ?_;intro w8 h8 ht8;have H8:=LH h8;have HT8:=LH (HT0.out.trans ht8);clear h8 ht8)
    have hC2:=Qa0 HT8.out;go_wp2_with fail;refine hK _ _ (fun _=>hC2) ?_;clear hK K;refine Qal ?_;go_wp2_with fail;refine bodyPost_ret (Qac (p:=8) (u:=9) rfl _ _ _ _ _ _ _ rfl (H8.out.exact 1 rfl) Tryz.underlying211 rfl (by kernel_rfl)) rfl ?_;refine HP.out _ _ _ _ (by rw [HN.out];rfl) (fun o ho=>by rw [HN.out] at ho;cases ho) H8.out.below
 rw [Qtg _ hsm];have HNb:Hid (1≤Qbm s):=LH (by
  unfold Qbm;rw [if_neg hsm];have:=HS0.out
  omega)
 have HPl3:Hid (Qax S L (y:Int)=if y % 512=0∧Qa4 L b=Qbm s then some ⟨p,d,0⟩ else none):=LH (by rw [HPl2.out,if_neg hsm]);clear HPl2 hsm HSm;have HWh:=LH (Qlf (some ⟨b1,o1,none⟩) B cap L HLen.out w5 HC5.out hB b hb2);go_wp2_with fail;refine HWh.out.mono ?_;rintro e w6 hp6;obtain ⟨hv6,hb6⟩:=hp6;have HM6:=LH (HM5.out.later hb6);clear hb6 HWh;have c0:=HM6.out.cell 0 0 rfl rfl;have d0:=HM6.out.cell 2 0 rfl rfl;have d1:=HM6.out.cell 2 1 rfl rfl;have r0:=fun x=>Qao (L:=[q+1]) d0 HNs.out.2.1 x
 have r1:=fun x=>Qao (L:=[q+1]) d1 HNs.out.2.1 x
 have r2:=fun x=>Qao (L:=[q+1]) c0 HNs.out.1 x
 have HT0:Hid (Qam [q+1] w6 w6.drew):=LH (Qam.ofBelow (Qae (Qaj w6)));have HD0:Hid (Below w6.heap.size w6 w6.drew):=LH (Qae (Qaj w6));have hC1:=Qa0 HT0.out;clear c0 d0 d1;have HFi:=LH (fun w=>Qvp B hB b hb2 w);obtain ⟨nb,hnb⟩:∃nb,nb=Qbm s:=⟨_,rfl⟩
 rw [← hnb] at HPl3 HNb HBl;obtain ⟨wn,hwn⟩:∃wn,wn=Qa4 L b:=⟨_,rfl⟩
 rw [← hwn] at HPl3 hv6;clear hnb hwn
 by_cases hw0:wn=0
 ·subst hw0;have hv7:e=.returned (.tuple #[.int .i64 0,.bool false]):=by rw [hv6];rfl
  have HN:Hid (Qax S L (y:Int)=none):=LH (by rw [HPl3.out,if_neg (by have:=HNb.out;omega)]);subst hv7;clear hv6;go_upto_region 13 with fail;refine Qai (C:=fun w'=>∃x:Qjj [q+1] w6,w'=x.val) [.fl [0,1,2,3,4,5],.sq [6] true,.fl [7,8,9,10,11],.sq [12] true,.fl [13,14],.sq [15] true,.sq [16] false] (by kernel_rfl) (by kernel_rfl) (by intro c a d v w h;cases d <;> exact h) ?_;simp only [Qdj,Qa3,List.getElem?_cons_succ,List.getElem?_cons_zero]
  refine Qak hC1 ?_
  repeat (first|go_big_quiet_step (fail)|quiet_step (fail))
  refine wpQuiet_nil ?_;refine Qah (fun K hK=>?_);go_wp2_with fail;go_wp2_with fail;refine hK _ _ (fun _=>hC1) ?_;clear hK K;refine Qak hC1 ?_
  repeat (first|go_big_quiet_step (fail)|quiet_step (fail))
  refine wpQuiet_nil ?_;refine Qah (fun K hK=>?_);go_wp2_with fail;go_wp2_with fail;refine hK _ _ (fun _=>hC1) ?_;clear hK K;refine Qak hC1 ?_
  repeat (first|go_big_quiet_step (fail)|quiet_step (fail))
  refine wpQuiet_nil ?_;refine Qah (fun K hK=>?_);go_wp2_with (refine Qaa Qhh (HM6.out.later HD0.out) 1 rfl rfl rfl rfl rfl rfl rfl rfl ?_;intro w8 h8 ht8;have H8:=LH h8;have HT8:=LH (HT0.out.trans ht8);clear h8 ht8)
  have hC2:=Qa0 HT8.out;go_wp2_with fail;refine hK _ _ (fun _=>hC2) ?_;clear hK K;refine Qal ?_;go_wp2_with fail;refine bodyPost_ret (Qac (p:=8) (u:=9) rfl _ _ _ _ _ _ _ rfl (H8.out.exact 1 rfl) Tryz.underlying211 rfl (by kernel_rfl)) rfl ?_;refine HP.out _ _ _ _ (by rw [HN.out];rfl) (fun o ho=>by rw [HN.out] at ho;cases ho) H8.out.below
 have hv7:e=.returned (.tuple #[.int .i64 (wn:Int),.bool true]):=by rw [hv6,decide_eq_true hw0]
 subst hv7;clear hv6;have hb512:b<1000:=by omega
 go_upto_region 13 with fail
 by_cases hy5:y=b*512
 case neg =>
  have hy6:((y:Int) == (b:Int)*512)=false:=by simp;omega
  have HN:Hid (Qax S L (y:Int)=none):=LH (by rw [HPl3.out,if_neg (by have:=HBy.out;omega)]);clear hy5;refine Qai (C:=fun w'=>∃x:Qjj [q+1] w6,w'=x.val) [.fl [0,1,2,3,4,5],.sq [6] true,.fl [7,8,9,10,11],.sq [12] true,.fl [13,14],.sq [15] true,.sq [16] false] (by kernel_rfl) (by kernel_rfl) (by intro c a d v w h;cases d <;> exact h) ?_;simp only [Qdj,Qa3,List.getElem?_cons_succ,List.getElem?_cons_zero]
  refine Qak hC1 ?_
  repeat (first|go_big_quiet_step (fail)|quiet_step (fail))
  refine wpQuiet_nil ?_;refine Qah (fun K hK=>?_);go_wp2_with fail;refine (HFi.out _).mono ?_;rintro e w7 ⟨rfl,hb7⟩;have HD7:=LH (HD0.out.trans (hb7.mono HD0.out.size));have HT7:=LH (HT0.out.later hb7);have hC2:=Qa0 HT7.out;clear hb7;go_wp2_with fail;refine hK _ _ (fun _=>hC2) ?_;clear hK K;refine Qak hC2 ?_
  repeat (first|go_big_quiet_step (fail)|quiet_step (fail))
  refine wpQuiet_nil ?_;refine Qah (fun K hK=>?_);go_wp2_with fail;go_wp2_with fail;refine hK _ _ (fun _=>hC2) ?_;clear hK K;refine Qak hC2 ?_
  repeat (first|go_big_quiet_step (fail)|quiet_step (fail))
  refine wpQuiet_nil ?_;refine Qah (fun K hK=>?_);go_wp2_with (refine Qaa Qhh (HM6.out.later HD7.out) 1 rfl rfl rfl rfl rfl rfl rfl rfl ?_;intro w8 h8 ht8;have H8:=LH h8;have HT8:=LH (HT7.out.trans ht8);clear h8 ht8)
  have hC3:=Qa0 HT8.out;go_wp2_with fail;refine hK _ _ (fun _=>hC3) ?_;clear hK K;refine Qal ?_;go_wp2_with fail;refine bodyPost_ret (Qac (p:=8) (u:=9) rfl _ _ _ _ _ _ _ rfl (H8.out.exact 1 rfl) Tryz.underlying211 rfl (by kernel_rfl)) rfl ?_;refine HP.out _ _ _ _ (by rw [HN.out];rfl) (fun o ho=>by rw [HN.out] at ho;cases ho) H8.out.below
 have hy6:((y:Int) == (b:Int)*512)=true:=by simp;omega
 have HN:Hid (Qax S L (y:Int)=if wn=nb then some ⟨p,d,0⟩ else none):=LH (by
  rw [HPl3.out]
  by_cases c:wn=nb
  ·rw [if_pos ⟨by omega,c⟩,if_pos c]
  ·rw [if_neg (fun h=>c h.2),if_neg c])
 clear hy5;refine Qai (C:=fun w'=>∃x:Qjj [q+1] w6,w'=x.val) [.fl [0,1,2,3,4,5],.sq [6] true,.fl [7,8,9,10,11],.sq [12] true,.fl [13,14],.sq [15] true,.sq [16] false] (by kernel_rfl) (by kernel_rfl) (by intro c a d v w h;cases d <;> exact h) ?_;simp only [Qdj,Qa3,List.getElem?_cons_succ,List.getElem?_cons_zero]
 refine Qak hC1 ?_
 repeat (first|go_big_quiet_step (fail)|quiet_step (fail))
 refine wpQuiet_nil ?_;refine Qah (fun K hK=>?_);go_wp2_with fail;refine (HFi.out _).mono ?_;rintro e w7 ⟨rfl,hb7⟩;have HD7:=LH (HD0.out.trans (hb7.mono HD0.out.size));have HT7:=LH (HT0.out.later hb7);have hC2:=Qa0 HT7.out;clear hb7;go_wp2_with fail;refine hK _ _ (fun _=>hC2) ?_;clear hK K;refine Qak hC2 ?_
 repeat (first|go_big_quiet_step (fail)|quiet_step (fail))
 refine wpQuiet_nil ?_;refine Qah (fun K hK=>?_);go_wp2_with fail;refine (HBl.out _).mono ?_;rintro e w8 ⟨rfl,hb8⟩;have HD8:=LH (HD7.out.trans (hb8.mono HD7.out.size));have HT8:=LH (HT7.out.later hb8);have hC3:=Qa0 HT8.out;clear hb8;go_wp2_with fail;refine hK _ _ (fun _=>hC3) ?_;clear hK K;refine Qak hC3 ?_
 repeat (first|go_big_quiet_step (fail)|quiet_step (fail))
 refine wpQuiet_nil ?_;refine Qah (fun K hK=>?_);go_wp2_with (refine Qaa Qhh (HM6.out.later HD8.out) 1 rfl rfl rfl rfl rfl rfl rfl rfl ?_;intro w9 h9 ht9;have H9:=LH h9;have HT9:=LH (HT8.out.trans ht9);clear h9 ht9)
 have hC4:=Qa0 HT9.out;go_wp2_with fail;refine hK _ _ (fun _=>hC4) ?_;clear hK K;refine Qal ?_;go_wp2_with fail;refine bodyPost_ret (Qac (p:=8) (u:=9) rfl _ _ _ _ _ _ _ rfl (H9.out.exact 1 rfl) Tryz.underlying211 rfl (by kernel_rfl)) rfl ?_;refine HP.out _ _ _ _ ?_ (fun o ho=>?_) H9.out.below
 ·rw [HN.out]
  by_cases c:wn=nb
  ·subst c;simp
  ·rw [if_neg c];simp;omega
 ·rw [HN.out] at ho
  split at ho
  ·cases ho;rfl
  ·cases ho
theorem Qyk {w:World} {A:AF} {n B:Nat} {m:Al} (h:Qfy w A n B m) (hB:B≤1000) (x:Int) :
  Calls Tryz.prog 118 #[Qeb A,.int .i64 x] w (Qmb m.bm.dev m.bm.list x w):=by
 have HM:=LH (Mem.one w #[.int .i64 0,.int .i64 0] 211);have HP:Hid (∀(p d:Int) b w',b=(Qax m.bm.dev m.bm.list x).isSome→(∀o,Qax m.bm.dev m.bm.list x=some o→o=⟨p,d,0⟩)→Below w.heap.size w w'→Qmb m.bm.dev m.bm.list x w (.returned (.tuple #[vob p d,.bool b])) w'):=LH (fun p d b w' h1 h2 h3=>by subst h1;exact ⟨⟨p,d,rfl,h2⟩,h3⟩);have HLn:Hid (m.bm.list.length=B):=LH h.man.tab.len;have HSm:Hid (m.bm.dev.cache.length≤1000000):=LH h.man.dev.small;generalize Qmb m.bm.dev m.bm.list x w=Post at *;have HA0:=LH (h.below HM.out.below);have HAh:=LH h;clear h;go_enter Tryz.func118,Tryz.ntmps118;go_upto_region 1 with fail;obtain ⟨q,hq⟩:∃q,q=w.heap.size:=⟨_,rfl⟩
 have HQn:Hid (∀k∈A.list,k∉[q]):=LH (fun k hk hm=>by
  have:=HAh.out.mem k hk;simp at hm
  omega)
 rw [← hq] at HM ⊢;generalize w.alloc _=w0 at *;clear hq;have c0:=HA0.out.c0;have c1:=HA0.out.c1;have c2:=HA0.out.c2;have c3:=HA0.out.man.c0;have r0:=fun x=>Qao (L:=[q]) c0 (HQn.out _ (by simp [AF.list,AF.fix])) x
 have r1:=fun x=>Qao (L:=[q]) c1 (HQn.out _ (by simp [AF.list,AF.fix])) x
 have r2:=fun x=>Qao (L:=[q]) c2 (HQn.out _ (by simp [AF.list,AF.fix])) x
 have r3:=fun x=>Qao (L:=[q]) c3 (HQn.out _ (by simp [AF.list,AF.fix,MF.list])) x
 have HT0:Hid (Qam [q] w0 w0.drew):=LH (Qam.ofBelow (Qae (Qaj w0)));have HD0:Hid (Below w0.heap.size w0 w0.drew):=LH (Qae (Qaj w0));have hC1:=Qa0 HT0.out;clear c0 c1 c2 c3;refine Qai (C:=fun w'=>∃x:Qjj [q] w0,w'=x.val) [.fl [0,1,2,3,4,5,6,7,8,9,10,11,12,13,14,16],.sq [15] true,.sq [17] false,.fl [18,19],.sq [20,21] false] (by kernel_rfl) (by kernel_rfl) (by intro c a d v w h;cases d <;> exact h) ?_;simp only [Qdj,Qa3,List.getElem?_cons_succ,List.getElem?_cons_zero]
 refine Qak hC1 ?_
 repeat (first|go_big_quiet_step (fail)|quiet_step (fail))
 refine wpQuiet_nil ?_;clear r0 r1 r2 r3;generalize w0.drew=w1 at *;have HA1:=LH (HA0.out.below HD0.out);refine Qah (fun K hK=>?_);go_wp2_with fail;refine (Qq6 HA1.out.man.tab hB).mono ?_;rintro e w2 ⟨g,cg,rfl,hg1,hg2,hrow,hb2⟩;have HD2:=LH (HD0.out.trans (hb2.mono HD0.out.size));have HT2:=LH (HT0.out.later hb2);have hC2:=Qa0 HT2.out;have HR2:=LH hrow.cells;clear hb2 hrow;go_wp2_with fail;refine hK _ _ (fun _=>hC2) ?_;clear hK K;have HA2:=LH (HA0.out.below HD2.out);refine Qah (fun K hK=>?_);go_wp2_with fail;refine (Qm8 HA2.out.man.dev _ B cg m.bm.list HLn.out HR2.out hB HSm.out x).mono ?_;rintro e w3 ⟨⟨p,d,rfl,ho⟩,hb3⟩;have HO:=LH ho;have HD3:=LH (HD2.out.trans (hb3.mono HD2.out.size));have HT3:=LH (HT2.out.later hb3);have hC3:=Qa0 HT3.out;clear ho hb3;go_wp2_with fail;refine hK _ _ (fun _=>hC3) ?_;clear hK K;refine Qak hC3 ?_
 repeat (first|go_big_quiet_step (fail)|quiet_step (fail))
 refine wpQuiet_nil ?_;refine Qal ?_;go_wp2_with (refine Qaa Qhh (HM.out.later HD3.out) 0 rfl rfl rfl rfl rfl rfl rfl rfl ?_;intro w9 h9 ht9;have H9:=LH h9;clear h9 ht9)
 refine bodyPost_ret (Qac (p:=4) (u:=5) rfl _ _ _ _ _ _ _ rfl (H9.out.exact 0 rfl) Tryz.underlying211 rfl (by kernel_rfl)) rfl ?_;exact HP.out _ _ _ _ rfl HO.out H9.out.below
theorem Qen:Agg Tryz.prog 109 #[.int .i64 0,.int .i64 0]:=⟨⟨_,Tryz.underlying109,rfl⟩,by kernel_rfl⟩
theorem Qim (p d:Int) (w:World):Calls Tryz.prog 38 #[vob p d] w fun e w'=>e=.returned (.int .i64 (Qap p d:Nat))∧Below w.heap.size w w':=by
 have HM:=LH (Mem.one w #[.int .i64 p,.int .i64 d] 109);have HS:Hid (Qap p d=if p<0∨63<p∨d<0∨16384<d then 0 else (1+p+d).toNat):=LH rfl;generalize Qap p d=n at *;go_enter Tryz.func38,Tryz.ntmps38;go_upto_region 1 with fail;generalize w.alloc _=w0 at *;have c0:=HM.out.cell 0 0 rfl rfl;have c1:=HM.out.cell 0 1 rfl rfl
 by_cases h1:p<0
 ·have HV:Hid (n=0):=LH (by rw [HS.out,if_pos (.inl h1)]);go_wp2_with fail
  go_ret
  exact ⟨by rw [HV.out];rfl,HM.out.below⟩
 by_cases h2:63<p
 ·have HV:Hid (n=0):=LH (by rw [HS.out,if_pos (.inr (.inl h2))]);go_wp2_with fail
  go_ret
  exact ⟨by rw [HV.out];rfl,HM.out.below⟩
 by_cases h3:d<0
 ·have HV:Hid (n=0):=LH (by rw [HS.out,if_pos (.inr (.inr (.inl h3)))]);go_wp2_with fail
  go_ret
  exact ⟨by rw [HV.out];rfl,HM.out.below⟩
 by_cases h4:16384<d
 ·have HV:Hid (n=0):=LH (by rw [HS.out,if_pos (.inr (.inr (.inr h4)))]);go_wp2_with fail
  go_ret
  exact ⟨by rw [HV.out];rfl,HM.out.below⟩
 have HV:Hid ((n:Int)=1+p+d):=LH (by rw [HS.out,if_neg (by omega)];omega);go_wp2_with fail
 go_ret
 exact ⟨Qau HV.out.symm,HM.out.below⟩
theorem Qic (p d a:Int) (w:World):Calls Tryz.prog 39 #[vob p d,.int .i64 a] w fun e w'=>e=.returned (Qad (Qfc a p d))∧Below w.heap.size w w':=by
 have HM:=LH (Mem.one w #[.int .i64 p,.int .i64 d] 109);have HE:Hid (Qfc a p d=if Qap p d=0 then 0 else Qgf (obN p d) (pl a)):=LH rfl;generalize Qfc a p d=y at *;go_enter Tryz.func39,Tryz.ntmps39;go_upto_region 1 with fail;generalize w.alloc _=w0 at *;go_wp2_with (refine Qag Qen HM.out 0 rfl rfl rfl rfl rfl ?_)
 refine (Qim p d _).mono ?_;rintro e w1 ⟨rfl,hb1⟩;have HM1:=LH (HM.out.later hb1);clear hb1 HM
 by_cases hr:Qap p d=0
 ·have HV:Hid (y=0):=LH (by rw [HE.out,if_pos hr]);rw [hr];clear hr;go_wp2_with fail
  go_ret
  exact ⟨Qau (by rw [HV.out];rfl),HM1.out.below⟩
 ·have HV:Hid (y=Qgf (obN p d) (pl a)):=LH (by rw [HE.out,if_neg hr]);have hn:=Qzp hr;obtain ⟨⟨p0,p1⟩,d0,d1⟩:=Qkm hr;have HN:Hid (165+256*p+16384*d=(obN p d:Int)):=LH (by unfold obN;omega);have hz:(((Qap p d:Nat):Int) == 0)=false:=by simp;omega
  have c0:=HM1.out.cell 0 0 rfl rfl;have c1:=HM1.out.cell 0 1 rfl rfl;generalize Qap p d=sz at *;generalize obN p d=n at *;clear hr;have hw:IntKind.u32.wrap (165+256*p+16384*d)=165+256*p+16384*d:=IntWalk.u32_in _ (by omega);go_wp2_with fail;rw [HN.out];refine (Qno n _ hn _).mono ?_;rintro e w2 ⟨rfl,hb2⟩;rw [← HV.out];go_wp2_with fail
  go_ret
  exact ⟨rfl,(HM1.out.later hb2).below⟩
theorem Qs5 (a:Int) (x:Nat) (hx:x<18446744073709551616) (w:World) :
  Calls Tryz.prog 124 #[.int .i64 a,Qad x] w fun e w'=>e=.returned (Qc8 a x).val∧Below w.heap.size w w':=by
 have HM:=LH (Mem.one w #[.int .i64 0,.int .i64 0] 109);have HOS:Hid ((Qc8 a x).code=0→Qap (Qc8 a x).p (Qc8 a x).d≠0):=LH (fun h=>(Qsj h).1);go_enter Tryz.func124,Tryz.ntmps124;go_upto_region 1 with fail;generalize w.alloc _=w0 at *;go_wp2_with fail;refine (Qsl x _ hx _).mono ?_;rintro e w1 ⟨rfl,hbo⟩;have HM1:=LH (HM.out.later hbo);clear hbo HM
 cases ho:Qeo x (pl a) with
 | none =>
  have HV:=LH (Qpy ho);clear ho;simp only [Qkb]
  go_wp2_with (refine Qaa Qen HM1.out 0 rfl rfl rfl rfl rfl rfl rfl rfl ?_;intro w9 h9 _;have H9:=LH h9;clear h9)
  refine bodyPost_ret (Qac (p:=4) (u:=5) rfl _ _ _ _ _ _ _ rfl (H9.out.exact 0 rfl) Tryz.underlying109 rfl (by kernel_rfl)) rfl ⟨by rw [HV.out];rfl,H9.out.below⟩
 | some n =>
  obtain ⟨hn,-⟩:=Qfk ho;have HK:=LH (Qwy ho);have HL:=LH (Qt6 ho);have HD:=LH (Qkw ho);have HDS:Hid (Qx4 a x n=if Qfc a (n/256 % 64:Nat) (n/16384 % 32768:Nat)=x then ⟨(n/256 % 64:Nat),(n/16384 % 32768:Nat),0⟩ else ⟨0,0,26⟩):=LH rfl;clear ho;simp only [Qkb]
  have h64:n/256 % 64<64:=by omega
  have h6:n/16384 % 32768<32768:=by omega
  have hmod1:(n:Int)/256 % 64=((n/256 % 64:Nat):Int):=by omega
  have hmod2:(n:Int)/16384 % 32768=((n/16384 % 32768:Nat):Int):=by omega
  have HM1':=LH (HM1.out.alloc #[.int .i64 ((n:Int)/256 % 64),.int .i64 ((n:Int)/16384 % 32768)] 109);have HMOD1:=LH hmod1;have HMOD2:=LH hmod2;clear hmod1 hmod2;go_upto_region 5 with fail;rw [HMOD1.out,HMOD2.out] at HM1' ⊢;clear HMOD1 HMOD2;generalize n/256 % 64=k at *;generalize n/16384 % 32768=l at *;generalize w1.alloc _=w2 at *;generalize w1.heap.size=g at *;clear HM1;go_wp2_with (refine Qag Qen HM1'.out 1 rfl rfl rfl rfl rfl ?_)
  refine (Qim k l _).mono ?_;rintro e w3 ⟨rfl,hb3⟩;have HM3:=LH (HM1'.out.later hb3);clear hb3 HM1'
  by_cases hyx:Qfc a k l=x
  ·have HV:=LH (HK.out hyx);have hsz:Qap (k:Int) (l:Int)≠0:=by
    have h1:=HOS.out;rw [HD.out,HDS.out,if_pos hyx] at h1;exact h1 rfl
   have hz:(((Qap (k:Int) (l:Int):Nat):Int) == 0)=false:=by simp;omega
   generalize Qap (k:Int) (l:Int)=sz at *;clear hsz;have HYX:=LH hyx;clear hyx;have c0:=HM3.out.cell 1 0 rfl rfl;have c1:=HM3.out.cell 1 1 rfl rfl;go_wp2_with fail;clear c0 c1;refine (Qic k l a _).mono ?_;rintro e w4 ⟨rfl,hb4⟩;rw [HYX.out];have HM4:=LH (HM3.out.later hb4);clear hb4 HM3;go_wp2_with (first | (refine Qag Qen HM4.out 1 rfl rfl rfl rfl rfl ?_) | (refine Qaa Qen HM4.out 0 rfl rfl rfl rfl rfl rfl rfl rfl ?_;intro w9 h9 _;have H9:=LH h9;clear h9))
   refine bodyPost_ret (Qac (p:=4) (u:=5) rfl _ _ _ _ _ _ _ rfl (H9.out.exact 0 rfl) Tryz.underlying109 rfl (by kernel_rfl)) rfl ⟨by rw [HV.out];rfl,H9.out.below⟩
  ·have HV:=LH (HL.out hyx)
   by_cases hsz:Qap (k:Int) (l:Int)=0
   ·rw [hsz];clear hsz;go_wp2_with (first | (refine Qag Qen HM3.out 1 rfl rfl rfl rfl rfl ?_) | (refine Qaa Qen HM3.out 0 rfl rfl rfl rfl rfl rfl rfl rfl ?_;intro w9 h9 _;have H9:=LH h9;clear h9))
    refine bodyPost_ret (Qac (p:=4) (u:=5) rfl _ _ _ _ _ _ _ rfl (H9.out.exact 0 rfl) Tryz.underlying109 rfl (by kernel_rfl)) rfl ⟨by rw [HV.out];rfl,H9.out.below⟩
   have hz:(((Qap (k:Int) (l:Int):Nat):Int) == 0)=false:=by simp;omega
   generalize Qap (k:Int) (l:Int)=sz at *;clear hsz;have HYX:=LH hyx;clear hyx;have c0:=HM3.out.cell 1 0 rfl rfl;have c1:=HM3.out.cell 1 1 rfl rfl;go_wp2_with fail;clear c0 c1;refine (Qic k l a _).mono ?_;rintro e w4 ⟨rfl,hb4⟩;have HM4:=LH (HM3.out.later hb4);clear hb4 HM3;have hne:¬((Qfc a (k:Int) (l:Int):Int)=(x:Int)):=by have:=HYX.out;omega
   have hne2:((Qfc a (k:Int) (l:Int):Int) != (x:Int))=true:=by simp;have:=HYX.out;omega
   generalize Qfc a (k:Int) (l:Int)=y at *;go_wp2_with (first | (refine Qag Qen HM4.out 1 rfl rfl rfl rfl rfl ?_) | (refine Qaa Qen HM4.out 0 rfl rfl rfl rfl rfl rfl rfl rfl ?_;intro w9 h9 _;have H9:=LH h9;clear h9))
   refine bodyPost_ret (Qac (p:=4) (u:=5) rfl _ _ _ _ _ _ _ rfl (H9.out.exact 0 rfl) Tryz.underlying109 rfl (by kernel_rfl)) rfl ⟨by rw [HV.out];rfl,H9.out.below⟩
def Jex (o:Qru):Value:=.tuple #[vob o.p o.d,.bool (decide (o.code=0))]
theorem Qos {w:World} {v:Value} {S:Dev} {m:Nat} (hm:S.dirty.length=m) (h:RAt w v m S.ref) {N:Nat} (hf:S.fit N) (a:Int) :
  Calls Tryz.prog 75 #[v,.int .i64 a] w fun e w'=>e=.returned (Jex (Qa9 S a))∧Below w.heap.size w w':=by
 subst hm;obtain ⟨an,cn,al,cl,aw,cw,ad,cd,ap,cp,m,sv,fz,dd,rfl,ho,hdl,hm8,hsv,hfz⟩:=Jat h hf;have HV:Hid (Qa9 S a=if a<0∨(S.cache.length:Int)≤a then ⟨0,0,22⟩ else
  if (Qc8 a (Qdr S.cache a)).code≠0∨(S.cache.length:Int)-a<(Qap (Qc8 a (Qdr S.cache a)).p (Qc8 a (Qdr S.cache a)).d:Nat) then ⟨0,0,22⟩ else ⟨(Qc8 a (Qdr S.cache a)).p,(Qc8 a (Qdr S.cache a)).d,0⟩):=LH rfl
 generalize Qa9 S a=R at *;have HPk:=LH (Qql hf.wf.u64C a);have HO:=LH ho;have HCL:=LH ho.cl;clear h hf ho hdl;have HM:=LH (Mem.two w #[.slice an m cn,.slice al m cl,.slice aw m cw,.slice ad m cd,.slice ap m cp,.int .i64 sv,.int .i64 fz,.bool dd] 38 #[.int .i64 0,.int .i64 0] 109);go_enter Tryz.func75,Tryz.ntmps75;go_upto_region 1 with fail;generalize (w.alloc _).alloc _=w0 at *;have c0:=HM.out.cell 0 0 rfl rfl
 by_cases h1:a<0
 ·have HR:Hid (R=⟨0,0,22⟩):=LH (by rw [HV.out,if_pos (.inl h1)]);go_wp2_with (refine Qaa Qen HM.out 1 rfl rfl rfl rfl rfl rfl rfl rfl ?_;intro w9 h9 _;have H9:=LH h9;clear h9)
  exact bodyPost_ret (Qac (p:=4) (u:=5) rfl _ _ _ _ _ _ _ rfl (H9.out.exact 1 rfl) Tryz.underlying109 rfl (by kernel_rfl)) rfl ⟨by rw [HR.out];rfl,H9.out.below⟩
 by_cases h2:8*(m:Int)≤a
 ·have HR:Hid (R=⟨0,0,22⟩):=LH (by rw [HV.out,if_pos (.inr (by rw [HCL.out];omega))]);go_wp2_with (refine Qaa Qen HM.out 1 rfl rfl rfl rfl rfl rfl rfl rfl ?_;intro w9 h9 _;have H9:=LH h9;clear h9)
  exact bodyPost_ret (Qac (p:=4) (u:=5) rfl _ _ _ _ _ _ _ rfl (H9.out.exact 1 rfl) Tryz.underlying109 rfl (by kernel_rfl)) rfl ⟨by rw [HR.out];rfl,H9.out.below⟩
 have HV2:Hid (R=if (Qc8 a (Qdr S.cache a)).code≠0∨8*(m:Int)-a<(Qap (Qc8 a (Qdr S.cache a)).p (Qc8 a (Qdr S.cache a)).d:Nat) then ⟨0,0,22⟩ else ⟨(Qc8 a (Qdr S.cache a)).p,(Qc8 a (Qdr S.cache a)).d,0⟩):=LH (by
  rw [HV.out,if_neg (by rw [HCL.out];omega),show (S.cache.length:Int)=8*(m:Int) by rw [HCL.out];omega])
 clear HV;go_wp2_with fail;refine (Qg8 an m cn S.cache _ (HO.out.k1.below HM.out.below NR) HCL.out (by omega) a).mono ?_;rintro e w1 ⟨rfl,rfl⟩;generalize Qdr S.cache a=x at *;go_wp2_with fail;refine (Qs5 a x HPk.out _).mono ?_;rintro e w1 ⟨rfl,hb1⟩;have HM1:=LH (HM.out.later hb1);generalize Qc8 a x=o at *;obtain ⟨p,d,c⟩:=o;unfold Qru.val;dsimp only at HV2 ⊢;have HM2:=LH (HM1.out.alloc #[.int .i64 p,.int .i64 d] 109);clear hb1 HM c0 HM1;go_upto_region 4 with fail;generalize w1.alloc _=w2 at *;generalize w1.heap.size=g at *
 by_cases hc:c=0
 ·subst hc;have c0:=HM2.out.cell 0 0 rfl rfl;have d0:=HM2.out.cell 2 0 rfl rfl;have d1:=HM2.out.cell 2 1 rfl rfl;have r0:=fun x=>Qab c0 x
  have r1:=fun x=>Qab d0 x
  have r2:=fun x=>Qab d1 x
  have hw:IntKind.i64.wrap (8*(m:Int)-a)=8*(m:Int)-a:=IntWalk.i64_in _ (by omega);refine Qai (C:=fun w'=>∃x:Qbi (w2),w'=x.val) [.sq [0,1,2] false,.fl [3,5,6,7,8,9,10],.sq [4] true,.sq [11,12] false] (by kernel_rfl) (by kernel_rfl) (by intro c a d v w h;cases d <;> exact h) ?_;simp only [Qdj,Qa3,List.getElem?_cons_succ,List.getElem?_cons_zero]
  have hC1:=Qaj (w2);refine Qah (fun K hK=>?_);go_wp2_with fail;refine hK _ _ (fun h=>nomatch h) ?_;clear hK K;refine Qak hC1 ?_
  repeat (first|go_big_quiet_step (fail)|quiet_step (fail))
  refine wpQuiet_nil ?_;refine Qah (fun K hK=>?_);go_wp2_with fail;have HM3:=LH (HM2.out.later (Qae hC1));refine (Qim p d _).mono ?_;rintro e w3 ⟨rfl,hb3⟩;have hC2:=Qan hC1 hb3;have HM4:=LH (HM3.out.later hb3);clear hb3 HM3;go_wp2_with fail;refine hK _ _ (fun _=>hC2) ?_;clear hK K;clear HM2 c0 d0 d1 r0 r1 r2 hC1 hC2;generalize Qap p d=sz at *
  by_cases h3:8*(m:Int)-a<(sz:Int)
  ·have HR:Hid (R=⟨0,0,22⟩):=LH (by rw [HV2.out,if_pos (.inr h3)]);refine Qal ?_;go_wp2_with (refine Qaa Qen HM4.out 1 rfl rfl rfl rfl rfl rfl rfl rfl ?_;intro w9 h9 _;have H9:=LH h9;clear h9)
   exact bodyPost_ret (Qac (p:=4) (u:=5) rfl _ _ _ _ _ _ _ rfl (H9.out.exact 1 rfl) Tryz.underlying109 rfl (by kernel_rfl)) rfl ⟨by rw [HR.out];rfl,H9.out.below⟩
  ·have HR:Hid (R=⟨p,d,0⟩):=LH (by rw [HV2.out,if_neg (by simp;omega)]);refine Qal ?_;go_wp2_with (first | (refine Qag Qen HM4.out 2 rfl rfl rfl rfl rfl ?_) | (refine Qaa Qen HM4.out 1 rfl rfl rfl rfl rfl rfl rfl rfl ?_;intro w9 h9 _;have H9:=LH h9;clear h9))
   exact bodyPost_ret (Qac (p:=4) (u:=5) rfl _ _ _ _ _ _ _ rfl (H9.out.exact 1 rfl) Tryz.underlying109 rfl (by kernel_rfl)) rfl ⟨by rw [HR.out];rfl,H9.out.below⟩
 ·have HR:Hid (R=⟨0,0,22⟩):=LH (by rw [HV2.out,if_pos (.inl hc)]);have hc1:(c != 0)=true:=by simpa using hc
  clear hc;refine Qai (C:=fun w'=>∃x:Qbi (w2),w'=x.val) [.sq [0,1,2] false,.fl [3,5,6,7,8,9,10],.sq [4] true,.sq [11,12] false] (by kernel_rfl) (by kernel_rfl) (by intro c a d v w h;cases d <;> exact h) ?_;simp only [Qdj,Qa3,List.getElem?_cons_succ,List.getElem?_cons_zero]
  have hC1:=Qaj (w2);refine Qah (fun K hK=>?_);go_wp2_with fail;refine hK _ _ (fun h=>nomatch h) ?_;clear hK K;refine Qak hC1 ?_
  repeat (first|go_big_quiet_step (fail)|quiet_step (fail))
  refine wpQuiet_nil ?_;refine Qah (fun K hK=>?_);go_wp2_with fail;go_wp2_with fail;refine hK _ _ (fun _=>hC1) ?_;clear hK K;have HM4:=LH (HM2.out.later (Qae hC1));clear HM2 hC1;refine Qal ?_;go_wp2_with (refine Qaa Qen HM4.out 1 rfl rfl rfl rfl rfl rfl rfl rfl ?_;intro w9 h9 _;have H9:=LH h9;clear h9)
  exact bodyPost_ret (Qac (p:=4) (u:=5) rfl _ _ _ _ _ _ _ rfl (H9.out.exact 1 rfl) Tryz.underlying109 rfl (by kernel_rfl)) rfl ⟨by rw [HR.out];rfl,H9.out.below⟩
def Qvc (x:Nat):Nat:=if 1099511627776<x then 1099511627776 else x
theorem Jbu (x:Nat):Qvc x≤1099511627776:=by unfold Qvc;split <;> omega
theorem Ja3 {w:World} {F:Qb0} {S:Dev} (h:Qa7 w F S) (a i:Int) :
  Calls Tryz.prog 200 #[Qei F,.int .i64 a,.int .i64 i] w fun e w'=>e=.returned (.tuple #[.int .i64 ((if (Qiy S a i false).code=0 then Qvc (Qdr S.cache (Qiy S a i false).at_) else 0:Nat):Int),.int .i64 (Qiy S a i false).code])∧Below w.heap.size w w':=by
 have HD:=LH h;clear h;obtain ⟨pn,hpn⟩:∃pn,pn=Qiy S a i false:=⟨_,rfl⟩
 rw [← hpn];have HPN:=LH hpn;clear hpn;generalize hR:(if pn.code=0 then Qvc (Qdr S.cache pn.at_) else 0:Nat)=R;have HR:=LH hR;clear hR;go_enter Tryz.func200,Tryz.ntmps200;go_wp2_with fail;refine (Qxf HD.out a i false).mono ?_;rw [← HPN.out];rintro e w1 ⟨rfl,hb1⟩;clear HPN;obtain ⟨q,c⟩:=pn;dsimp only at HR ⊢;have HB:=LH hb1;have HD1:=LH (HD.out.below hb1);clear hb1 HD
 by_cases hc:c=0
 ·subst hc;go_wp2_with fail;refine (Qio HD1.out q).mono ?_;rintro e w2 ⟨rfl,rfl⟩;rw [if_pos trivial] at HR;generalize Qdr S.cache q=x at *
  by_cases hx:1099511627776<x
  ·have HV:Hid (R=1099511627776):=LH (by rw [← HR.out];unfold Qvc;rw [if_pos hx]);have hmin:min (x:Int) 1099511627776=1099511627776:=Int.min_eq_right (by omega);go_wp2_with fail
   go_ret2
   exact ⟨by rw [HV.out];rfl,HB.out⟩
  ·have HV:Hid (R=x):=LH (by rw [← HR.out];unfold Qvc;rw [if_neg hx]);have hmin:min (x:Int) 1099511627776=(x:Int):=Int.min_eq_left (by omega);go_wp2_with fail
   go_ret2
   exact ⟨by rw [HV.out];rfl,HB.out⟩
 ·have hc1:(c != 0)=true:=by simpa using hc
  have HV:Hid (R=0):=LH (by rw [← HR.out,if_neg hc]);clear hc;go_wp2_with fail
  go_ret2
  exact ⟨by rw [HV.out];rfl,HB.out⟩
theorem Jey (x:Nat) (w:World):Calls Tryz.prog 148 #[Qad x] w fun e w'=>e=.returned (.int .i64 (Qvc x:Nat))∧w=w':=by
 by_cases hx:1099511627776<x
 ·have HV:Hid (Qvc x=1099511627776):=LH (by unfold Qvc;rw [if_pos hx]);have hx':(1099511627776:Int)<(x:Int):=by omega
  go_enter Tryz.func148,Tryz.ntmps148;go_wp2_with fail
  go_ret
  exact ⟨by rw [HV.out];rfl,rfl⟩
 ·have HV:Hid (Qvc x=x):=LH (by unfold Qvc;rw [if_neg hx]);have hx':¬(1099511627776:Int)<(x:Int):=by omega
  go_enter Tryz.func148,Tryz.ntmps148;go_wp2_with fail
  go_ret
  exact ⟨by rw [HV.out];rfl,rfl⟩
def Qxg (S:Dev) (a:Int) (k:Nat):List Nat:=(List.range k).map fun i:Nat=>Qvc (Qdr S.cache (a+1+(i:Int)))
theorem Qth (S:Dev) (a:Int) (k:Nat):Qxg S a (k+1)=Qxg S a k ++ [Qvc (Qdr S.cache (a+1+(k:Int)))]:=by simp [Qxg,List.range_succ]
theorem Qjd (S:Dev) (a:Int) (k:Nat):(Qxg S a k).length=k:=by simp [Qxg]
def Qjx (S : Dev) (a : Int) (w : World) : Ending → World → Prop := fun e w' => Below w.heap.size w w' ∧
      (((Qa9 S a).code = 0 ∧ ∃ v, e = .returned (.tuple #[v, .int .i64 0]) ∧ w'.ownsRow w.heap.size 3 1 v (Qa9 S a).p.toNat ((Qxg S a (Qa9 S a).p.toNat).map vi)) ∨
       ((Qa9 S a).code = 22 ∧ e = .returned (.tuple #[.slice none 0 0, .int .i64 22])))
theorem Qzj {w:World} {F:Qb0} {S:Dev} (h:Qa7 w F S) (a:Int) :
  Calls Tryz.prog 173 #[Qei F,.int .i64 a] w (Qjx S a w):=by
 generalize hP:Qjx S a w=Post;have HP:=LH hP;clear hP;have HSm:=LH (Qis h.small (a:=a));have HD:=LH h;have HPl:Hid (∀i,Qiy S a i false=if (Qa9 S a).code≠0 then ⟨0,22⟩ else if false=true then (if 0≤i∧i<(Qa9 S a).d then ⟨a+(1+(Qa9 S a).p+i),0⟩ else ⟨0,7⟩) else (if 0≤i∧i<(Qa9 S a).p then ⟨a+(1+i),0⟩ else ⟨0,7⟩)):=LH (fun i=>rfl);clear h;go_enter Tryz.func173,Tryz.ntmps173;go_wp2_with fail;refine (Qn5 HD.out a).mono ?_;rintro e w1 ⟨rfl,hb1⟩;have hC22:=Qvb S a;generalize hX:Qa9 S a=x at *;have HX:=LH hX;clear hX;obtain ⟨p,d,c⟩:=x;unfold Qru.val;dsimp only at HSm HPl hC22 ⊢;have HM:=LH (((Mem.start w).later hb1).alloc #[.int .i64 p,.int .i64 d] 211);clear hb1;go_upto_region 2 with fail;generalize w1.alloc _=w2 at *;generalize w1.heap.size=g at *;have c0:=HM.out.cell 0 0 rfl rfl
 by_cases hc:c=0
 ·subst hc;obtain ⟨ha,⟨hp0,hp1⟩,_⟩:=HSm.out rfl;obtain ⟨n,rfl⟩:=Int.eq_ofNat_of_zero_le hp0;have HPk:Hid (∀k:Nat,k<n→Qiy S a (k:Int) false=⟨a+(1+(k:Int)),0⟩):=LH (fun k hk=>by rw [HPl.out,if_neg (by simp),if_neg (by simp),if_pos (by omega)]);clear hC22 HSm HPl;go_wp2_with fail
  go_loopw [8,23] (fun v i wr=>∃k:Nat,k≤n∧i=.int .i64 k∧wr.ownsRow w2.heap.size 3 1 v k ((Qxg S a k).map vi)∧Below w2.heap.size w2 wr) (fun _ i _=>n-(intOf i).toNat)
  case atStart=>exact ⟨0,Nat.zero_le _,rfl,⟨rfl,.inl ⟨rfl,rfl⟩⟩,Below.refl _ _⟩
  case round =>
   obtain ⟨k,hk,rfl,ho,hb⟩:=hrel;obtain ⟨a1,c1,rfl,hc1,hm1⟩:=Qbe ho;have HO:=LH ho;have HB:=LH hb;clear ho hb
   by_cases hlt:k<n
   ·have hlt':(k:Int)<(n:Int):=by omega
    have HS:=LH (Qth S a k);go_wp2_with fail;refine (Ja3 ((HD.out.below HM.out.below).below HB.out) a k).mono ?_;rw [HPk.out k hlt];rintro e w3 ⟨rfl,hb3⟩;rw [if_pos rfl];dsimp only;rw [show a+(1+(k:Int))=a+1+(k:Int) by omega];generalize Qvc (Qdr S.cache (a+1+(k:Int)))=y at *;have HO3:=LH (Qcc HO.out hb3 NR);have HB3:=LH (HB.out.trans (hb3.mono HB.out.size));have hone:Hid (∀u∈(#[vi y]:Array Value).toList,u.oneCell'=true):=LH (by intro u hu;simp at hu;subst hu;rfl);have hbase:Hid (w2.heap.size≤w3.heap.size):=LH HB3.out.size;have hk9:k<1000000000000:=by omega
    clear hb3 HO HB;go_wp2_with (at_builtin;refine Qbp (us:=#[vi y]) Jdg HO3.out rfl hone.out hk9 (by decide) hbase.out rfl rfl rfl (by simp [Act.eval]) ?_;intro g6 c6 w6 ho6 hg6 hc6 hm6 hb6 hl6;have HO6:=LH ho6;have HG6:=LH hg6;clear ho6 hg6)
    refine ⟨⟨k+1,by omega,Qb2 (by omega),?_,Qav HB3.out HO3.out HG6.out NR NR⟩,by simp [intOf];omega⟩;rw [HS.out];simpa using HO6.out
   ·obtain rfl:k=n:=by omega
    have hlt':decide ((k:Int)<(k:Int))=false:=by simp
    go_wp2_with fail;rw [← HP.out];refine ⟨(HM.out.later HB.out).below,.inl ⟨by rw [HX.out],_,rfl,?_⟩⟩;rw [HX.out];exact Qlg HO.out HM.out.below.size
 ·have hc2:c=22:=hC22.elim (fun h=>absurd h hc) id;subst hc2;clear hc hC22;go_wp2_with fail;rw [← HP.out];exact ⟨HM.out.below,.inr ⟨by rw [HX.out],rfl⟩⟩
def Jhn (e n:Nat) (vs:List Value) (w:World):Ending→World→Prop:=fun r w'=>∃v,r=.returned v∧w'.ownsRow w.heap.size e 1 v n vs∧Below w.heap.size w w'
theorem Qum {w:World} {v:Value} {S:Dev} {m:Nat} (hm:S.dirty.length=m) (h:RAt w v m S.ref) {N:Nat} (hf:S.fit N) (a:Int) :
  Calls Tryz.prog 102 #[v,.int .i64 a] w (Jhn 3 (if (Qa9 S a).code=0 then (Qa9 S a).p.toNat else 0) ((Qxg S a (if (Qa9 S a).code=0 then (Qa9 S a).p.toNat else 0)).map vi) w):=by
 subst hm;obtain ⟨an,cn,al,cl,aw,cw,ad,cd,ap,cp,m,sv,fz,dd,rfl,ho,hdl,hm8,hsv,hfz⟩:=Jat h hf;have HRA:=LH h;have HF:=LH hf;have HSm:=LH (Qis hf.wf.small (a:=a));rw [hdl] at HRA;have HK1:=LH ho.k1;have HCL:=LH ho.cl;obtain ⟨n,hn⟩:∃n,n=if (Qa9 S a).code=0 then (Qa9 S a).p.toNat else 0:=⟨_,rfl⟩
 rw [← hn];generalize hpo:Jhn 3 n ((Qxg S a n).map vi) w=Post;have HDL:=LH hdl;have HN:=LH hn;have HPO:=LH hpo;clear hdl hn hpo;clear h hf ho;have HM:=LH (Mem.one w #[.slice an m cn,.slice al m cl,.slice aw m cw,.slice ad m cd,.slice ap m cp,.int .i64 sv,.int .i64 fz,.bool dd] 38);go_enter Tryz.func102,Tryz.ntmps102;go_upto_region 1 with fail;generalize w.alloc _=w0 at *;go_wp2_with (refine Qag Qbk HM.out 0 rfl rfl rfl rfl rfl ?_)
 refine (Qos HDL.out (HRA.out.below HM.out.below NR) HF.out a).mono ?_;rintro e w1 ⟨rfl,hb1⟩;generalize Qa9 S a=x at *;obtain ⟨p,d,c⟩:=x;unfold Jex;dsimp only at HSm HN ⊢;have HM2:=LH ((HM.out.later hb1).alloc #[.int .i64 p,.int .i64 d] 109);clear hb1 HM
 by_cases hc:c=0
 ·subst hc;obtain ⟨ha,⟨hp0,hp1⟩,_⟩:=HSm.out rfl;have hnp:p=(n:Int):=by have:=HN.out;rw [if_pos rfl] at this;omega
  subst hnp;rw [decide_eq_true (show (0:Int)=0 from rfl)];go_upto_region 2 with fail;generalize w1.alloc _=w2 at *;generalize w1.heap.size=g at *;go_wp2_with fail
  go_loopw [7,8] (fun v i wr=>∃k:Nat,k≤n∧i=.int .i64 k∧wr.ownsRow w2.heap.size 3 1 v k ((Qxg S a k).map vi)∧Below w2.heap.size w2 wr) (fun _ i _=>n-(intOf i).toNat)
  case atStart=>exact ⟨0,Nat.zero_le _,rfl,⟨rfl,.inl ⟨rfl,rfl⟩⟩,Below.refl _ _⟩
  case round =>
   obtain ⟨k,hk,rfl,ho,hb⟩:=hrel;obtain ⟨a1,c1,rfl,hc1,hm1⟩:=Qbe ho;have c0:=(HM2.out.later hb).cell 0 0 rfl rfl;have o0:=(HM2.out.later hb).cell 1 0 rfl rfl;have HO:=LH ho;have HB:=LH hb;clear ho hb
   by_cases hlt:k<n
   ·have hlt':(k:Int)<(n:Int):=by omega
    have HS:=LH (Qth S a k);go_wp2_with fail;refine (Qg8 an m cn S.cache _ (HK1.out.below (HM2.out.later HB.out).below NR) HCL.out (by omega) _).mono ?_;rintro e w3 ⟨rfl,rfl⟩;generalize Qdr S.cache (a+1+(k:Int))=y at *;go_wp2_with fail;refine (Jey y _).mono ?_;rintro e w3 ⟨rfl,rfl⟩;generalize Qvc y=y2 at *;have hone:Hid (∀u∈(#[vi y2]:Array Value).toList,u.oneCell'=true):=LH (by intro u hu;simp at hu;subst hu;rfl);have hbase:Hid (w2.heap.size≤wr.heap.size):=LH HB.out.size;have hk9:k<1000000000000:=by omega
    clear c0 o0;go_wp2_with (at_builtin;refine Qbp (us:=#[vi y2]) Jdg HO.out rfl hone.out hk9 (by decide) hbase.out rfl rfl rfl (by simp [Act.eval]) ?_;intro g6 c6 w6 ho6 hg6 hc6 hm6 hb6 hl6;have HO6:=LH ho6;have HG6:=LH hg6;clear ho6 hg6)
    refine ⟨⟨k+1,by omega,Qb2 (by omega),?_,Qav HB.out HO.out HG6.out NR NR⟩,by simp [intOf];omega⟩;rw [HS.out];simpa using HO6.out
   ·obtain rfl:k=n:=by omega
    have hlt':decide ((k:Int)<(k:Int))=false:=by simp
    go_wp2_with fail;rw [← HPO.out];exact ⟨_,rfl,Qlg HO.out HM2.out.below.size,(HM2.out.later HB.out).below⟩
 ·have hn0:n=0:=by rw [HN.out,if_neg hc]
  subst hn0;rw [decide_eq_false hc];clear hc;go_upto_region 2 with fail;generalize w1.alloc _=w2 at *;generalize w1.heap.size=g at *;go_wp2_with fail
  go_loopw [7,8] (fun v i wr=>v=.slice none 0 0∧i=.int .i64 0∧wr=w2) (fun _ i _=>0)
  case atStart=>exact ⟨rfl,rfl,rfl⟩
  case round =>
   obtain ⟨rfl,rfl,rfl⟩:=hrel;go_wp2_with fail;rw [← HPO.out];exact ⟨_,rfl,⟨rfl,.inl ⟨rfl,rfl⟩⟩,HM2.out.below⟩
end
section
open Go.Maps
end
section
def Qog (S:Dev) (B:Nat):Bm:=⟨S,hds (Qaw S) B,Qg4 (Qd1 (hds (Qaw S) B)) B B⟩
def Ja8 (w:World) (F:Qb0) (S:Dev) (B:Nat):Ending→World→Prop:=fun e w'=>Below w.heap.size w w'∧
  ((Qe3 (Qaw S) B∧Qc9 (hds (Qaw S) B) B 1=0∧∃(X:MF) (n:Nat),e=.returned (.tuple #[.pointer (some ⟨X.m,0,none⟩),.int .i64 0])∧X.F=F∧Qfg w' X n B (Qog S B)∧n≤1000000∧
      (∀k∈X.list,k∈F.list∨w.heap.size≤k))∨
   (Qe3 (Qaw S) B∧Qc9 (hds (Qaw S) B) B 1≠0∧e=.returned (.tuple #[.pointer none,.int .i64 40]))∨
   (¬Qe3 (Qaw S) B∧e=.returned (.tuple #[.pointer none,.int .i64 21])))
theorem Qvk (l:List Hd) (B:Nat) (h:l.length=B):Qe1 (Qub (Qeg l)) (List.replicate B false)=(Qg4 (Qd1 l) B B,0):=by
 unfold Qeg;rw [h];exact Qqh (Qd1 l) B B NR
theorem Jcb {w : World} {F : Qb0} {S : Dev} (h : Qa7 w F S) (B : Nat) (hB1 : 1 ≤ B) (hB : B ≤ 1000) :
    Calls Tryz.prog 69 #[Qei F, Qgk B] w (Ja8 w F S B) := by
  have HM := LH (Mem.one w #[.int .i64 (B : Int)] 44);have HD := LH (h.below HM.out.below);have HMF := LH h.mem;have HNF := LH h.nodup;have HL : Hid ((hds (Qaw S) B).length = B) := LH (Qbs _ _);have HFill := LH (Qvk (hds (Qaw S) B) B HL.out);have HBm : Hid (Qog S B = ⟨S, hds (Qaw S) B, Qg4 (Qd1 (hds (Qaw S) B)) B B⟩) := LH rfl;have HFl : Hid ((Qg4 (Qd1 (hds (Qaw S) B)) B B).length = B) := LH (Qfw _ _ _);have HPE : Hid (Ja8 w F S B = fun e w' => Below w.heap.size w w' ∧
  ((Qe3 (Qaw S) B ∧ Qc9 (hds (Qaw S) B) B 1 = 0 ∧ ∃ (X : MF) (n : Nat), e = .returned (.tuple #[.pointer (some ⟨X.m, 0, none⟩), .int .i64 0]) ∧ X.F = F ∧ Qfg w' X n B (Qog S B) ∧ n ≤ 1000000 ∧
      (∀ k ∈ X.list, k ∈ F.list ∨ w.heap.size ≤ k)) ∨
   (Qe3 (Qaw S) B ∧ Qc9 (hds (Qaw S) B) B 1 ≠ 0 ∧ e = .returned (.tuple #[.pointer none, .int .i64 40])) ∨
   (¬ Qe3 (Qaw S) B ∧ e = .returned (.tuple #[.pointer none, .int .i64 21])))) := LH rfl
  generalize hP : Ja8 w F S B = Post at *;clear h hP;go_enter Tryz.func69, Tryz.ntmps69;go_upto_region 1 with fail;generalize hw0 : w.alloc _ = w0 at *;clear hw0;obtain ⟨q, hq⟩ : ∃ q, q = w.heap.size := ⟨_, rfl⟩
  rw [← hq] at HM ⊢;have HQ := LH hq;clear hq;have c0 := HM.out.cell 0 0 rfl rfl;unfold Qei at *;go_wp2_with fail;refine (Qzk HD.out B hB1 hB).mono ?_;rintro e w1 ⟨hb1, ⟨hok, p, g, cc, rfl, hp, hg, hpg, htab⟩ | ⟨b, hb0, hbB, hok, hbad, rfl⟩⟩
  case inr =>
    have HE : Hid (¬ Qe3 (Qaw S) B) := LH (fun h => hbad (h b hb0 hbB));have HB1 := LH (HM.out.later hb1);clear hok hbad hb1;go_wp2_with fail;rw [HPE.out];exact ⟨HB1.out.below, .inr (.inr ⟨HE.out, rfl⟩)⟩
  have HM1 := LH (HM.out.later hb1);have HD1 := LH (HD.out.below hb1);have HT1 := LH htab;have HOK := LH hok;have HG : Hid (w0.heap.size ≤ p ∧ w0.heap.size ≤ g ∧ p ≠ g) := LH ⟨hp, hg, hpg⟩;have HW0 : Hid (w.heap.size + 1 ≤ w0.heap.size) := LH (by have := HM.out.glt 0 rfl; have := HQ.out; omega);clear hb1 htab hok hp hg hpg c0 HM HD;generalize hds (Qaw S) B = L at *;go_wp2_with fail;refine (Qq6 HT1.out hB).mono ?_;rintro e w2 ⟨a2, k2, rfl, hq2, hk2, hr2, hb2⟩;have HM2 := LH (HM1.out.later hb2);have HD2 := LH (HD1.out.below hb2);have HT2 := LH (HT1.out.keep (hb2.block p HT1.out.lt.1) (hb2.block g HT1.out.lt.2));have HR2 := LH hr2;clear hq2 hk2 hr2 hb2 HM1 HD1 HT1;go_wp2_with fail;refine (Qxq _ B k2 L HL.out w2 HR2.out.cells hB).mono ?_;rintro e w3 ⟨rfl, hb3⟩;rw [HL.out];have HM3 := LH (HM2.out.later hb3);have HD3 := LH (HD2.out.below hb3);have HT3 := LH (HT2.out.keep (hb3.block p HT2.out.lt.1) (hb3.block g HT2.out.lt.2));clear hb3 HM2 HD2 HT2 HR2;obtain ⟨sn, hsn⟩ : ∃ sn, sn = Qc9 L B 1 := ⟨_, rfl⟩
  rw [← hsn] at HPE ⊢;clear hsn
  by_cases hs : sn = 0
  case neg =>
    have hs' : decide (sn = 0) = false := by simpa using hs
    rw [hs'];have HS := LH hs;clear hs hs';go_wp2_with fail;rw [HPE.out];exact ⟨HM3.out.below, .inr (.inl ⟨HOK.out, HS.out, rfl⟩)⟩
  have hs' : decide (sn = 0) = true := by simpa using hs
  rw [hs'];have HS := LH hs;clear hs hs';have c0 := HM3.out.cell 0 0 rfl rfl;go_upto_region 7 with fail;have r0 := fun x => Qab c0 x
  clear c0;refine Qai (C := fun w' => ∃ x : Qbi (w3), w' = x.val) [.fl [0, 1, 2], .sq [3] true, .sq [4, 5] false, .fl [6, 7, 8], .sq [9] false] (by kernel_rfl) (by kernel_rfl) (by intro c a d v w h; cases d <;> exact h) ?_;simp only [Qdj, Qa3, List.getElem?_cons_succ, List.getElem?_cons_zero]
  have hC1 := Qaj (w3);refine Qak hC1 ?_
  repeat (first|go_big_quiet_step (fail)|quiet_step (fail))
  refine wpQuiet_nil ?_;refine Qah (fun K hK => ?_);go_wp2_with fail;refine (Qxw ((HT3.out.keep ((Qae hC1).block p HT3.out.lt.1) ((Qae hC1).block g HT3.out.lt.2)).at HG.out.2.2) (by rw [HL.out]; exact hB)).mono ?_;rintro e w4 ⟨v, rfl, ho4, hb4⟩;have hC2 := Qan hC1 hb4;obtain ⟨a4, c4, rfl, _, hm4⟩ := Qbe ho4;have HC4 : Hid (Qaq w4 a4 (Qrh Op2.cs (Qub (Qeg L)))) := LH (by rw [Jgm]; exact Qaq.owned2 ho4);have HSl : Hid ((Qub (Qeg L)).length = (Qeg L).length) := LH (by simp [Qub]);have HSl2 : Hid ((Qeg L).length ≤ 1000000) := LH (by
    have := Qts (Qd1 L) L.length;unfold Qeg;rw [HL.out] at this ⊢
    omega)
  generalize (Qeg L).length = nl at *;clear ho4 hb4 hm4;go_wp2_with fail;refine hK _ _ (fun _ => hC2) ?_;clear hK K;refine Qah (fun K hK => ?_);go_wp2_with fail;refine (Jcn (B : Int) (by omega) a4 nl c4 (Qub (Qeg L)) HSl.out _ HC4.out HSl2.out).mono ?_;rw [show (B : Int).toNat = B from rfl, HFill.out];rintro e w5 ⟨hb5, ⟨_, T, kk, rfl, hix, hkk, hT⟩ | ⟨hne, _⟩⟩
  case inr => exact absurd rfl hne
  have hC3 := Qan hC2 hb5;have HIx := LH hix;have HTt := LH hT;have HW4 : Hid (w3.heap.size ≤ w4.heap.size) := LH ((Qae hC2).size);clear hix hT hb5 HC4 HSl HSl2;go_wp2_with fail;refine hK _ _ (fun _ => hC3) ?_;clear hK K;refine Qak hC3 ?_
  repeat (first|go_big_quiet_step (fail)|quiet_step (fail))
  refine wpQuiet_nil ?_;have HM5 := LH (HM3.out.later (Qae hC3));have HD5 := LH (HD3.out.below (Qae hC3));have HT5 := LH (HT3.out.keep ((Qae hC3).block p HT3.out.lt.1) ((Qae hC3).block g HT3.out.lt.2));have HFl3 : Hid (∀ k ∈ F.list, k < w.heap.size) := HMF;have HT3l : Hid (p < w3.heap.size ∧ g < w3.heap.size) := LH HT3.out.lt;have c0 := HM5.out.cell 0 0 rfl rfl;clear hC1 hC2 hC3 r0 HM3 HD3 HT3;refine Qal ?_;go_wp2_with fail;rw [HPE.out];have hbx := Qaf w5 (.cells #[.pointer (some ⟨p, 0, none⟩), .pointer (some ⟨T.p, 0, none⟩), .int .i64 (B : Int)] 87);have hTl := HIx.out.mem;have hsz := HW4.out;obtain ⟨hG1, hG2, hG3⟩ := HG.out;have hW0 := HW0.out;have h3 := HT3l.out;have hw05 : w0.heap.size ≤ w5.heap.size := by have := HT5.out.lt; omega
  refine ⟨HM5.out.below.trans (hbx.mono HM5.out.below.size), .inl ⟨HOK.out, HS.out, ⟨w5.heap.size, p, g, cc, F, T⟩, kk, rfl, rfl, ?_, hkk, ?_⟩⟩
  · rw [HBm.out]
    refine ⟨heap_alloc_new _ _, HT5.out.keep (hbx.block p HT5.out.lt.1) (hbx.block g HT5.out.lt.2), HD5.out.below hbx, HIx.out.below hbx, HFl.out, ?_⟩;obtain ⟨M, E, hmp, _⟩ := HIx.out;have e1 := hmp.ne1;have e2 := hmp.ne2;have e3 := hmp.ne3;have t1 := HTt.out T.p (by simp [Tri.list]);have t2 := HTt.out T.s (by simp [Tri.list]);have t3 := HTt.out T.e (by simp [Tri.list]);have l1 := hTl T.p (by simp [Tri.list]);have l2 := hTl T.s (by simp [Tri.list]);have l3 := hTl T.e (by simp [Tri.list]);have lp := HT5.out.lt;have hF : ∀ k, w.heap.size ≤ k → k ∉ F.list := fun k hk hm => by have := HFl3.out k hm; omega
    simp only [MF.list, List.nodup_cons, List.mem_cons, not_or]
    refine ⟨⟨by omega, by omega, by omega, by omega, by omega, hF _ (by omega)⟩, ⟨by omega, by omega, by omega, by omega, hF _ (by omega)⟩, ⟨by omega, e1, e2, hF _ (by omega)⟩, ⟨by omega, by omega, hF _ (by omega)⟩, ⟨e3, hF _ (by omega)⟩, hF _ (by omega), HNF.out⟩
  · intro k hk
    have t1 := HTt.out T.p (by simp [Tri.list]);have t2 := HTt.out T.s (by simp [Tri.list]);have t3 := HTt.out T.e (by simp [Tri.list]);simp only [MF.list, List.mem_cons] at hk
    rcases hk with rfl | rfl | rfl | rfl | rfl | rfl | hk
    · right; omega
    · right; omega
    · right; omega
    · right; omega
    · right; omega
    · right; omega
    · exact .inl hk
section
variable {P:Program} {C:World→Prop} {ops:Array Oper} {rest:List Oper} {o:Oper} {a:Act}
theorem Qbf {Q:Act→Prop} {ty:TypeId} {zs:Array Value} (A:Agg P ty zs) {p:Operand} {g off:Nat} (D:Array Value) (hc:∀w,C w→∀i v,D.toList[i]?=some v→w.cell? ⟨g,off+i,none⟩=some v) (hs:D.size=zs.size)
  (hgd:o.guard=none) (ho:o.op=.load ty p) (hp:a.eval p=.pointer (some ⟨g,off,none⟩))
  (hK:wpQuiet P ops C Q rest (a.put o.dst (.agg D))):wpQuiet P ops C Q (o :: rest) a:=by
 have hw:Region.wanted o (yielded ops a.tmps)=true:=by simp [Region.wanted,hgd]
 unfold wpQuiet;rw [if_pos hw];refine ⟨_,fun w hC=>?_,hK⟩;obtain ⟨d,hu,hd⟩:=A.desc;have hl:(loadCells ⟨g,off,none⟩ D.toList.length).run P w=.ok D.toList.toArray w:=run_loadCells_list (P:=P) w ⟨g,off,none⟩ D.toList (fun j v hv=>by rw [Qe0];exact hc w hC j v hv);rw [Array.length_toList,Array.toArray_toList] at hl;have hagg:(isAgg ty).run P w=.ok true w:=by
  unfold isAgg;rw [Sem.run_bind,run_underlying hu w]
  cases d <;> simp_all
 have hsz:=A.size;have hr:(loadVar ty ⟨g,off,none⟩).run P w=.ok (.agg D) w:=by
  cases hq:P.info? ty with
  | none=>simp [hq] at hsz
  | some inf =>
   have e:inf.size=D.size:=by simp [hq] at hsz;rw [hsz,hs]
   simp [loadVar,hagg,sizeOf,typeInfo,hq,e,hl]
 have hr2:(Instr.loadAt ty (.pointer (some ⟨g,off,none⟩))).run P w=.ok (.agg D) w:=by
  simp only [Instr.loadAt,Instr.sureAddr,Sem.run_bind,Sem.run_pure,Result.andThen]
  exact hr
 unfold Oper.quietAt;simp only [execOp,ho,hp]
 simp only [Sem.run_bind,hr2,Result.andThen,Sem.run_pure,Oper.quietUpon,and_self]
theorem Qk2 {Q:Act→Prop} {ty:TypeId} {zs:Array Value} (A:Agg P ty zs) {p:Operand} {g off:Nat} (D:Array Value) (hc:∀w,C w→∀i v,D.toList[i]?=some v→w.cell? ⟨g,off+i,none⟩=some v) (hs:D.size=zs.size)
  (hw:Region.wanted o (yielded ops a.tmps)=true) (ho:o.op=.load ty p) (hp:a.eval p=.pointer (some ⟨g,off,none⟩))
  (hK:wpQuiet P ops C Q rest (a.put o.dst (.agg D))):wpQuiet P ops C Q (o :: rest) a:=by
 unfold wpQuiet;rw [if_pos hw];refine ⟨_,fun w hC=>?_,hK⟩;obtain ⟨d,hu,hd⟩:=A.desc;have hl:(loadCells ⟨g,off,none⟩ D.toList.length).run P w=.ok D.toList.toArray w:=run_loadCells_list (P:=P) w ⟨g,off,none⟩ D.toList (fun j v hv=>by rw [Qe0];exact hc w hC j v hv);rw [Array.length_toList,Array.toArray_toList] at hl;have hagg:(isAgg ty).run P w=.ok true w:=by
  unfold isAgg;rw [Sem.run_bind,run_underlying hu w]
  cases d <;> simp_all
 have hsz:=A.size;have hr:(loadVar ty ⟨g,off,none⟩).run P w=.ok (.agg D) w:=by
  cases hq:P.info? ty with
  | none=>simp [hq] at hsz
  | some inf =>
   have e:inf.size=D.size:=by simp [hq] at hsz;rw [hsz,hs]
   simp [loadVar,hagg,sizeOf,typeInfo,hq,e,hl]
 have hr2:(Instr.loadAt ty (.pointer (some ⟨g,off,none⟩))).run P w=.ok (.agg D) w:=by
  simp only [Instr.loadAt,Instr.sureAddr,Sem.run_bind,Sem.run_pure,Result.andThen]
  exact hr
 unfold Oper.quietAt;simp only [execOp,ho,hp]
 simp only [Sem.run_bind,hr2,Result.andThen,Sem.run_pure,Oper.quietUpon,and_self]
variable {Q:Exit→Act→World→Prop} {w W:World} {L:List Ent}
theorem Qig {ty:TypeId} {zs:Array Value} (A:Agg P ty zs) {p:Operand} {g off:Nat} (D:Array Value) (hc:∀i v,D.toList[i]?=some v→W.cell? ⟨g,off+i,none⟩=some v) (hs:D.size=zs.size)
  (hgd:o.guard=none) (ho:o.op=.load ty p) (hp:a.eval p=.pointer (some ⟨g,off,none⟩))
  (hK:wpList P ops Q rest (a.put o.dst (.agg D)) W):wpList P ops Q (o :: rest) a W :=
 Qcf A D.toList hc (by simpa using hs) hgd ho hp (by simpa using hK)
theorem Qo0 (hw:Region.wanted o (yielded ops a.tmps)=true) (h:wpList P ops Q ({ o with guard:=none } :: rest) a W):wpList P ops Q (o :: rest) a W:=by
 unfold wpList at h ⊢;rw [if_pos (by rfl)] at h;rw [if_pos hw];exact h
theorem Qbn {ty:TypeId} {zs:Array Value} (A:Agg P ty zs) (h:Mem w W L) (k:Nat) {p:Operand} {g e:Nat} {D:Array Value} {ex:Bool} (hk:L[k]?=some ⟨g,e,D.toList,ex⟩) (hs:D.size=zs.size)
  (hgd:o.guard=none) (ho:o.op=.load ty p) (hp:a.eval p=.pointer (some ⟨g,0,none⟩))
  (hK:wpList P ops Q rest (a.put o.dst (.agg D)) W):wpList P ops Q (o :: rest) a W :=
 Qig A D (fun i v hi=>by rw [Nat.zero_add];exact h.cell k i hk hi) hs hgd ho hp hK
end
theorem RAt.arr {w:World} {D:Array Value} {m:Nat} {R:Jds} (h:RAt w (.agg D) m R):D.size=8∧D.toList.all (·.oneCell')=true:=by
 obtain ⟨an,cn,al,cl,aw,cw,ad,cd,ap,cp,he,_⟩:=h.ex
 cases he
 exact ⟨rfl,rfl⟩
theorem RAt.agg {w:World} {v:Value} {m:Nat} {R:Jds} (h:RAt w v m R):∃D,v=.agg D:=by
 obtain ⟨an,cn,al,cl,aw,cw,ad,cd,ap,cp,he,_⟩:=h.ex;exact ⟨_,he⟩
theorem RAt.oldp {w:World} {v:Value} {m:Nat} {R:Jds} (h:RAt w v m R) (hm:0<m):∀b,RIn v b→b<w.heap.size:=by
 rcases h.old with h | h
 ·omega
 ·exact h
end
section
open Go.Lib
def Jij (n:Int):Prop:=-9223372036854775808≤n∧n<9223372036854775808
def over (n d:Int):Bool:=decide (n > 922337203685477580) || decide (n < -922337203685477580) || (decide (n=922337203685477580) && decide (d > 7)) || (decide (n = -922337203685477580) && decide (d < -8))
end
section
open Go.Lib (decDigits itoa nDigits)
def Qjt (v:Value) (w:World):Ending→World→Prop:=fun e w'=>e=.returned v∧Below w.heap.size w w'
theorem AF.hot_list {A:AF} {k:Nat} (h:k∈A.hot):k∈A.list:=by
 simp only [AF.hot,AF.list,AF.fix,List.mem_append,List.mem_cons] at h ⊢
 rcases h with h | h | h
 ·exact .inl (.inr (.inl (MF.hot_sub h)))
 ·exact .inl (.inr (.inr h))
 ·exact .inr h
theorem AF.re_list {A:AF} {R:List Nat} {k:Nat} (h:k∈(A.re R).list):k∈A.list∨k∈R:=by
 simp only [AF.re,AF.list,AF.fix,List.mem_append,List.mem_cons] at h ⊢
 rcases h with h | h
 ·exact .inl (.inl h)
 ·exact .inr h
def Jgp (S:Dev):Dev:=Qa8 S.cache S.dirty.length
theorem Jdu {S:Dev} (h:S.wf) (N:Nat):(Jgp S).fit N :=
 ⟨⟨rfl,by simp [Jgp,Qa8],by simp [Jgp,Qa8],by simp [Jgp,Qa8,h.lenD],h.small,h.u64C,h.u64C,fun z hz=>by simp [Jgp,Qa8] at hz;omega⟩,Qqr _ _ _,fun h=>by cases h⟩
section
variable {B:Nat} {m m':Al} {xs:List Nat}
theorem Qhr {l:List Nat} (h:l.Nodup) (a:Nat):l.count a≤1:=List.nodup_iff_count.1 h a
theorem Qyg {p d:Int} (h:Qap p d≠0):(Qap p d:Int)=1+p+d:=by
 unfold Qap at h ⊢
 split
 ·next c=>rw [if_pos c] at h;exact absurd rfl h
 ·omega
end
section
variable {w wr w':World} {Q:List Nat} {A:AF} {n n' B N N':Nat} {m m':Al} {v v':Value} {xs xs':List Nat}
end
end
section
open Go.Shelf
attribute [local go_sem] Oper.semAt_some
theorem Qph {l:List Bool} {a:Nat} : Qmm l a=match Qes l a with | some i=>i :: Qmm l (i+1) | none=>[]:=by
 cases h:Qes l a with
 | none=>exact Qxd h
 | some i=>exact Qxc h
def Qd2 (l:List Bool) (pre:List Nat) (o:Option Nat):Prop:=Qey l=pre ++ (match o with | some i=>i :: Qmm l (i+1) | none=>[])
theorem Qd2.start (l:List Bool):Qd2 l [] (Qes l 0):=by unfold Qd2;rw [List.nil_append,← Qy7];exact Qph
theorem Qd2.next {l:List Bool} {pre:List Nat} {i:Nat} (h:Qd2 l pre (some i)):Qd2 l (pre ++ [i]) (Qes l (i+1)):=by
 unfold Qd2 at h ⊢;rw [h,← Qph];simp
theorem Qd2.done {l:List Bool} {pre:List Nat} (h:Qd2 l pre none):pre=Qey l:=by unfold Qd2 at h;simpa using h.symm
theorem Qd2.lt {l:List Bool} {pre:List Nat} {i:Nat} (h:Qd2 l pre (some i)):pre.length<(Qey l).length:=by unfold Qd2 at h;rw [h];simp
theorem Qd2.pre {l:List Bool} {pre:List Nat} {i:Nat} (h:Qd2 l pre (some i)):pre ++ [i] <+: Qey l:=by unfold Qd2 at h;rw [h];exact ⟨Qmm l (i+1),by simp⟩
theorem Qd2.in_ {l:List Bool} {pre:List Nat} {i:Nat} (h:Qd2 l pre (some i)):i<l.length:=by
 have:i∈Qey l:=by unfold Qd2 at h;rw [h];simp
 unfold Qey at this;exact List.mem_range.1 (List.mem_filter.1 this).1
theorem Qw8 (o:Option Nat):Jaw o=.tuple #[.int .i64 ((o.getD 0:Nat):Int),.bool o.isSome]:=by cases o <;> rfl
def Jbp (n:Nat) (v b:Value):Nat:=match b with
 | .bool true=>n+1-(intOf v).toNat
 | _=>0
theorem Qym {l:List Bool} {pre:List Nat} {i:Nat} (h:Qd2 l pre (some i)):Jbp l.length (.int .i64 (((Qes l (i+1)).getD 0:Nat):Int)) (.bool (Qes l (i+1)).isSome)<Jbp l.length (.int .i64 (i:Int)) (.bool true):=by
 have hi:=h.in_
 cases ho:Qes l (i+1) with
 | none=>simp [Jbp,intOf];omega
 | some j =>
  have:=Qwd ho;simp [Jbp,intOf];omega
def KpB (n₀ Bn:Nat) (A B:World):Prop:=Below n₀ A B∧B.heap[Bn]?=A.heap[Bn]?
theorem KpB.trans {n₀ Bn:Nat} {A B C:World} (h:KpB n₀ Bn A B) (k:KpB n₀ Bn B C):KpB n₀ Bn A C:=⟨h.1.trans k.1,k.2.trans h.2⟩
theorem KpB.book {n₀ Bn:Nat} {w:World} (hn:n₀≤w.heap.size) (hB:Bn<w.heap.size) (W:World) (l:Nat) (o o':Obj) (hl:w.heap.size≤l) (h:W.heap[l]?=some o) (h1:o.isCells=false) (h2:o.isWalk=false):KpB n₀ Bn W (W.putObj l o') :=
 ⟨belowK_b hn W l o o' hl h h1 h2,World.putObj_heap_other (by omega)⟩
theorem Jd0 {X : Qgo} {l : List Bool} (n : Nat) (hn : 1 ≤ n) (lp Bn n₀ : Nat) (J Jx : List Nat → World → Prop)
  (hY : ∀ pre (x : Nat) W, J pre W → pre.length < (Qey l).length → YieldAt Fence.wide (n - 1) Tryz.prog lp #[.int .i64 (x : Int)] W fun e W' =>
   (e = .returned (.bool true) ∧ J (pre ++ [x]) W' ∧ KpB n₀ Bn W W') ∨ (e = .returned (.bool false) ∧ Jx (pre ++ [x]) W'))
  (W : World) (hBn : Boxed W Bn 74 (Qk6 X)) (hS : Qez W X l) (hX : ∀ k ∈ X.list, k < n₀) (h0 : J [] W) :
  CallsIn Fence.wide n Tryz.prog 165 #[.func (.yield lp) #[] #[], .pointer (some ⟨Bn, 0, none⟩)] W fun e W' => (∃ v, e = .returned v) ∧
   ((∃ ys, ys = Qey l ∧ J ys W') ∨ (∃ pre, pre <+: Qey l ∧ Jx pre W')) := by
 have HS := LH hS;refine callsIn_of_wp Tryz.func165 rfl trivial ?_ rfl;simp only [Tryz.ntmps165, List.size_toArray, List.length_cons, List.length_nil, Nat.reduceAdd, Nat.reduceSub, Array.replicate_succ, Array.replicate_zero, List.push_toArray, List.append_toArray, List.nil_append, List.cons_append]
 have HN0 := LH (Qsv hS 0);rw [show (0 : Int).toNat = 0 from rfl, Qw8] at HN0;have HC0 := LH (Qd2.start l);generalize Qes l 0 = o0 at *;have hc0 := hBn.cell;clear hS
 gi_wp2_with (refine ⟨trivial, ?_⟩; gi_at_call 166; refine (callsIn_wide.2 HN0.out).mono ?_; rintro e w1 ⟨rfl, rfl⟩)
 gi_loopw [3, 4] (fun v b wr => ∃ (pre : List Nat) (o : Option Nat), v = .int .i64 ((o.getD 0 : Nat) : Int) ∧ b = .bool o.isSome ∧ Hid (Qd2 l pre o) ∧ Hid (Qez wr X l) ∧ Boxed wr Bn 74 (Qk6 X) ∧ J pre wr) (fun v b _ => Jbp l.length v b)
 case atStart => exact ⟨[], o0, rfl, rfl, HC0, HS, hBn, h0⟩
 case round =>
  clear HN0 hBn h0 HS HC0 hc0;obtain ⟨pre, o, rfl, rfl, HC, HS, hBn, hJ⟩ := hrel
  cases o with
  | none =>
   simp only [Option.isSome_none, Option.getD_none]
   gi_wp2
   go_end0
   exact ⟨⟨_, rfl⟩, .inl ⟨pre, HC.out.done, hJ⟩⟩
  | some i =>
   simp only [Option.isSome_some, Option.getD_some]
   obtain ⟨fn, tmps, assign, body, hy, hR⟩ := hY pre i wr hJ HC.out.lt
   gi_wp2
   refine hR.mono ?_;rintro e W3 (⟨rfl, hJ3, hk3⟩ | ⟨rfl, hJx3⟩)
   ·have hBn3 : Boxed W3 Bn 74 (Qk6 X) := hk3.2.trans hBn;have hc3 := hBn3.cell;have HS3 := LH (HS.out.keep (fun k hk => hk3.1.block k (hX k hk)));have HN := LH (Qsv HS3.out ((i : Int) + 1));rw [show ((i : Int) + 1).toNat = i + 1 by omega, Qw8] at HN;have HL := LH (Qym HC.out);have HC3 := LH HC.out.next;have hil := HC.out.in_;have hls := HS.out.small;clear hk3 hy hR;generalize Qes l (i + 1) = o at *
    gi_wp2_with (refine ⟨trivial, ?_⟩; gi_at_call 166; refine (callsIn_wide.2 HN.out).mono ?_; rintro e w1 ⟨rfl, rfl⟩)
    go_roundw
    case rel => exact ⟨pre ++ [i], o, rfl, rfl, HC3, HS3, hBn3, hJ3⟩
    case measure => exact HL.out
   ·gi_wp2
    refine bodyPost_ret (results_none rfl _ _ _) rfl ?_;exact ⟨⟨_, rfl⟩, .inr ⟨pre ++ [i], HC.out.pre, hJx3⟩⟩
theorem Jfp (X:Qgo) (n:Nat) (w:World) :
  CallsIn Fence.wide n Tryz.prog 123 #[Qk6 X] w fun e w'=>e=.returned (.func (.func 165) #[] #[.pointer (some ⟨w.heap.size,0,none⟩)])∧w'=w.alloc (.cells #[Qk6 X] 74):=by
 refine callsIn_of_wp Tryz.func123 rfl trivial ?_ rfl;simp only [Tryz.ntmps123,List.size_toArray,List.length_cons,List.length_nil,Nat.reduceAdd,Nat.reduceSub,Array.replicate_succ,Array.replicate_zero,List.push_toArray,List.append_toArray,List.nil_append,List.cons_append]
 gi_wp2
 go_ret
 exact ⟨rfl,rfl⟩
theorem Qx8 {X:Qgo} {l:List Bool} (n:Nat) (hn:1≤n) (Bn n₀:Nat) (w:World) (hn₀:n₀≤w.heap.size) (hc:Boxed w Bn 74 (Qk6 X)) (hS:Qez w X l) (hX:∀k∈X.list,k<n₀) :
  SeqStopsK Fence.wide n Tryz.prog 165 #[.pointer (some ⟨Bn,0,none⟩)] (fun x:Nat=>#[Value.int .i64 (x:Int)]) (KpB n₀ Bn) (fun ys=>ys=Qey l) (fun pre=>pre <+: Qey l) (Qey l).length w:=fun lp J Jx W hW _ _ hY h0 =>
 Jd0 n hn lp Bn n₀ J Jx hY W ((hW.block Bn hc.lt).trans hc) (hS.below hW) hX h0
theorem Jgq:(Tryz.prog.info? 3).map (fun i=>(i.zero,i.size,i.bytes))=some (some (.int .i64 0),1,8):=by kernel_rfl
def Qhp (w:World) (xs:List Nat):Ending→World→Prop:=fun e w'=>∃v,e=.returned v∧w'.ownsRow w.heap.size 3 1 v xs.length (xs.map vi)∧(v=.slice none 0 0↔xs=[])∧Below w.heap.size w w'
theorem Jak {w:World} {X:Qgo} {l:List Bool} (h:Qez w X l):Calls Tryz.prog 74 #[Qk6 X] w (Qhp w (Qey l)):=by
 have hlen:(Qey l).length≤1000000:=by rw [Qse];exact Nat.le_trans (Qlw l) h.small
 obtain ⟨i0,hi,hz0,hz1,hz2⟩:=info_parts Jgq;refine (callsIn_wide (n:=5)).1 ?_;refine callsIn_of_wp_marks Tryz.func74 rfl trivial ?_ rfl;simp only [Tryz.ntmps74,List.size_toArray,List.length_cons,List.length_nil,Nat.reduceAdd,Nat.reduceSub,Array.replicate_succ,Array.replicate_zero,List.push_toArray,List.append_toArray,List.nil_append,List.cons_append]
 gi_wp2_with (refine ⟨trivial,?_⟩;gi_at_call 123;refine (Jfp X _ _).mono ?_;rintro e w' ⟨rfl,rfl⟩)
 have bO:=Boxed.new w 47 (.slice none 0 0);have bN:=Boxed.new (w.alloc (.cells #[.slice none 0 0] 47)) 74 (Qk6 X);rw [World.size_alloc] at bN;have hB0:Below w.heap.size w ((w.alloc (.cells #[.slice none 0 0] 47)).alloc (.cells #[Qk6 X] 74)):=((Below.refl _ w).alloc NR _).alloc (by simp) _;refine wpIn_rangeFunc_ownG rfl (by omega) (gf:=165) (lb:=#[.pointer (some ⟨w.heap.size+1,0,none⟩)]) rfl trivial (enters_of Tryz.func165 (by kernel_rfl) rfl)
  (Qx8 4 (by omega) (w.heap.size+1) w.heap.size _ (by simp;omega) bN (h.below hB0) h.mem) KpB.trans (KpB.book (by simp;omega) (by simp)) (Below.refl _ _) (fun _=>rfl)
  (fun pre W=>(∃v,Boxed W w.heap.size 47 v∧W.ownsRow w.heap.size 3 1 v pre.length (pre.map vi)∧(v=.slice none 0 0↔pre=[]))∧Boxed W (w.heap.size+1) 74 (Qk6 X)∧Below w.heap.size w W)
  (fun _ _ _=>False)
  (OwnFrom.and (Own.from (holdsRow_own w.heap.size w.heap.size 47 3 1 (fun pre:List Nat=>pre.length) (fun pre=>pre.map vi) (fun pre v=>v=.slice none 0 0↔pre=[])) _) (OwnFrom.and (Own.from (boxed_own _ _ _) _) (ownFrom_below NR (by simp;omega))))
  (fun _ _ _ _ _ hs _ _=>hs)
  ⟨⟨_,bO.alloc _,World.ownsRow_nil _ _ _ _,by simp⟩,bN,hB0⟩
  (fun x=>{ tmps:=#[Qk6 X,undef,.slice none 0 0,.pointer (some ⟨w.heap.size,0,none⟩),.int .i64 (x:Int),Qk6 X,.func (.func 165) #[] #[.pointer (some ⟨w.heap.size+1,0,none⟩)],.int .i64 (x:Int),undef,undef,undef,undef,undef],defers:=[] }) ?assign ?body ?done ?stop
 case assign =>
  intro l x W K hK
  gi_wp2
  exact hK
 case body =>
  rintro l' pre x W ⟨⟨v,hv,hrow,hnil⟩,hX,hB⟩ hlt;have hc:=hv.cell
  gi_wp2_with (gi_at_builtin;refine wpListIn_append_own _ rfl _ _ 47 rfl w.heap.size 3 i0 (.int .i64 0) 1 8 Tryz.underlying47 hi hz0 hz1 hz2 rfl (by decide) _ _ _ rfl (hrow.alloc _) ⟨W.heap.size,0,none⟩ 1 1 [.int .i64 (x:Int)] rfl rfl (cell_one_new _ _ _) (by simp [Value.oneCell']) (by have:maxLen=9223372036854775807:=rfl;omega) (by omega) (by have:=hB.size;simp;omega) ?_;intro v' w1 hown' hgrow _;obtain ⟨g',cap',rfl⟩:=ownsRow_succ hown';obtain ⟨hv1,hv2,hr2,hk2,hb2⟩:=hv.appended (by decide) hrow hB.size NR hown' hgrow;have hc1:=hv1.cell;have hf1:=hv1.frozen)
  have hX2:=Boxed.other ((hX.alloc _).kept hgrow (hX.not_row (by decide) hrow)) (show w.heap.size+1≠w.heap.size by omega) (Value.slice (some ⟨g',0,none⟩) (pre.length+1) cap');exact ⟨hk2.from _,⟨hb2,hX2.trans hX.symm⟩,⟨_,hv2,by simpa using hr2,by simp⟩,hX2,hB.trans hb2⟩
 case done =>
  rintro D ys W hD rfl ⟨⟨v,hv,hrow,hnil⟩,_,hB⟩ hK;have hc:=hv.cell
  gi_wp2
  refine ⟨by simp,.inl ⟨_,_,rfl,run_takeDeferred hK,?_⟩⟩;exact ⟨_,results_tmp rfl _ _ _,v,rfl,ownsRow_putObj hrow _ hK rfl,hnil,hB.trans (belowK_b (w:=w) NR W D _ _ (by simp at hD;omega) hK rfl rfl)⟩
 case stop =>
  rintro D c pre W _ _ h _;exact h.elim
end
section
theorem Qtu {w:World} {A:AF} {n B:Nat} {m:Al} (h:Qfy w A n B m) :
  Calls Tryz.prog 27 #[Qeb A] w (Qhp w (Qey m.used)):=by
 have c3:=h.c3;have HS:=LH h.set;have HP:Hid (∀e w',Qhp w (Qey m.used) e w'→Qhp w (Qey m.used) e w'):=LH (fun _ _ h=>h);generalize hP:Qhp w (Qey m.used)=Post at *;clear h;go_enter Tryz.func27,Tryz.ntmps27;go_wp2_with fail;refine (Jak HS.out).mono ?_;rw [hP];rintro e w1 hp;have HPp:=LH hp;rw [← hP] at hp;obtain ⟨v,rfl,_⟩:=hp;clear hP;go_wp2_with fail;exact HPp.out
theorem Qhp.own {w w':World} {xs:List Nat} {e:Ending} (h:Qhp w xs e w'):∃a c,e=.returned (.slice a xs.length c)∧Qaq w' a (xs.map vi)∧Below w.heap.size w w'∧(∀b o s,a=some ⟨b,o,s⟩→w.heap.size≤b):=by
 obtain ⟨v,rfl,ho,_,hb⟩:=h;obtain ⟨a,c,rfl,_⟩:=Qbe ho;exact ⟨a,c,rfl,Qaq.owned ho,hb,fun b o s e=>by subst e;exact Qej ho _ rfl⟩
structure MkF where
 p:Nat
 X:Qgo
 Y:Qgo
 s:Nat
 v:Value
section
variable {w w':World} {A:AF} {K:MkF} {M:Mk}
end
section
variable {w w0 w1 w':World} {A:AF} {n B:Nat} {m:Al} {K:MkF} {M M':Mk}
end
section
variable {w:World} {A:AF} {K:MkF} {M:Mk}
end
section
variable {w:World} {A:AF} {n B:Nat} {m:Al} {K:MkF} {M:Mk}
end
end
section
section
variable {U:List Bool} {P:Nat→List Nat} {M:Mk}
section
variable {b:Bool} {M':Mk}
end
end
end
section
theorem Qaq.touchL {w w':World} {a:Option Addr} {vs:List Value} {L:List Nat} (h:Qaq w a vs) (ht:Qam L w w') (hne:∀x,a=some x→x.block<w.heap.size→x.block∉L):Qaq w' a vs:=by
 rcases h with h | ⟨b,off,rfl,h⟩
 ·exact .inl h
 ·exact .inr ⟨b,off,rfl,fun i v hi=>Qcd ht (show (⟨b,off+i,none⟩:Addr).block∉L from hne ⟨b,off,none⟩ rfl (show b<w.heap.size from World.block_lt_of_cell? w ⟨b,off+i,none⟩ (h i v hi))) (h i v hi)⟩
def Qjr (S:Dev) (a:Int):List Nat:=if (Qa9 S a).code=0 then Qxg S a (Qa9 S a).p.toNat else []
theorem Qjx.out {S:Dev} {a:Int} {w w':World} {e:Ending} (h:Qjx S a w e w'):∃av cp ec,e=.returned (.tuple #[.slice av (Qjr S a).length cp,.int .i64 ec])∧ec=(Qa9 S a).code∧Qaq w' av ((Qjr S a).map vi)∧(∀x,av=some x→w.heap.size≤x.block)∧Below w.heap.size w w':=by
 obtain ⟨hb,h⟩:=h;rcases h with ⟨h0,v,rfl,ho⟩|⟨h0,rfl⟩
 ·have e0:Qjr S a=Qxg S a (Qa9 S a).p.toNat:=by unfold Qjr;rw [if_pos h0]
  obtain ⟨av,cp,rfl,_,_⟩:=Qbe ho;rw [e0,Qjd];exact ⟨av,cp,_,rfl,h0.symm,Qaq.owned ho,Qej ho,hb⟩
 ·have e0:Qjr S a=[]:=by unfold Qjr;rw [if_neg (by rw [h0];decide)]
  rw [e0];exact ⟨none,0,_,rfl,h0.symm,Qaq.nil _ _,fun x hx=>(by cases hx),hb⟩
theorem Qs7 {S:Dev} (hs:S.cache.length≤1000000) (a:Int):(Qjr S a).length≤64:=by
 unfold Qjr
 split
 ·next h =>
  rw [Qjd];have:=Qis hs (a:=a) h;omega
 ·simp
section
variable {w:World} {A:AF} {n B:Nat} {m:Al} {K:MkF} {M:Mk}
end
end
section
open Go.Maps Go.ChangeMaps
structure TF where
 g:Nat
 ms:Nat
 mb:Nat
def Qze (F:Qb0) (B:Nat) (a:Option Addr) (cap:Nat) (T:TF) (v:Value):Array Value:=#[Qei F,.int .i64 (B:Int),.slice a B cap,.map (some T.ms),v,.map (some T.mb)]
structure Qf4 (w0 w:World) (F:Qb0) (B:Nat) (a:Option Addr) (cap:Nat) (T:TF) (n:Nat) (seen opn:List Nat) (bad:Bool) (v:Value):Prop where
 org:Below w0.heap.size w0 w
 head:w.heap[T.g]?=some (.cells (Qze F B a cap T v) 250 (0,0))
 own:Qcs w v opn
 row:∀b,Qbc v=some b→w0.heap.size≤b∧b≠T.g∧b≠T.ms∧b≠T.mb
 seen:Qm1 Tryz.prog 3 w T.ms n (Qj1 seen)
 bad:Qho Tryz.prog 252 w T.mb n bad
 g0:w0.heap.size≤T.g
 s0:w0.heap.size≤T.ms
 b0:w0.heap.size≤T.mb
 gs:T.g≠T.ms
 gb:T.g≠T.mb
 sb:T.ms≠T.mb
section
variable {w0 w w':World} {F:Qb0} {B:Nat} {a:Option Addr} {cap:Nat} {T:TF} {n:Nat} {seen opn:List Nat} {bad:Bool} {v:Value}
theorem Qbu {w:World} {g:Nat} {x:Obj} (h:w.heap[g]?=some x):g<w.heap.size:=(Array.getElem?_eq_some_iff.1 h).1
theorem Qf4.later (h:Qf4 w0 w F B a cap T n seen opn bad v) (hb:Below w.heap.size w w'):Qf4 w0 w' F B a cap T n seen opn bad v :=
 ⟨h.org.trans (hb.mono h.org.size),(hb.block _ (Qbu h.head)).trans h.head,h.own.keep (fun b hb'=>hb.block b (h.own.lt b hb')),h.row,h.seen.block (hb.block _ h.seen.lt),h.bad.block (hb.block _ h.bad.lt),h.g0,h.s0,h.b0,h.gs,h.gb,h.sb⟩
theorem Qf4.mono {n':Nat} (h:Qf4 w0 w F B a cap T n seen opn bad v) (hn:n≤n'):Qf4 w0 w F B a cap T n' seen opn bad v :=
 ⟨h.org,h.head,h.own,h.row,h.seen.mono hn,h.bad.mono hn,h.g0,h.s0,h.b0,h.gs,h.gb,h.sb⟩
theorem Qw3 {b:Nat} (h:Below w0.heap.size w0 w) (hg:w.grownBy w' (some b)) (hb:w0.heap.size≤b):Below w0.heap.size w0 w' :=
 ⟨hg.os.trans h.os,hg.tape.trans h.tape,hg.output.trans h.output,Nat.le_trans h.size hg.size,fun k hk=>(hg.block k (Nat.lt_of_lt_of_le hk h.size) (fun e=>by injection e with e;omega)).trans (h.block k hk)⟩
theorem Qf4.seenPut (h:Qf4 w0 w F B a cap T n seen opn bad v) {seen':List Nat} (hg:w.grownBy w' (some T.ms)) (hv:Qm1 Tryz.prog 3 w' T.ms (n+1) (Qj1 seen')):Qf4 w0 w' F B a cap T (n+1) seen' opn bad v:=by
 have hk:∀k,k<w.heap.size→k≠T.ms→w'.heap[k]?=w.heap[k]?:=fun k h1 h2=>hg.block k h1 (fun e=>h2 (by injection e))
 exact ⟨Qw3 h.org hg h.s0,(hk _ (Qbu h.head) h.gs).trans h.head,h.own.keep (fun b hb=>hk b (h.own.lt b hb) (h.row b hb).2.2.1),h.row,hv,(h.bad.block (hk _ h.bad.lt h.sb.symm)).mono (by omega),h.g0,h.s0,h.b0,h.gs,h.gb,h.sb⟩
theorem Qf4.badPut (h:Qf4 w0 w F B a cap T n seen opn bad v) (hg:w.grownBy w' (some T.mb)) (hv:Qho Tryz.prog 252 w' T.mb (n+1) true):Qf4 w0 w' F B a cap T (n+1) seen opn true v:=by
 have hk:∀k,k<w.heap.size→k≠T.mb→w'.heap[k]?=w.heap[k]?:=fun k h1 h2=>hg.block k h1 (fun e=>h2 (by injection e))
 exact ⟨Qw3 h.org hg h.b0,(hk _ (Qbu h.head) h.gb).trans h.head,h.own.keep (fun b hb=>hk b (h.own.lt b hb) (h.row b hb).2.2.2),h.row,(h.seen.block (hk _ h.seen.lt h.sb)).mono (by omega),hv,h.g0,h.s0,h.b0,h.gs,h.gb,h.sb⟩
theorem Qf4.openPut (h:Qf4 w0 w F B a cap T n seen opn bad v) {opn':List Nat} {v':Value} (hg:w.grownBy w' (Qbc v)) (ho:Qcs w' v' opn') (hr:∀b,Qbc v'=some b→Qbc v=some b∨w.heap.size≤b) :
  Qf4 w0 (w'.setCell ⟨T.g,4,none⟩ v') F B a cap T n seen opn' bad v':=by
 have hk:∀k,k<w.heap.size→Qbc v≠some k→w'.heap[k]?=w.heap[k]?:=fun k h1 h2=>hg.block k h1 (fun e=>h2 e.symm)
 have hrow:∀b,Qbc v'=some b→w0.heap.size≤b∧b≠T.g∧b≠T.ms∧b≠T.mb:=fun b hb=>by
  rcases hr b hb with c | c
  ·exact h.row b c
  ·have h1:=Qbu h.head;have h2:=h.seen.lt;have h3:=h.bad.lt;have:=h.org.size;exact ⟨by omega,by omega,by omega,by omega⟩
 have hs:∀k,k≠T.g→(w'.setCell ⟨T.g,4,none⟩ v').heap[k]?=w'.heap[k]?:=fun k hk=>heap_setCell_other w' _ _ _ hk
 have hh:w'.heap[T.g]?=some (.cells (Qze F B a cap T v) 250 (0,0)):=(hk _ (Qbu h.head) (fun e=>(h.row _ e).2.1 rfl)).trans h.head;have horg:Below w0.heap.size w0 w':=⟨hg.os.trans h.org.os,hg.tape.trans h.org.tape,hg.output.trans h.org.output,Nat.le_trans h.org.size hg.size,fun k h1=>(hk k (Nat.lt_of_lt_of_le h1 h.org.size) (fun e=>by have:=(h.row _ e).1;omega)).trans (h.org.block k h1)⟩
 refine ⟨Below.setCell horg h.g0 _,?_,ho.keep (fun b hb=>hs b (hrow b hb).2.1),hrow,?_,?_,h.g0,h.s0,h.b0,h.gs,h.gb,h.sb⟩
 ·exact heap_setCell_same _ _ _ _ _ _ hh
 ·exact (h.seen.block (hk _ h.seen.lt (fun e=>(h.row _ e).2.2.1 rfl))).block (hs _ h.gs.symm)
 ·exact (h.bad.block (hk _ h.bad.lt (fun e=>(h.row _ e).2.2.2 rfl))).block (hs _ h.gb.symm)
theorem Qf4.cell (h:Qf4 w0 w F B a cap T n seen opn bad v) (i:Nat) {x:Value} (hx:(Qze F B a cap T v)[i]?=some x):w.cell? ⟨T.g,i,none⟩=some x:=cell_of_row _ _ i _ _ _ h.head |>.trans hx
theorem Qf4.frozen (h:Qf4 w0 w F B a cap T n seen opn bad v) (i:Nat):w.frozen? ⟨T.g,i,none⟩=false:=frozen_of_row _ _ _ _ _ h.head
end
def Jgh (w:World) (F:Qb0) (B:Nat) (a:Option Addr) (cap:Nat):Ending→World→Prop:=fun e w'=>∃T:TF,e=.returned (.pointer (some ⟨T.g,0,none⟩))∧Qf4 w w' F B a cap T 0 [] [] false (.slice none 0 0)
theorem Jco (w:World) (F:Qb0) (B:Nat) (a:Option Addr) (cap:Nat) :
  Calls Tryz.prog 93 #[Qei F,Qgk (B:Int),.slice a B cap] w (Jgh w F B a cap):=by
 have HP:Hid (∀(T:TF) w',Qf4 w w' F B a cap T 0 [] [] false (.slice none 0 0)→Jgh w F B a cap (.returned (.pointer (some ⟨T.g,0,none⟩))) w'):=LH (fun T w' h=>⟨T,rfl,h⟩);generalize Jgh w F B a cap=Post at *;have hmm:=@run_makeMap Tryz.prog;have hb1:=Qaf w (.cells #[.int .i64 (B:Int)] 44);have c0:(w.alloc (.cells #[.int .i64 (B:Int)] 44)).cell? ⟨w.heap.size,0,none⟩=some (.int .i64 (B:Int)):=Qat _ _ _ 0 _ rfl;have HB1:=LH hb1;clear hb1;go_enter Tryz.func93,Tryz.ntmps93;go_upto_region 1 with fail;generalize w.alloc (.cells #[.int .i64 (B:Int)] 44)=w1 at *;have HV:=LH (Qm1.made w1 Tryz.prog 3);have hb2:=Qaf w1 (.map #[] 0);have HB2:=LH hb2;have HW:=LH (Qho.made (w1.alloc (.map #[] 0)) Tryz.prog 252);have HB3:=LH (Qaf (w1.alloc (.map #[] 0)) (.map #[] 0));clear hb2;go_wp2_with fail;have h1:(w1.alloc (.map #[] 0)).heap.size=w1.heap.size+1:=by simp
 have h2:((w1.alloc (.map #[] 0)).alloc (.map #[] 0)).heap.size=w1.heap.size+1+1:=by simp
 have hV:=HV.out;have hW:=HW.out;have hB1:=HB1.out;have hB2:=HB2.out;have hB3:=HB3.out;rw [h1] at hW;generalize w1.alloc (.map #[] 0)=w2 at *;generalize w2.alloc (.map #[] 0)=w3 at *;have hb4:=Qaf w3 (Obj.cells (Qze F B a cap ⟨w1.heap.size+1+1,w1.heap.size,w1.heap.size+1⟩ (.slice none 0 0)) 250);have hh:=heap_alloc_new w3 (Obj.cells (Qze F B a cap ⟨w1.heap.size+1+1,w1.heap.size,w1.heap.size+1⟩ (.slice none 0 0)) 250);rw [h2] at hh;refine HP.out ⟨w1.heap.size+1+1,w1.heap.size,w1.heap.size+1⟩ _ ⟨?_,hh,Qcs.nil _,fun b hb=>(by cases hb),?_,?_,?_,?_,?_,?_,?_,?_⟩
 ·exact (((hB1.trans (hB2.mono hB1.size)).trans (hB3.mono (by have:=hB1.size;omega))).trans (hb4.mono (by have:=hB1.size;omega)))
 ·have hq:(fun _=>none:Lit→Option Value)=Qj1 []:=by
   funext l
   unfold Qj1
   split <;> simp
  rw [← hq];exact (hV.block (hB3.block _ (by omega))).block (hb4.block _ (by omega))
 ·exact hW.block (hb4.block _ (by omega))
 ·have:=hB1.size;show w.heap.size≤w1.heap.size+1+1;omega
 ·exact hB1.size
 ·have:=hB1.size;show w.heap.size≤w1.heap.size+1;omega
 ·show w1.heap.size+1+1≠w1.heap.size;omega
 ·show w1.heap.size+1+1≠w1.heap.size+1;omega
 ·show w1.heap.size≠w1.heap.size+1;omega
def okN (S:Dev) (L:List Hd) (x:Nat):Prop:=(Qax S L (x:Int)).isSome=true
def Qcn (S:Dev) (x:Nat):List Nat:=Qjr S (x:Int)
theorem Qhm (S:Dev) (L:List Hd):¬okN S L 0:=by
 unfold okN Qax;rw [if_pos (.inl (by decide))];simp
theorem Ql9 {S:Dev} {L:List Hd} {x:Nat} (h:okN S L x):512≤x∧x<512*L.length:=by
 obtain ⟨o,ho⟩:=Option.isSome_iff_exists.1 h;have:=Qon ho;omega
theorem Qyx (w:World):(zeroValue 4).run Tryz.prog w=.ok (.bool false) w:=Tryz.zeroValue4 w
theorem Jck {x:Nat} (h:x≤4611686018427387904):(Lit.int .i64 (x:Int)).wf=true:=WalkArith.wf_i64 (by omega)
def TF.hot (T:TF) (v:Value):List Nat:=T.g :: T.ms :: T.mb :: (Qbc v).toList
def Qgl (S:Dev) (L:List Hd) (w0:World) (F:Qb0) (B:Nat) (a:Option Addr) (cap:Nat) (T:TF) (n:Nat) (seen opn:List Nat) (bad:Bool) (v:Value) (w:World) (x:Nat):Ending→World→Prop:=fun e w' =>
 ∃seen' opn' bad' v' er,e=.returned (.int .i64 er)∧Qf4 w0 w' F B a cap T (n+1) seen' opn' bad' v'∧(er=0∨er=22)∧(er≠0→bad'=true)∧(bad=true→bad'=true)∧
  (∀f rest,Trc (okN S L) (Qcn S) f seen opn (x :: rest) bad→Trc (okN S L) (Qcn S) f seen' opn' rest bad')∧seen'.length+opn.length=seen.length+opn'.length∧seen.length≤seen'.length∧Qam (T.hot v) w w'∧(∀b,Qbc v'=some b→Qbc v=some b∨w.heap.size≤b)∧opn'.length≤opn.length+1
theorem Qp6 {w0 w:World} {F:Qb0} {S:Dev} (h0:Qa7 w0 F S) {a:Option Addr} {B cap:Nat} {L:List Hd} (hlen:L.length=B) (hc:Qaq w0 a (Qbt L)) (hB:B≤1000)
  {T:TF} {n:Nat} {seen opn:List Nat} {bad:Bool} {v:Value} (h:Qf4 w0 w F B a cap T n seen opn bad v) (hn:n≤1000000000) (ho:opn.length≤1000000000) (x:Nat) (hx:x≤4611686018427387904) (eF eP:Int) (hF:(Lit.int .i64 eF).wf=true) (hP:(Lit.int .i64 eP).wf=true) :
  Calls Tryz.prog 142 #[.pointer (some ⟨T.g,0,none⟩),.agg #[.int .i64 eF,.int .i64 eP],.int .i64 (x:Int)] w (Qgl S L w0 F B a cap T n seen opn bad v w x):=by
 have HSkip:Hid (∀w',Qf4 w0 w' F B a cap T n seen opn bad v→(x=0∨x∈seen)→Qam (T.hot v) w w'→Qgl S L w0 F B a cap T n seen opn bad v w x (.returned (.int .i64 0)) w'):=LH (fun w' h1 h2 h3 =>
  ⟨seen,opn,bad,v,0,rfl,h1.mono (by omega),.inl rfl,fun h=>absurd rfl h,id,fun f rest ht=>ht.skip (Qhm S L) h2,rfl,Nat.le_refl _,h3,fun b hb=>.inl hb,by omega⟩)
 have HFail:Hid (∀w',Qf4 w0 w' F B a cap T (n+1) seen opn true v→x≠0→¬okN S L x→Qam (T.hot v) w w'→Qgl S L w0 F B a cap T n seen opn bad v w x (.returned (.int .i64 22)) w'):=LH (fun w' h1 h2 h3 h4 =>
  ⟨seen,opn,true,v,22,rfl,h1,.inr rfl,fun _=>rfl,fun _=>rfl,fun f rest ht=>ht.fail h2 h3,rfl,Nat.le_refl _,h4,fun b hb=>.inl hb,by omega⟩)
 have HTake:Hid (∀w' v',Qf4 w0 w' F B a cap T (n+1) (seen ++ [x]) (opn ++ [x]) bad v'→okN S L x→x∉seen→Qam (T.hot v) w w'→(∀b,Qbc v'=some b→Qbc v=some b∨w.heap.size≤b)→Qgl S L w0 F B a cap T n seen opn bad v w x (.returned (.int .i64 0)) w'):=LH (fun w' v' h1 h2 h3 h4 h5 =>
  ⟨seen ++ [x],opn ++ [x],bad,v',0,rfl,h1,.inl rfl,fun h=>absurd rfl h,id,fun f rest ht=>ht.take h2 h3,by simp;omega,by simp,h4,h5,by simp⟩)
 generalize Qgl S L w0 F B a cap T n seen opn bad v w x=Post at *;have hba:=Qaf w (.cells #[.int .i64 eF,.int .i64 eP] 252);have H1:=LH (h.later hba);have HB1:=LH hba;have e0:(w.alloc (.cells #[.int .i64 eF,.int .i64 eP] 252)).cell? ⟨w.heap.size,0,none⟩=some (.int .i64 eF):=Qat _ _ _ 0 _ rfl;have e1:(w.alloc (.cells #[.int .i64 eF,.int .i64 eP] 252)).cell? ⟨w.heap.size,1,none⟩=some (.int .i64 eP):=Qat _ _ _ 1 _ rfl;obtain ⟨g,hg⟩:∃g,g=T.g:=⟨_,rfl⟩
 obtain ⟨ms,hms⟩:∃g,g=T.ms:=⟨_,rfl⟩
 obtain ⟨mb,hmb⟩:∃g,g=T.mb:=⟨_,rfl⟩
 have HE:Hid (g=T.g∧ms=T.ms∧mb=T.mb):=LH ⟨hg,hms,hmb⟩;rw [← hg];clear h hba hg hms hmb;go_enter Tryz.func142,Tryz.ntmps142;go_upto_region 1 with fail;obtain ⟨q,hq⟩:∃q,q=w.heap.size:=⟨_,rfl⟩
 rw [← hq] at e0 e1 ⊢;generalize w.alloc _=w1 at *;clear hq
 by_cases hx0:x=0
 ·have HS:=LH (fun w' h=>HSkip.out w' h (.inl hx0));subst hx0;rw [show ((0:Nat):Int)=0 from rfl];go_wp2_with fail;exact HS.out _ H1.out (Qam.ofBelow HB1.out)
 have hx0':((x:Int) == 0)=false:=by rw [beq_eq_false_iff_ne];omega
 have hwf:(Lit.int .i64 (x:Int)).wf=true:=Jck hx;have HKey:Hid (keyOf Tryz.prog 3 (.int .i64 (x:Int))=some (.int .i64 (x:Int))):=LH (keyOf_int_mk Tryz.underlying3 hwf);have c3:w1.cell? ⟨g,3,none⟩=some (.map (some ms)):=by rw [HE.out.1,HE.out.2.1];exact H1.out.cell 3 rfl
 have hlk:=Qm1.look (int_keyed Tryz.underlying3) Tryz.underlying247 (Qyx w1) H1.out.seen HKey.out;rw [Qn7,← HE.out.2.1] at hlk;have HX0:=LH hx0;clear hx0 hwf
 by_cases hs:x∈seen
 ·have HS:=LH (fun w' h=>HSkip.out w' h (.inr hs));rw [if_pos hs,Option.getD_some] at hlk;clear hs;go_wp2_with fail;exact HS.out _ H1.out (Qam.ofBelow HB1.out)
 rw [if_neg hs,Option.getD_none] at hlk;have HNs:=LH hs;clear hs;go_upto_region 3 with fail;clear hlk;have HPl:Hid (∀w',Below w1.heap.size w1 w'→Calls Tryz.prog 159 #[Qei F,Qgk (B:Int),.slice a B cap,.int .i64 (x:Int)] w' (Qmb S L (x:Int) w')):=LH (fun w' hb =>
  Qm8 (h0.below ((H1.out.later hb).org)) a B cap L hlen (hc.below (H1.out.later hb).org NR) hB (h0.small) (x:Int))
 obtain ⟨okk,hok⟩:∃okk,okk=(Qax S L (x:Int)).isSome:=⟨_,rfl⟩
 have HOk:Hid (okk=(Qax S L (x:Int)).isSome):=LH hok;unfold Qmb at HPl;rw [← hok] at HPl;clear hok
 go_cut [7,8] from 9 (fun pv kv wc=>∃g2:Nat,pv=.pointer (some ⟨g2,0,none⟩)∧kv=.bool okk∧Hid (Below w1.heap.size w1 wc))
 case first =>
  have c0:w1.cell? ⟨g,0,none⟩=some (Qei F):=by rw [HE.out.1];exact H1.out.cell 0 rfl
  have c1:w1.cell? ⟨g,1,none⟩=some (.int .i64 (B:Int)):=by rw [HE.out.1];exact H1.out.cell 1 rfl
  have c2:w1.cell? ⟨g,2,none⟩=some (.slice a B cap):=by rw [HE.out.1];exact H1.out.cell 2 rfl
  have r0:=fun x=>Qab c0 x
  have r1:=fun x=>Qab c1 x
  have r2:=fun x=>Qab c2 x
  clear c0 c1 c2 c3 e0 e1;refine Qds (C:=fun w'=>∃x:Qbi (w1),w'=x.val) (.fl [0,1,2,3,4,5,6,7,8,9,10,11,12] (.br 13 false (.pu [14,15,16] (.sq [17] true (.sq [18,19] false (.nil)))) 17 true (.sq [13,14] false (.pu [15,16] (.sq [18,19] false (.nil)))))) (by kernel_rfl) (by kernel_rfl) (by intro c a d v w h;cases d <;> exact h) ?_;simp only [trO,Qa3,List.getElem?_cons_succ,List.getElem?_cons_zero]
  have hC1:=Qaj (w1);refine Qjm hC1 ?_
  repeat (first|go_big_quiet_step (fail)|quiet_step (fail))
  refine wpQuiet_nil ?_;clear r0 r1 r2;have hbd:=Qae hC1;have HMd:=LH ((Mem.start w1).later hbd);generalize w1.drew=wd at *;clear hbd;refine Qk3 ?_ ?_
  ·refine Qb8 (fun K hK=>?_);go_wp2_with fail;refine (HPl.out _ HMd.out.below).mono ?_;rintro e w4 ⟨⟨p,d,rfl,_⟩,hb4⟩;have hC2:=Qan hC1 hb4;have HM4:=LH (HMd.out.later hb4);clear hb4;go_wp2_with fail;refine hK _ _ (fun h=>nomatch h) ?_;clear hK K;refine Qg9 ?_
   repeat (first|go_big_quiet_step (fail)|quiet_step (fail))
   refine wpQuiet_nil ?_;refine Qb8 (fun K hK=>?_);go_wp2_with fail;have hba:=Qaf w4 (.cells #[.int .i64 0,.int .i64 0] 211);have hC3:=Qan hC2 hba;have HM5:=LH (HM4.out.alloc #[.int .i64 0,.int .i64 0] 211);clear hba;go_wp2_with fail;refine hK _ _ (fun _=>hC3) ?_;clear hK K;generalize w4.alloc _=w5 at *;obtain ⟨g2,hg⟩:∃g2,g2=w4.heap.size:=⟨_,rfl⟩
   rw [← hg] at HM5 ⊢;clear hg hC1 hC2 hC3;refine Qcr ?_;go_wp2_with (refine Qaa Qhh HM5.out 0 rfl rfl rfl rfl rfl rfl rfl rfl ?_;intro w6 h6 ht6;have H6:=LH h6;clear h6 ht6)
   go_meet
   exact ⟨g2,rfl,rfl,LH H6.out.below⟩
  ·refine Qb8 (fun K hK=>?_);go_wp2_with fail;have hba:=Qaf wd (.cells #[.int .i64 0,.int .i64 0] 211);have hC2:=Qan hC1 hba;have HM4:=LH (HMd.out.alloc #[.int .i64 0,.int .i64 0] 211);clear hba;go_wp2_with fail;refine hK _ _ (fun _=>hC2) ?_;clear hK K;generalize wd.alloc _=w4 at *;obtain ⟨g2,hg⟩:∃g2,g2=wd.heap.size:=⟨_,rfl⟩
   rw [← hg] at HM4 ⊢;clear hg;refine Qb8 (fun K hK=>?_);go_wp2_with fail;refine (HPl.out _ HM4.out.below).mono ?_;rintro e w5 ⟨⟨p,d,rfl,_⟩,hb5⟩;have HM5:=LH (HM4.out.later hb5);clear hb5;go_wp2_with fail;refine hK _ _ (fun h=>nomatch h) ?_;clear hK K;refine Qg9 ?_
   repeat (first|go_big_quiet_step (fail)|quiet_step (fail))
   refine wpQuiet_nil ?_;clear hC1 hC2;refine Qcr ?_;go_wp2_with (refine Qaa Qhh HM5.out 0 rfl rfl rfl rfl rfl rfl rfl rfl ?_;intro w6 h6 ht6;have H6:=LH h6;clear h6 ht6)
   go_meet
   exact ⟨g2,rfl,rfl,LH H6.out.below⟩
 case rest =>
  obtain ⟨g2,rfl,rfl,HBc⟩:=hcut;have Hc:=LH (H1.out.later HBc.out);have e0':=Qaz HBc.out e0 NR;have e1':=Qaz HBc.out e1 NR;clear e0 e1 c3 HPl
  cases okk with
  | false =>
   have HNo:Hid (¬okN S L x):=LH (by unfold okN;rw [← HOk.out];simp);have c5:wc.cell? ⟨g,5,none⟩=some (.map (some mb)):=by rw [HE.out.1,HE.out.2.2];exact Hc.out.cell 5 rfl
   have r5:=fun x=>Qab c5 x
   have r0:=fun x=>Qab e0' x
   have r1:=fun x=>Qab e1' x
   clear c5 e0' e1';go_upto_region 5 with fail;refine Qai (C:=fun w'=>∃x:Qbi (wc),w'=x.val) [.fl [0,1,2,3,4,5],.sq [6] false] (by kernel_rfl) (by kernel_rfl) (by intro c a d v w h;cases d <;> exact h) ?_;simp only [Qdj,Qa3,List.getElem?_cons_succ,List.getElem?_cons_zero]
   have hC1:=Qaj (wc);refine Qak hC1 ?_
   repeat (first|go_big_quiet_step (fail)|quiet_step (fail))
   refine wpQuiet_nil ?_;have Hd:=LH (Hc.out.later (Qae hC1));have HBd2:Hid (Below w.heap.size w wc.drew):=LH ((HB1.out.trans (HBc.out.mono HB1.out.size)).trans ((Qae hC1).mono (Nat.le_trans HB1.out.size HBc.out.size)));generalize wc.drew=wd at *;clear r5 r0 r1 hC1;have HBd:Hid (Qho Tryz.prog 252 wd mb n bad):=LH (by rw [HE.out.2.2];exact Hd.out.bad);have HNm:Hid (n<maxLen):=LH (Nat.lt_of_le_of_lt hn (by decide));have HKe:=LH (Jd3 eF eP hF hP);refine Qal ?_;go_wp2_with (refine Qqq rfl _ _ _ 248 rfl 252 3 Qyl Tryz.underlying248 mb n bad rfl HBd.out HNm.out _ _ _ rfl rfl HKe.out ?_;intro w6 hm6 hg6;have HM6:=LH hm6;have HG6:=LH hg6;clear hm6 hg6)
   go_wp2_with fail;refine HFail.out _ (Hd.out.badPut (by rw [← HE.out.2.2];exact HG6.out) (by rw [← HE.out.2.2];exact HM6.out)) HX0.out HNo.out ((Qam.ofBelow HBd2.out).trans (Qdd HG6.out (by rw [HE.out.2.2];simp [TF.hot])))
  | true =>
   have HOk':Hid (okN S L x):=LH (by unfold okN;rw [← HOk.out]);have c3:wc.cell? ⟨g,3,none⟩=some (.map (some ms)):=by rw [HE.out.1,HE.out.2.1];exact Hc.out.cell 3 rfl
   have HVm:Hid (Qm1 Tryz.prog 3 wc ms n (Qj1 seen)):=LH (by rw [HE.out.2.1];exact Hc.out.seen);have HNm:Hid (n<maxLen):=LH (Nat.lt_of_le_of_lt hn (by decide));clear e0' e1';go_upto_region 8 with (refine Qq7 rfl _ _ _ 247 rfl 3 4 (int_keyed Tryz.underlying3) Tryz.underlying247 ms n (Qj1 seen) rfl HVm.out HNm.out _ _ _ rfl rfl HKey.out ?_;intro w6 hm6 hg6;have HM6:=LH hm6;have HG6:=LH hg6;clear hm6 hg6)
   have H6:Hid (Qf4 w0 w6 F B a cap T (n+1) (seen ++ [x]) opn bad v):=LH (Hc.out.seenPut (by rw [← HE.out.2.1];exact HG6.out) (by rw [← Jb8,← HE.out.2.1];exact HM6.out));have HT6:Hid (Qam (T.hot v) w w6):=LH ((Qam.ofBelow (HB1.out.trans (HBc.out.mono HB1.out.size))).trans (Qdd HG6.out (by rw [HE.out.2.1];simp [TF.hot])));clear c3 HVm HM6 HG6 Hc;obtain ⟨av,cv,hv,_⟩:=H6.out.own.cells;obtain ⟨l,hl⟩:∃l,l=opn.length:=⟨_,rfl⟩
   rw [← hl] at hv ho;subst hv;have c4:w6.cell? ⟨g,4,none⟩=some (.slice av l cv):=by rw [HE.out.1];exact H6.out.cell 4 rfl
   have H7:=LH (H6.out.later (Qaf w6 (.cells #[.int .i64 (x:Int)] 3)));have HC2:Hid (Qaq (w6.alloc (.cells #[.int .i64 (x:Int)] 3)) (some ⟨w6.heap.size,0,none⟩) ([x].map vi)):=LH (Qa6.cells ⟨_,heap_alloc_new _ _,[],rfl⟩);have HN1:Hid (opn.length+1≤1000000000000):=LH (by omega);clear hl;go_wp2_with (refine Qbz (m:=1) H7.out.own HC2.out rfl HN1.out rfl rfl rfl rfl ?_;intro v' w8 ho8 hg8 hr8;have HO8:=LH ho8;have HG8:=LH hg8;have HR8:=LH hr8;obtain ⟨av',cv',e',_⟩:=ho8.cells;obtain ⟨l',hl'⟩:∃l',l'=(opn ++ [x]).length:=⟨_,rfl⟩;rw [← hl'] at e';subst e';clear hl';have fr8:w8.frozen? ⟨g,4,none⟩=false:=by { rw [HE.out.1];exact frozen_of_row _ _ _ _ _ ((hg8.block T.g (Qbu H7.out.head) (fun e=>(H7.out.row _ e.symm).2.1 rfl)).trans H7.out.head) };have ck8:w8.cell? ⟨g,4,none⟩=some (.slice av l cv):=by { rw [HE.out.1];exact (cell_of_row _ _ 4 _ _ _ ((hg8.block T.g (Qbu H7.out.head) (fun e=>(H7.out.row _ e.symm).2.1 rfl)).trans H7.out.head)).trans rfl };clear ho8 hg8 hr8)
   have h9:=H7.out.openPut HG8.out HO8.out (fun b hb=>(HR8.out b hb).elim .inl (fun e=>.inr (by rw [e];exact Nat.le_refl _)));rw [← HE.out.1] at h9;refine HTake.out _ _ h9 HOk'.out HNs.out ?_ (fun b hb=>(HR8.out b hb).elim .inl (fun e=>.inr (by rw [e];simp;exact Nat.le_trans HT6.out.size (by simp))));have hb7:Qam (T.hot (.slice av l cv)) w6 (w6.alloc (.cells #[.int .i64 (x:Int)] 3)):=Qam.ofBelow (Qaf _ _);have hb8:Qam (T.hot (.slice av l cv)) (w6.alloc (.cells #[.int .i64 (x:Int)] 3)) w8:=(Qh0 HG8.out).wide (fun b hb=>by simp only [TF.hot,List.mem_cons];exact .inr (.inr (.inr hb)));exact ((HT6.out.trans hb7).trans hb8).trans (Qam.setCell _ (by rw [HE.out.1];simp [TF.hot]) _)
end
end Go.Proofs.YtpohaahihdhleaaGreat
