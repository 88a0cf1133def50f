/- Parts of the proof of one statement of the seat. -/
import Derived.Test.YtpohaahihdhleaaGreatRO12
import Derived.Lib.SliceRun
import Derived.Deep.DeepCutAuto
import Derived.Deep.CutBlock
import Derived.Test.YtpohaahihdhleaaGreatProg
import Derived.WalkKit
import Derived.Deep.Cut
import Derived.Shelf.Strings.Builder1
set_option linter.unusedVariables false
set_option maxHeartbeats 16000000
set_option maxRecDepth 100000
open Go.RowKit
namespace Go.Proofs.YtpohaahihdhleaaGreat
section
open Go.Maps
theorem Qij {S:Dev} (h:(Qbo S).2.2=0):2≤(Qbo S).1∧(Qbo S).1≤256∧512*(Qbo S).1=S.cache.length:=by
 unfold Qbo at h ⊢
 by_cases c:(Qid (Qas S 0 8)).2.2≠0∨512*(Qid (Qas S 0 8)).1≠S.cache.length
 ·rw [if_pos c] at h;simp at h
 ·rw [if_neg c] at h ⊢;have h2:512*(Qid (Qas S 0 8)).1=S.cache.length:=by
   by_cases d:512*(Qid (Qas S 0 8)).1=S.cache.length
   ·exact d
   ·exact absurd (.inr d) c
  refine ⟨?_,Qln _,h2⟩;unfold Qid at h ⊢
  split at h
  ·simp at h
  ·split at h
   ·simp at h
   ·split at h
    ·rename_i c1 c2 c3
     rw [if_neg c1,if_neg c2,if_pos c3];exact c3.1
    ·simp at h
theorem Qwv (S:Dev):(Qbo S).2.2=0∨Qbo S=(0,0,20):=by
 unfold Qbo
 by_cases c:(Qid (Qas S 0 8)).2.2≠0∨512*(Qid (Qas S 0 8)).1≠S.cache.length
 ·rw [if_pos c];exact .inr rfl
 ·rw [if_neg c];refine .inl ?_
  by_cases d:(Qid (Qas S 0 8)).2.2=0
  ·exact d
  ·exact absurd (.inl d) c
theorem Qny {ws:List Nat} (h:(Qdv ws).2.2=0):Qda (Qdv ws).1 (Qdv ws).2.1=true:=by
 unfold Qdv at h ⊢
 split at h
 ·simp at h
 ·split at h
  ·simp at h
  ·split at h
   ·rename_i c1 c2 c3
    rw [if_neg c1,if_neg c2,if_pos c3];exact c3.1
   ·simp at h
theorem Ql4 {S:Dev} (h:(Qa5 S).2.2.2=true):Qda (Qa5 S).1 (Qa5 S).2.1=true:=by
 unfold Qa5 at h ⊢;unfold Qff at h ⊢
 split at h
 ·rename_i c
  rw [if_pos c];exact Qny c.1
 ·rename_i c1
  split at h
  ·rename_i c2
   rw [if_neg c1,if_pos c2];exact Qny c2
  ·simp at h
def Qe7 (S:Dev):List Nat:=(Qa5 S).2.1.map Int.toNat
theorem Qp4 {S:Dev} (h:(Qa5 S).2.2.2=true):(Qa5 S).2.1=(Qe7 S).map (fun n:Nat=>(n:Int)):=by
 unfold Qe7;rw [List.map_map];refine (List.map_id _).symm.trans (List.map_congr_left (fun r hr=>?_));obtain ⟨n,rfl,_⟩:=Qhz (Ql4 h) r hr
 rfl
theorem Qv4 {S:Dev} (h:(Qa5 S).2.2.2=true):∀x∈Qe7 S,x<131072:=fun x hx=>by
 obtain ⟨r,hr,rfl⟩:=List.mem_map.1 hx;obtain ⟨n,rfl,hn⟩:=Qhz (Ql4 h) r hr;exact hn
def Qay (S:Dev):List Hd:=hds (Qaw S) (Qbo S).1
open Classical in
noncomputable def Qbx (S:Dev):Int :=
 if (Qbo S).2.2≠0 then 20 else if ¬Qe3 (Qaw S) (Qbo S).1 then 21 else if (Qa5 S).2.2.2=false then 23 else if ¬Qmi (okN S (Qay S)) (Qcn S) (Qe7 S) then 22 else 0
def stV (n id:Nat) (al rt lv:Value):Value:=.agg #[.int .i64 (n:Int),Qad id,.int .i64 (n:Int),al,rt,lv]
def stZ:Array Value:=#[.int .i64 0,.int .u64 0,.int .i64 0,.pointer none,.pointer none,.slice none 0 0]
theorem Qoa:Agg Tryz.prog 49 #[.int .i64 0,.int .u64 0,.int .i64 0,.pointer none,.pointer none,.slice none 0 0]:=⟨⟨_,Tryz.underlying49,rfl⟩,by kernel_rfl⟩
def Qmy (S:Dev) (F:Qb0) (w:World):Ending→World→Prop:=fun e w'=>Below w.heap.size w w'∧
  ((Qbx S=0∧∃g lg lc lv ys,e=.returned (.tuple #[stV (Qbo S).1 (Qbo S).2.1 (.pointer none) (.pointer (some ⟨g,0,none⟩)) lv,.slice (some ⟨lg,0,none⟩) (Qbo S).1 lc,.int .i64 0])∧
      Qdb w' g F (Qa5 S).1 (Qa5 S).2.1 (Qa5 S).2.2.1∧w.heap.size≤g∧Qa6 w' lg 107 (Qbt (Qay S))∧w.heap.size≤lg∧(Qbo S).1≤lc∧
      Qcs w' lv ys∧ys.Pairwise (· < ·)∧(∀x,x∈ys↔Rch (okN S (Qay S)) (Qcn S) (Qe7 S) x)∧(∀b,Qbc lv=some b→w.heap.size≤b))∨
   (Qbx S≠0∧e=.returned (.tuple #[.agg stZ,.slice none 0 0,.int .i64 (Qbx S)])))
theorem Jeg {w:World} {F:Qb0} {S:Dev} (h:Qa7 w F S) :
  Calls Tryz.prog 12 #[Qei F] w (Qmy S F w):=by
 have HF:Hid (∀(c:Int) w',Qbx S=c→c≠0→Below w.heap.size w w'→Qmy S F w (.returned (.tuple #[.agg stZ,.slice none 0 0,.int .i64 c])) w'):=LH (fun c w' h1 h2 h3=>⟨h3,.inr ⟨by rw [h1];exact h2,by rw [h1]⟩⟩);obtain ⟨⟨n,id,e0⟩,hX⟩:∃X,X=Qbo S:=⟨_,rfl⟩
 have HY:Hid (∀g lg lc lv ys w',Qbx S=0→Below w.heap.size w w'→Qdb w' g F (Qa5 S).1 (Qa5 S).2.1 (Qa5 S).2.2.1→w.heap.size≤g→Qa6 w' lg 107 (Qbt (Qay S))→w.heap.size≤lg→n≤lc→
   Qcs w' lv ys→ys.Pairwise (· < ·)→(∀x,x∈ys↔Rch (okN S (Qay S)) (Qcn S) (Qe7 S) x)→(∀b,Qbc lv=some b→w.heap.size≤b)→
   Qmy S F w (.returned (.tuple #[stV n id (.pointer none) (.pointer (some ⟨g,0,none⟩)) lv,.slice (some ⟨lg,0,none⟩) n lc,.int .i64 0])) w'):=LH (fun g lg lc lv ys w' h1 h2 h3 h4 h5 h6 h7 h8 h9 h10 h11 =>
  ⟨h2,.inl ⟨h1,g,lg,lc,lv,ys,by rw [← hX],h3,h4,h5,h6,by rw [← hX];exact h7,h8,h9,h10,h11⟩⟩)
 generalize Qmy S F w=Post at *;have HX:=LH hX;have HSu:=LH (fun w' (hb:Below w.heap.size w w')=>Jbv (h.below hb));rw [← hX] at HSu;have HD:=LH h;have HEr:=LH (Qwv S);unfold Qng at HSu;dsimp only at HSu;have hid:id<18446744073709551616:=by
  rcases Qwv S with c | c
  ·have:(Qbo S).2.1<18446744073709551616:=by
    unfold Qbo
    split
    ·decide
    ·unfold Qid
     split
     ·decide
     ·split
      ·decide
      ·split
       ·show (Qas S 0 8).getD 3 0<_;rw [GD]
        cases hq:(Qas S 0 8)[3]? with
        | none=>simp
        | some x=>exact Qcw h.u64C 0 8 x (List.mem_of_getElem? hq)
       ·decide
   rw [← hX] at this;exact this
  ·rw [← hX] at c;injection c with c1 c2;injection c2 with c2 c3;omega
 clear h hX;have HM:=LH (Mem.one w #[.int .i64 0,.int .u64 0,.int .i64 0,.pointer none,.pointer none,.slice none 0 0] 49);go_enter Tryz.func12,Tryz.ntmps12;go_upto_region 1 with fail;obtain ⟨q1,hq1⟩:∃q,q=w.heap.size:=⟨_,rfl⟩
 rw [← hq1] at HM ⊢;generalize w.alloc _=w1 at *;clear hq1;have HM1:Hid (Mem w w1 [⟨q1,49,[.int .i64 0,.int .u64 0,.int .i64 0,.pointer none,.pointer none,.slice none 0 0],true⟩]):=LH (by simpa using HM.out);clear HM;go_wp2_with fail;refine (HSu.out w1 HM1.out.below).mono ?_;rintro e w2 ⟨rfl,hb2⟩;have HM2:=LH ((HM1.out.later hb2).alloc #[.int .i64 (n:Int),Qad id] 42);clear hb2 HM1 HSu;go_upto_region 2 with fail;obtain ⟨q2,hq2⟩:∃q,q=w2.heap.size:=⟨_,rfl⟩
 rw [← hq2] at HM2 ⊢;generalize w2.alloc _=w3 at *;clear hq2;have HM3:Hid (Mem w w3 [⟨q1,49,[.int .i64 0,.int .u64 0,.int .i64 0,.pointer none,.pointer none,.slice none 0 0],true⟩,⟨q2,42,[.int .i64 (n:Int),Qad id],true⟩]):=LH (by simpa using HM2.out);clear HM2
 by_cases he:e0=0
 case neg =>
  have he20:e0=20:=by
   rcases HEr.out with c | c
   ·rw [← HX.out] at c;exact absurd c he
   ·rw [← HX.out] at c;injection c with _ c;injection c
  subst he20;have HE:Hid (Qbx S=20):=LH (by unfold Qbx;rw [← HX.out,if_pos he]);have HG:=LH (fun w' h=>HF.out 20 w' HE.out (by decide) h);clear he;go_wp2_with (refine Qaa Qoa HM3.out 0 rfl rfl rfl rfl rfl rfl rfl rfl ?_;intro w6 h6 ht6;have H6:=LH h6;clear h6 ht6)
  refine bodyPost_ret (Qcu (p:=2) (s:=3) (u:=4) rfl _ _ _ _ _ _ _ rfl (H6.out.exact 0 rfl) Tryz.underlying49 rfl (by kernel_rfl)) rfl ?_;exact HG.out _ H6.out.below
 subst he;have hno:=Qij (S:=S) (by rw [← HX.out]);rw [← HX.out] at hno;obtain ⟨hn2,hn256,hnl⟩:=hno;have HNl:=LH hnl;dsimp only at hn2 hn256;have c0:=HM3.out.cell 1 0 rfl rfl;have HM4:=LH (HM3.out.alloc #[.int .i64 (n:Int)] 44);clear hnl;go_upto_region 5 with fail;obtain ⟨q3,hq3⟩:∃q,q=w3.heap.size:=⟨_,rfl⟩
 rw [← hq3] at HM4 ⊢;generalize w3.alloc _=w4 at *;clear hq3 c0;have HM5:Hid (Mem w w4 [⟨q1,49,[.int .i64 0,.int .u64 0,.int .i64 0,.pointer none,.pointer none,.slice none 0 0],true⟩,⟨q2,42,[.int .i64 (n:Int),Qad id],true⟩,⟨q3,44,[.int .i64 (n:Int)],true⟩]):=LH (by simpa using HM4.out);clear HM4 HM3;have c0:=HM5.out.cell 2 0 rfl rfl;go_wp2_with fail;refine (Qwe (HD.out.below HM5.out.below) n (by omega) (by omega)).mono ?_;rintro e w5 ⟨hb5,⟨hall,lg,lc,rfl,hlg,hlc,hrow⟩|⟨b,hb1,hb2,_,hbad,rfl⟩⟩
 case inr =>
  have HM6:=LH (HM5.out.later hb5);have HE:Hid (Qbx S=21):=LH (by
   have:¬Qe3 (Qaw S) n:=fun hh=>hbad (hh b hb1 hb2)
   unfold Qbx
   rw [← HX.out,if_neg (by simp),if_pos this])
  have HG:=LH (fun w' h=>HF.out 21 w' HE.out (by decide) h);clear hb5 hbad hb1 hb2 c0;go_wp2_with (refine Qaa Qoa HM6.out 0 rfl rfl rfl rfl rfl rfl rfl rfl ?_;intro w6 h6 ht6;have H6:=LH h6;clear h6 ht6)
  refine bodyPost_ret (Qcu (p:=2) (s:=3) (u:=4) rfl _ _ _ _ _ _ _ rfl (H6.out.exact 0 rfl) Tryz.underlying49 rfl (by kernel_rfl)) rfl ?_;exact HG.out _ H6.out.below
 have HM6:=LH (HM5.out.later hb5);have HRow:=LH hrow;have HLg:Hid (w.heap.size≤lg):=LH (Nat.le_trans HM5.out.below.size hlg);have HLq:Hid (q1<lg):=LH (Nat.lt_of_lt_of_le (HM5.out.glt 0 rfl) hlg);have HAll:=LH hall;have HLe:Hid (Qay S=hds (Qaw S) n):=LH (by unfold Qay;rw [← HX.out]);clear hb5 hall hlg hrow c0 HM5;go_wp2_with fail;refine (Qxn (HD.out.below HM6.out.below)).mono ?_;rintro e w6 ⟨hb6,⟨hbt,g,rfl,hg,hrt⟩|⟨hbf,rfl⟩⟩
 case inr =>
  have HM7:=LH (HM6.out.later hb6);have HE:Hid (Qbx S=23):=LH (by
   unfold Qbx
   rw [← HX.out,if_neg (by simp),if_neg (fun hh=>hh HAll.out),if_pos hbf])
  have HG:=LH (fun w' h=>HF.out 23 w' HE.out (by decide) h);clear hb6 hbf;go_wp2_with (refine Qaa Qoa HM7.out 0 rfl rfl rfl rfl rfl rfl rfl rfl ?_;intro w6 h6 ht6;have H6:=LH h6;clear h6 ht6)
  refine bodyPost_ret (Qcu (p:=2) (s:=3) (u:=4) rfl _ _ _ _ _ _ _ rfl (H6.out.exact 0 rfl) Tryz.underlying49 rfl (by kernel_rfl)) rfl ?_;exact HG.out _ H6.out.below
 have HM7:=LH (HM6.out.later hb6);have HRow7:=LH (Qa6.below HRow.out hb6);have HRt:=LH hrt;have HGg:Hid (w.heap.size≤g):=LH (Nat.le_trans HM6.out.below.size hg);have HGq:Hid (q1<g):=LH (Nat.lt_of_lt_of_le (HM6.out.glt 0 rfl) hg);have HBt:=LH hbt;have hl8:(Qe7 S).length=8:=by unfold Qe7;rw [List.length_map];exact (Qfs HD.out.u64C).2.1
 obtain ⟨n0,n1,n2,n3,n4,n5,n6,n7,hfr⟩:=Qin hl8;have hrs:(Qa5 S).2.1=[(n0:Int),(n1:Int),(n2:Int),(n3:Int),(n4:Int),(n5:Int),(n6:Int),(n7:Int)]:=by rw [Qp4 hbt,hfr];rfl
 have HLs:=LH (Qj6 hrt (Qfs HD.out.u64C).2.1);rw [hrs,show Jg6 [(n0:Int),(n1:Int),(n2:Int),(n3:Int),(n4:Int),(n5:Int),(n6:Int),(n7:Int)]=.agg #[.int .i64 (n0:Int),.int .i64 (n1:Int),.int .i64 (n2:Int),.int .i64 (n3:Int),.int .i64 (n4:Int),.int .i64 (n5:Int),.int .i64 (n6:Int),.int .i64 (n7:Int)] from rfl] at HLs;have HFr:=LH hfr;clear hb6 hrt hg hbt hl8 hfr hrs HM6 HRow;go_wp2_with fail;refine HLs.out.mono ?_;rintro e w7 ⟨rfl,hb7⟩;have HM8:=LH ((HM7.out.later hb7).alloc #[.int .i64 (n0:Int),.int .i64 (n1:Int),.int .i64 (n2:Int),.int .i64 (n3:Int),.int .i64 (n4:Int),.int .i64 (n5:Int),.int .i64 (n6:Int),.int .i64 (n7:Int)] 24);have HB78:Hid (Below w6.heap.size w6 (w7.alloc (.cells #[.int .i64 (n0:Int),.int .i64 (n1:Int),.int .i64 (n2:Int),.int .i64 (n3:Int),.int .i64 (n4:Int),.int .i64 (n5:Int),.int .i64 (n6:Int),.int .i64 (n7:Int)] 24))):=LH (hb7.trans ((Qaf _ _).mono hb7.size));clear hb7 HLs;go_upto_region 12 with fail;obtain ⟨q4,hq4⟩:∃q,q=w7.heap.size:=⟨_,rfl⟩
 rw [← hq4] at HM8 ⊢;generalize w7.alloc _=w8 at *;clear hq4;have HM9:Hid (Mem w w8 [⟨q1,49,[.int .i64 0,.int .u64 0,.int .i64 0,.pointer none,.pointer none,.slice none 0 0],true⟩,⟨q2,42,[.int .i64 (n:Int),Qad id],true⟩,⟨q3,44,[.int .i64 (n:Int)],true⟩,⟨q4,24,[.int .i64 (n0:Int),.int .i64 (n1:Int),.int .i64 (n2:Int),.int .i64 (n3:Int),.int .i64 (n4:Int),.int .i64 (n5:Int),.int .i64 (n6:Int),.int .i64 (n7:Int)],true⟩]):=LH (by simpa using HM8.out);clear HM8 HM7;have c0:=HM9.out.cell 2 0 rfl rfl;have r0:=fun x=>Qab c0 x
 clear c0;refine Qai (C:=fun w'=>∃x:Qbi (w8),w'=x.val) [.fl [0,1,2,3],.sq [4,5] false,.fl [6,7,8],.sq [9] false] (by kernel_rfl) (by kernel_rfl) (by intro c a d v w h;cases d <;> exact h) ?_;simp only [Qdj,Qa3,List.getElem?_cons_succ,List.getElem?_cons_zero]
 have hC1:=Qaj (w8);refine Qak hC1 ?_
 repeat (first|go_big_quiet_step (fail)|quiet_step (fail))
 refine wpQuiet_nil ?_;have hbd:=Qae hC1;have HM10:=LH (HM9.out.later hbd);have HRow10:=LH (Qa6.below (Qa6.below HRow7.out HB78.out) hbd);have HRt10:=LH ((HRt.out.below HB78.out NR).below hbd NR);have HD10:=LH (HD.out.below HM10.out.below);have HCf:Hid (Qaq w8.drew (some ⟨q4,0,none⟩) ([n0,n1,n2,n3,n4,n5,n6,n7].map vi)):=LH ((HM10.out.at 3 rfl).cells);have HFb:Hid (∀x∈[n0,n1,n2,n3,n4,n5,n6,n7],x≤4611686018427387904):=LH (fun x hx=>by rw [← HFr.out] at hx;have:=Qv4 HBt.out x hx;omega);generalize w8.drew=wd at *;clear r0 hbd;refine Qah (fun K hK=>?_);go_wp2_with fail;refine (Qtc HD10.out (L:=hds (Qaw S) n) (Qbs _ _) HRow10.out.cells (by omega) (some ⟨q4,0,none⟩) 8 8 [n0,n1,n2,n3,n4,n5,n6,n7] rfl HCf.out (by omega) HFb.out).mono ?_;rintro e w9 ⟨hb9,⟨hclo,lv,ys,rfl,hlv,hso,hys,hrw⟩|⟨hclo,rfl⟩⟩
 case inr =>
  have HM11:=LH (HM10.out.later hb9);have hC2:=Qan hC1 hb9;have HE:Hid (Qbx S=22):=LH (by
   unfold Qbx
   rw [← HX.out,if_neg (by simp),if_neg (fun hh=>hh HAll.out),if_neg (by rw [HBt.out];simp),if_pos (by rw [HLe.out,HFr.out];exact hclo)])
  have HG:=LH (fun w' h=>HF.out 22 w' HE.out (by decide) h);clear hb9 hclo;go_wp2_with fail;refine hK _ _ (fun h=>nomatch h) ?_;clear hK K;refine Qak hC2 ?_
  repeat (first|go_big_quiet_step (fail)|quiet_step (fail))
  refine wpQuiet_nil ?_;clear hC1 hC2;refine Qal ?_;go_wp2_with (refine Qaa Qoa HM11.out 0 rfl rfl rfl rfl rfl rfl rfl rfl ?_;intro w6 h6 ht6;have H6:=LH h6;clear h6 ht6)
  refine bodyPost_ret (Qcu (p:=2) (s:=3) (u:=4) rfl _ _ _ _ _ _ _ rfl (H6.out.exact 0 rfl) Tryz.underlying49 rfl (by kernel_rfl)) rfl ?_;exact HG.out _ H6.out.below
 have HM11:=LH (HM10.out.later hb9);have hC2:=Qan hC1 hb9;have HE:Hid (Qbx S=0):=LH (by
  unfold Qbx
  rw [← HX.out,if_neg (by simp),if_neg (fun hh=>hh HAll.out),if_neg (by rw [HBt.out];simp),if_neg (by rw [HLe.out,HFr.out];exact fun hh=>hh hclo)])
 have HRow11:=LH (Qa6.below HRow10.out hb9);have HRt11:=LH (HRt10.out.below hb9 NR);obtain ⟨va,vc,hv,_⟩:=hlv.cells;obtain ⟨vl,hvl⟩:∃l,l=ys.length:=⟨_,rfl⟩
 rw [← hvl] at hv;subst hv;have HLv:=LH hlv;have HSo:=LH hso;have HYs:Hid (∀x,x∈ys↔Rch (okN S (Qay S)) (Qcn S) (Qe7 S) x):=LH (fun x=>by rw [HLe.out,HFr.out];exact hys x);have HRw:Hid (∀b,Qbc (.slice va vl vc)=some b→w.heap.size≤b):=LH (fun b hb=>Nat.le_trans HM10.out.below.size (hrw b hb));have HLc:=LH hlc;have HRq:Hid (∀b,Qbc (.slice va vl vc)=some b→q1<b):=LH (fun b hb=>Nat.lt_of_lt_of_le (HM10.out.glt 0 rfl) (hrw b hb));clear hb9 hclo hlv hso hys hrw hvl hlc;go_wp2_with fail;refine hK _ _ (fun h=>nomatch h) ?_;clear hK K;refine Qak hC2 ?_
 repeat (first|go_big_quiet_step (fail)|quiet_step (fail))
 refine wpQuiet_nil ?_;clear hC1 hC2;have c0:=HM11.out.cell 2 0 rfl rfl;have c1:=HM11.out.cell 1 0 rfl rfl;have c2:=HM11.out.cell 1 1 rfl rfl;refine Qal ?_;go_wp2_with (first | (refine Qag Qml HM11.out 1 rfl rfl rfl rfl rfl ?_) | (refine Qaa Qoa HM11.out 0 rfl rfl rfl rfl rfl rfl rfl rfl ?_;intro w6 h6 ht6;have H6:=LH h6;have HT6:=LH ht6;clear h6 ht6))
 refine bodyPost_ret (Qcu (p:=2) (s:=3) (u:=4) rfl _ _ _ _ _ _ _ rfl (H6.out.exact 0 rfl) Tryz.underlying49 rfl (by kernel_rfl)) rfl ?_;refine HY.out g lg lc _ ys _ HE.out H6.out.below ?_ HGg.out ?_ HLg.out HLc.out ?_ HSo.out HYs.out HRw.out
 ·have h1:=HRt11.out;exact (HT6.out.block g (Qbu h1) (by simp;have:=HGq.out;omega)).trans h1
 ·rw [HLe.out];exact HRow11.out.keep (HT6.out.block lg HRow11.out.lt (by simp;have:=HLq.out;omega))
 ·exact HLv.out.keep (fun b hb=>HT6.out.block b (HLv.out.lt b hb) (by simp;have:=HRq.out b hb;omega))
end
section
section
variable {U:List Bool} {P:Nat→List Nat} {M:Mk}
end
section
variable {w:World} {A:AF} {n B:Nat} {m:Al} {K:MkF} {M:Mk}
end
section
variable {w:World} {A:AF} {n B:Nat} {m:Al} {K:MkF} {M:Mk}
end
section
variable {w wr w':World} {Q Q':List Nat} {A:AF} {n N N':Nat} {m m':Al} {v:Value} {xs:List Nat} {K:MkF} {M M':Mk}
end
end
section
open Go.Maps
theorem Qlo {w:World} (a b:Option Addr) (n ca cb:Nat) (xs:List Nat) (hn:xs.length=n) (ha:Qaq w a (xs.map vi)) (hb:Qaq w b (xs.map vi)) (hl:n≤1000000000) :
  Calls Tryz.prog 25 #[.slice a n ca,.slice b n cb] w (Qjt (.bool true) w):=by
 have HP:Hid (∀w',Below w.heap.size w w'→Qjt (.bool true) w (.returned (.bool true)) w'):=LH (fun w' h=>⟨rfl,h⟩);generalize Qjt (.bool true) w=Post at *;have HA:=LH ha;have HB:=LH hb;have HN:=LH hn;clear ha hb hn;go_enter Tryz.func25,Tryz.ntmps25;go_wp2_with fail
 go_loopw [4,5] (fun f i wr=>∃k:Nat,k≤n∧f=.bool false∧i=.int .i64 (k:Int)∧Hid (Below w.heap.size w wr)) (fun _ i _=>n-(intOf i).toNat)
 case atStart=>exact ⟨0,Nat.zero_le _,rfl,rfl,LH (Below.refl _ _)⟩
 case round =>
  obtain ⟨k,hk,rfl,rfl,HBl⟩:=hrel
  by_cases hlt:k<n
  ·have hlt':(k:Int)<(n:Int):=by omega
   obtain ⟨b1,o1,rfl,_,hc1⟩:=(HA.out.below HBl.out NR).at (i:=k) (by rw [List.length_map,HN.out];exact hlt);obtain ⟨b2,o2,rfl,_,hc2⟩:=(HB.out.below HBl.out NR).at (i:=k) (by rw [List.length_map,HN.out];exact hlt);obtain ⟨x,hx⟩:∃x,xs[k]?=some x:=⟨_,GE (by rw [HN.out];exact hlt)⟩
   have c1:=hc1 k (vi x) (by rw [List.getElem?_map,hx];rfl);have c2:=hc2 k (vi x) (by rw [List.getElem?_map,hx];rfl);have r1:=fun x=>Qab c1 x
   have r2:=fun x=>Qab c2 x
   clear hc1 hc2 hx c1 c2;go_upto_region 6 with fail;refine Qbh (by kernel_rfl) (by kernel_rfl) ?_
   repeat (quiet_step (fail))
   refine wpQuiet_nil ?_;rintro w1 ⟨x1,hx1⟩;have HB1:=LH (HBl.out.trans ((show Below wr.heap.size wr w1 by rw [hx1];exact x1.below).mono HBl.out.size));clear hx1 r1 r2;go_wp2_with fail;exact ⟨⟨k+1,by omega,rfl,Qb2 (by omega),HB1⟩,by simp [intOf];omega⟩
  ·obtain rfl:k=n:=by omega
   have hf:decide ((k:Int)<(k:Int))=false:=by simp
   go_wp2_with fail;exact HP.out _ HBl.out
theorem Qf1 (xs:List Nat) (y k x:Nat) (hx:xs[k]?=some x):(xs.take (k+1)).contains y=((xs.take k).contains y || (x == y)):=by
 have h1:=(List.getElem?_eq_some_iff.1 hx).1;rw [List.take_succ_eq_append_getElem h1];have h2:xs[k]=x:=(List.getElem?_eq_some_iff.1 hx).2;rw [h2];rw [Bool.eq_iff_iff];simp
 constructor
 ·rintro (h | h)
  ·exact .inl h
  ·exact .inr h.symm
 ·rintro (h | h)
  ·exact .inl h
  ·exact .inr h.symm
def FL.allTo (S:FL) (k:Nat):Nat→List Nat
 | 0=>S.g k
 | i+1=>S.allTo k i ++ S.c i k
theorem FL.allTo_all (S:FL) (k:Nat):S.allTo k 4=S.all k:=rfl
theorem FL.allTo_len {S:FL} {N k:Nat} (h:S.upto N) (hk:k<32):∀i,i≤4→(S.allTo k i).length≤(i+1)*N
 | 0,_=>by
  have:=h k (by omega);rw [S.at_g hk] at this;simpa [FL.allTo] using this
 | i+1,hi=>by
  have h1:=FL.allTo_len h hk i (by omega);have h2:=h (Qix i k) (by unfold Qix;omega);rw [S.at_c i hk] at h2;unfold FL.allTo;rw [List.length_append,Nat.add_mul (i+1) 1 N,Nat.one_mul];omega
def Qvo (w:World) (S:FL) (k:Nat):Ending→World→Prop:=fun e w'=>∃v ys,e=.returned v∧Qcs w' v ys∧ys.Pairwise (·≤·)∧(∀a,ys.count a=S.cnt k a)∧(∀b,Qbc v=some b→w.heap.size≤b)∧Below w.heap.size w w'
theorem Ja0 {w:World} {f mb n:Nat} {R:List Nat} {S:FL} (h:Qd5 w f mb n R S) (hL:S.upto 900000) (k:Nat) (hk:k<32) :
  Calls Tryz.prog 79 #[Jgo f,.int .i64 (k:Int)] w (Qvo w S k):=by
 obtain ⟨V,hfv⟩:=h.v;have HFV:=LH hfv;have HUp:=LH hL;have HP:Hid (∀v ys w',Qcs w' v ys→ys.Pairwise (·≤·)→ys.Perm (S.all k)→(∀b,Qbc v=some b→w.heap.size≤b)→Below w.heap.size w w'→Qvo w S k (.returned v) w'):=LH (fun v ys w' h1 h2 h3 h4 h5=>⟨v,ys,rfl,h1,h2,fun a=>by rw [← S.all_count];exact h3.count_eq a,h4,h5⟩);generalize Qvo w S k=Post at *;have hVk:=HFV.out.inn.rows k (by omega);rw [S.at_g hk] at hVk;obtain ⟨ag,cg,eg,hcg,_,_,hgn⟩:=hVk.cells2;have HLg:Hid ((S.g k).length≤900000):=LH (by have:=HUp.out k (by omega);rwa [S.at_g hk] at this);have HCl:=LH (Qxa ag _ cg (S.g k) rfl hcg (by have:=HLg.out;omega) hgn);have ck:=HFV.out.inn.g hk;rw [eg] at ck;have c32:=HFV.out.inn.m;obtain ⟨lg,hlg⟩:∃lg,lg=(S.g k).length:=⟨_,rfl⟩
 rw [← hlg] at ck HCl;clear h hL hfv hVk hcg hgn eg hlg;go_enter Tryz.func79,Tryz.ntmps79;go_wp2_with fail;refine (Qc2 _ _).mono ?_;rintro e w1 ⟨rfl,rfl⟩;rw [decide_eq_true (show (0:Int)≤(k:Int)∧(k:Int)<32 by omega)];go_wp2_with fail;refine HCl.out.mono ?_;rintro e w1 ⟨v1,rfl,ho1,hr1,hb1⟩;have HO1:=LH ho1;have HR1:=LH hr1;have HB1:=LH hb1;clear ho1 hr1 hb1 ck c32;go_wp2_with fail
 go_loopw [5,17] (fun ov iv wr=>∃i:Nat,i≤4∧iv=.int .i64 (i:Int)∧Hid (Qcs wr ov (S.allTo k i))∧Hid (∀b,Qbc ov=some b→w.heap.size≤b)∧Hid (Below w.heap.size w wr)) (fun _ iv _=>4-(intOf iv).toNat)
 case atStart=>exact ⟨0,by omega,rfl,HO1,HR1,HB1⟩
 case round =>
  obtain ⟨i,hi4,rfl,HO,HR,HB⟩:=hrel
  by_cases hlt:i<4
  case neg =>
   obtain rfl:i=4:=by omega
   have HSo:=LH (Qtv HO.out (by have:=FL.allTo_len HUp.out hk 4 (by omega);omega));go_wp2_with fail;refine HSo.out.mono ?_;rintro e w2 ⟨rfl,ys,ho,hs,hp,hg⟩;have HFin:=LH (HP.out _ ys w2 ho hs (by rw [← S.allTo_all];exact hp) HR.out ⟨hg.os.trans HB.out.os,hg.tape.trans HB.out.tape,hg.output.trans HB.out.output,Nat.le_trans HB.out.size hg.size,fun b hb=>(hg.block b (Nat.lt_of_lt_of_le hb HB.out.size) (fun e=>by have:=HR.out b e.symm;omega)).trans (HB.out.block b hb)⟩);clear ho hs hp hg;go_wp2_with fail;exact HFin.out
  have hi160:Qix i k<160:=by unfold Qix;omega
  have HFr:=LH (HFV.out.below HB.out);obtain ⟨ac,cc,ec,hcc,_,_,_⟩:=(HFr.out.inn.rows (Qix i k) hi160).cells2;rw [S.at_c i hk] at ec hcc;obtain ⟨M,hm,hv⟩:=HFr.out.inn.map;have HM:=LH hm;obtain ⟨lc,hlc⟩:∃lc,lc=(S.c i k).length:=⟨_,rfl⟩
  rw [← hlc] at ec;have HLc:=LH hlc.symm;have HVi:=LH ((hv i k hlt hk).trans ec);have HCc:=LH hcc;have hkey:=Qww (i:Int) (k:Int) (Qmz i (by omega)) (Qmz k (by omega));have c32:=HFr.out.inn.m;have HN1:Hid ((S.allTo k i).length+lc≤1000000000000):=LH (by
   have h1:=FL.allTo_len HUp.out hk i (by omega);have h2:=HUp.out (Qix i k) hi160;rw [S.at_c i hk,← hlc] at h2;have:(i+1)*900000≤5*900000:=Nat.mul_le_mul_right _ (by omega)
   omega)
  clear hm hv ec hcc hlc;go_wp2_with (first
   | (refine Qmd rfl _ _ 233 rfl 237 47 Qpr Tryz.underlying233 _ (Qs1 _) mb n M rfl HM.out _ _ rfl hkey ?_;rw [HVi.out])
   | (at_builtin;refine Qf5 (m:=lc) (B:=w.heap.size) HO.out (Below.refl _ _) HR.out HB.out.size HCc.out HLc.out HN1.out rfl rfl rfl rfl ?_;intro v' w2 ho hb hr;have HO2:=LH ho;have HB2:=LH hb;have HR2:=LH hr;clear ho hb hr))
  go_roundw
  case rel=>exact ⟨i+1,by omega,Qb2 (by omega),HO2,HR2,LH (HB.out.trans HB2.out)⟩
  case measure=>simp [intOf];omega
end
section
end
section
open Go.Maps Go.Shelf Go.Sort Go.Lib
end
section
open Go.Maps
end
section
variable {B:Nat} {m:Al}
def Snd (L:List Hd):Prop:=∀q,1≤q→(L.getD q default).k=3→∃a,1≤a∧a<q∧(L.getD a default).k=2∧(q:Int)<(a:Int)+(L.getD a default).l
def Qc7 (u:Nat→Bool) (b k:Nat):Nat→List Nat
 | 0=>[]
 | n+1=>Qc7 u b k n ++ if u (Qbw b k n) then [] else [Qbw b k n]
def Qxe (L:List Hd) (k b:Nat):Bool:=decide ((L.getD b default).k=1) && decide ((L.getD b default).c=(k:Int))
def Qdo (u:Nat→Bool) (L:List Hd) (k:Nat):Nat→List Nat
 | 0=>[]
 | n+1=>Qdo u L k n ++ if Qxe L k (n+1) then Qc7 u (n+1) k (Qbd k) else []
theorem Qg6 {u:Nat→Bool} {b k:Nat} (hk:k<32) (x:Nat):∀n,(Qc7 u b k n).count x=if u x=false∧∃i,i<n∧x=Qbw b k i then 1 else 0
 | 0=>by rw [if_neg (by rintro ⟨_,i,hi,_⟩;omega)];rfl
 | n+1=>by
  unfold Qc7;rw [List.count_append,Qg6 hk x n]
  by_cases e:x=Qbw b k n
  ·subst e;rw [if_neg (by rintro ⟨_,i,hi,e⟩;have:=Qpw hk _ _ e;omega)]
   cases h:u (Qbw b k n) with
   | true=>rw [if_pos rfl,if_neg (by simp)];rfl
   | false=>rw [if_neg (by simp),if_pos ⟨rfl,n,by omega,rfl⟩];simp
  ·have h0:(if u (Qbw b k n)=true then ([]:List Nat) else [Qbw b k n]).count x=0:=by
    split
    ·rfl
    ·rw [List.count_singleton,if_neg];simpa using fun h=>e h.symm
   rw [h0,Nat.add_zero]
   congr 1
   refine propext ⟨fun ⟨h1,i,hi,h2⟩=>⟨h1,i,by omega,h2⟩,fun ⟨h1,i,hi,h2⟩=>⟨h1,i,?_,h2⟩⟩
   by_cases c:i=n
   ·subst c;exact absurd h2 e
   ·omega
theorem Qmf {u:Nat→Bool} {L:List Hd} {k:Nat} (hk:k<32) (hL:∀b,b<L.length→(L.getD b default).k=1→(L.getD b default).l=0) (x:Nat):∀n,n<L.length→(Qdo u L k n).count x=if Qc3 L k x∧u x=false∧x/512≤n then 1 else 0
 | 0,hn=>by rw [if_neg (by rintro ⟨hc,_,h⟩;have:=hc.1;omega)];rfl
 | n+1,hn=>by
  unfold Qdo;rw [List.count_append,Qmf hk hL x n (by omega)]
  by_cases e:x/512=n+1
  ·rw [if_neg (by rintro ⟨_,_,h⟩;omega),Nat.zero_add]
   cases hs:Qxe L k (n+1) with
   | false =>
    rw [if_neg (by simp),if_neg]
    ·rfl
    ·rintro ⟨hc,_⟩;have:=hc.2.2.1;rw [e] at this;unfold Qxe at hs;rw [this] at hs;simp at hs
   | true =>
    rw [if_pos rfl,Qg6 hk];have hd:L.getD (n+1) default=⟨1,k,0⟩:=by
     unfold Qxe at hs;simp only [Bool.and_eq_true,decide_eq_true_eq] at hs
     have h3:=hL (n+1) hn hs.1;generalize L.getD (n+1) default=h at *;obtain ⟨a,b,c⟩:=h;obtain ⟨h1,h2⟩:=hs;dsimp only at h1 h2 h3;rw [h1,h2,h3]
    have hio:=Qsp (L:=L) (x:=x) hk (b:=n+1) (by omega) hn hd
    congr 1
    refine propext ⟨fun ⟨h1,h2⟩=>⟨(hio.2 h2).1,h1,by omega⟩,fun ⟨h1,h2,_⟩=>⟨h2,hio.1 ⟨h1,e⟩⟩⟩
  ·have h0:(if Qxe L k (n+1)=true then Qc7 u (n+1) k (Qbd k) else []).count x=0:=by
    split
    ·rw [Qg6 hk,if_neg];rintro ⟨_,i,hi,h2⟩;exact e (by rw [h2];exact (Qii hk hi).1)
    ·rfl
   rw [h0,Nat.add_zero]
   congr 1
   refine propext ⟨fun ⟨h1,h2,h3⟩=>⟨h1,h2,by omega⟩,fun ⟨h1,h2,h3⟩=>⟨h1,h2,by omega⟩⟩
theorem Qzc {b k i j:Nat} (hk:k<32) (h:i<j):Qbw b k i<Qbw b k j:=by
 have hp:=Qbr (k:Int) (by omega);unfold Qbw;have:(i+1)*Qar k≤j*Qar k:=Nat.mul_le_mul_right _ h;rw [Nat.add_mul,Nat.one_mul] at this;omega
theorem Qhc {u:Nat→Bool} {b k x:Nat} : ∀ {n},x∈Qc7 u b k n→∃i,i<n∧x=Qbw b k i
 | 0,h=>by cases h
 | n+1,h=>by
  unfold Qc7 at h;rcases List.mem_append.1 h with h | h
  ·obtain ⟨i,hi,e⟩:=Qhc h;exact ⟨i,by omega,e⟩
  ·split at h
   ·cases h
   ·exact ⟨n,by omega,by simpa using h⟩
theorem Qi4 {u:Nat→Bool} {b k:Nat} (hk:k<32):∀n,(Qc7 u b k n).Pairwise (·≤·)
 | 0=>List.Pairwise.nil
 | n+1=>by
  unfold Qc7;refine List.pairwise_append.2 ⟨Qi4 hk n,?_,fun x hx y hy=>?_⟩
  ·split
   ·exact List.Pairwise.nil
   ·exact List.pairwise_singleton _ _
  ·obtain ⟨i,hi,rfl⟩:=Qhc hx
   split at hy
   ·cases hy
   ·have:y=Qbw b k n:=by simpa using hy
    rw [this];exact Nat.le_of_lt (Qzc hk hi)
theorem Qp2 {u:Nat→Bool} {L:List Hd} {k x:Nat} (hk:k<32):∀ {n},x∈Qdo u L k n→x<512*(n+1)
 | 0,h=>by cases h
 | n+1,h=>by
  unfold Qdo at h;rcases List.mem_append.1 h with h | h
  ·have:=Qp2 hk h;omega
  ·split at h
   ·obtain ⟨i,hi,rfl⟩:=Qhc h;have:=(Qii hk hi (b:=n+1)).1;omega
   ·cases h
theorem Qkr {u:Nat→Bool} {L:List Hd} {k:Nat} (hk:k<32):∀n,(Qdo u L k n).Pairwise (·≤·)
 | 0=>List.Pairwise.nil
 | n+1=>by
  unfold Qdo;refine List.pairwise_append.2 ⟨Qkr hk n,?_,fun x hx y hy=>?_⟩
  ·split
   ·exact Qi4 hk _
   ·exact List.Pairwise.nil
  ·have:=Qp2 hk hx
   split at hy
   ·obtain ⟨i,hi,rfl⟩:=Qhc hy;have:=(Qii hk hi (b:=n+1)).1;omega
   ·cases hy
theorem Qjc {u:Nat→Bool} {b k:Nat} : ∀n,(Qc7 u b k n).length≤n
 | 0=>Nat.le_refl _
 | n+1=>by
  unfold Qc7;have:=Qjc (u:=u) (b:=b) (k:=k) n;rw [List.length_append]
  split <;> simp <;> omega
theorem Qk5 {u:Nat→Bool} {L:List Hd} {k:Nat} (hk:k<32):∀n,(Qdo u L k n).length≤256*n
 | 0=>Nat.le_refl _
 | n+1=>by
  unfold Qdo;have h1:=Qk5 (u:=u) (L:=L) hk n;have h2:=Qjc (u:=u) (b:=n+1) (k:=k) (Qbd k);have h3:Qbd k≤256:=by
   unfold Qbd;have hp:=Qbr (k:Int) (by omega);have:=Nat.div_le_div_left (c:=2) (b:=Qar (k:Int)) (a:=512) hp (by decide);omega
  rw [List.length_append]
  split
  ·omega
  ·simp;omega
theorem Jgx.free_is {B:Nat} {m:Al} (h:Jgx B m) {k:Nat} (hk:k<32) {l:List Nat} (hl:l.Pairwise (·≤·)) (hp:∀x,l.count x=m.fl.cnt k x) (hB:1≤B):l=Qdo (fun a=>m.used.getD a false) m.bm.list k (B-1):=by
 have hL:∀b,b<m.bm.list.length→(m.bm.list.getD b default).k=1→(m.bm.list.getD b default).l=0:=fun b hb h1=>by
  have hr:=of_decide_eq_true (h.bm.right b (by rw [← h.bm.lenL];exact hb));unfold Qb5 at hr;omega
 refine Qnh hl (Qkr hk _) fun x=>?_
 rw [hp,h.cells k x hk,Qmf hk hL x _ (by rw [h.bm.lenL];omega)]
 congr 1
 refine propext ⟨fun ⟨h1,h2⟩=>⟨h1,h2,?_⟩,fun ⟨h1,h2,_⟩=>⟨h1,h2⟩⟩;have:=h1.2.1;rw [h.bm.lenL] at this;omega
end
section
open Go.Maps
theorem Qo2 {w:World} {A:AF} {n B:Nat} {m:Al} (h:Qfy w A n B m) (hL:m.fl.upto 900000) (k:Nat) (hk:k<32) :
  Calls Tryz.prog 33 #[Qeb A,.int .i64 (k:Int)] w (Qvo w m.fl k):=by
 have HL:=LH (Ja0 h.free hL k hk);have c4:=h.c4;have HP:Hid (∀e w',Qvo w m.fl k e w'→Qvo w m.fl k e w'):=LH (fun _ _ h=>h);clear h hL;generalize hPo:Qvo w m.fl k=Post at *;go_enter Tryz.func33,Tryz.ntmps33;go_wp2_with fail;refine HL.out.mono ?_;intro e w1 h1;have h2:=h1;rw [← hPo] at h2;obtain ⟨v,ys,rfl,_⟩:=h2;have H1:=LH h1;clear h1 hPo;go_wp2_with fail;exact H1.out
end
section
theorem Qxy (x n:Nat) (hx:2≤x):(n+1)*x≤512↔n<512/x:=by
 rw [← Nat.succ_le_iff,Nat.le_div_iff_mul_le (by omega)]
theorem Qoo (k:Int) (w:World):Calls Tryz.prog 80 #[.int .i64 k] w fun e w'=>e=.returned (.int .i64 (Qbd k:Nat))∧Below w.heap.size w w':=by
 have hle:=Qhj k;have HC:Hid (Qbd k=512/Qar k):=LH rfl;have HP:Hid (Qar k=0∨2≤Qar k):=by
  apply LH
  by_cases h:0≤k∧k<32
  ·exact .inr (Qbr k h)
  ·left;unfold Qar;rw [if_neg h]
 have CW:=LH (Qje k);generalize Qar k=x at *
 by_cases h0:x=0
 ·subst h0;go_enter Tryz.func80,Tryz.ntmps80;go_wp2_with fail;refine wp_loop_rounds 1 ?_;rw [rounds_succ];go_wp2_with fail;refine (CW.out _).mono ?_;rintro e w1 ⟨rfl,hb⟩;go_wp2_with fail
  go_ret
  exact ⟨Qau (by rw [HC.out];rfl),hb⟩
 ·have hx2:2≤x:=by rcases HP.out with h | h <;> omega
  clear h0;go_enter Tryz.func80,Tryz.ntmps80;go_wp2_with fail
  go_loopw [3] (fun i wr=>∃n:Nat,n≤512∧i=.int .i64 n∧Hid (n≤512/x)∧Below w.heap.size w wr) (fun i _=>512-(intOf i).toNat)
  case atStart=>exact ⟨0,by omega,rfl,LH (Nat.zero_le _),Below.refl _ _⟩
  case round =>
   obtain ⟨n,hn,rfl,hd,hb⟩:=hrel;have HS:=LH (Qxy x n hx2);have HD:Hid (512/x≤256):=LH (by exact Nat.div_le_div_left (a:=512) hx2 (by omega));have hm0:0≤((n:Int)+1)*(x:Int):=Int.mul_nonneg (by omega) (by omega);have hm1:((n:Int)+1)*(x:Int)≤513*256:=Int.mul_le_mul (by omega) (by omega) (by omega) (by omega);have he:((n:Int)+1)*(x:Int)=(((n+1)*x:Nat):Int):=by simp
   have HE:=LH he;clear he;go_wp2_with fail;refine (CW.out _).mono ?_;rintro e w1 ⟨rfl,hb1⟩;have hb1':=hb.trans (hb1.mono hb.size);go_wp2_with fail;refine (CW.out _).mono ?_;rintro e w2 ⟨rfl,hb2⟩;have hb2':=hb1'.trans (hb2.mono hb1'.size);clear hb1 hb2
   by_cases hc:((n:Int)+1)*(x:Int)≤512
   ·have hd':decide (((n:Int)+1)*(x:Int)≤512)=true:=by simp [hc]
    have hlt:n<512/x:=HS.out.1 (by have:=HE.out;omega);have hn2:n+1≤512:=by have:=HD.out;omega
    have HL:=LH hlt;clear hlt;go_wp2_with fail;exact ⟨⟨n+1,hn2,Qb2 (by omega),LH HL.out,hb2'⟩,by simp [intOf];omega⟩
   ·have hd':decide (((n:Int)+1)*(x:Int)≤512)=false:=by simp [hc]
    have HL:Hid (n=512/x):=LH (by have h1:=hd.out;have h2:=HS.out;have h3:=HE.out;omega);go_wp2_with fail
    go_ret
    exact ⟨Qau (by rw [HC.out,← HL.out]),hb2'⟩
theorem Qp5 (p d:Int) (w:World):Calls Tryz.prog 38 #[.agg #[.int .i64 p,.int .i64 d]] w fun e w'=>e=.returned (.int .i64 (Qap p d:Nat))∧Below w.heap.size w w':=by
 have HB:=LH (Qaf w)
 by_cases h1:p<0
 ·have HS:Hid (Qap p d=0):=LH (by unfold Qap;rw [if_pos (by omega)]);go_enter Tryz.func38,Tryz.ntmps38;go_wp2_with fail
  go_ret
  exact ⟨Qau (by rw [HS.out];rfl),HB.out _⟩
 by_cases h2:63<p
 ·have HS:Hid (Qap p d=0):=LH (by unfold Qap;rw [if_pos (by omega)]);go_enter Tryz.func38,Tryz.ntmps38;go_wp2_with fail
  go_ret
  exact ⟨Qau (by rw [HS.out];rfl),HB.out _⟩
 by_cases h3:d<0
 ·have HS:Hid (Qap p d=0):=LH (by unfold Qap;rw [if_pos (by omega)]);go_enter Tryz.func38,Tryz.ntmps38;go_wp2_with fail
  go_ret
  exact ⟨Qau (by rw [HS.out];rfl),HB.out _⟩
 by_cases h4:16384<d
 ·have HS:Hid (Qap p d=0):=LH (by unfold Qap;rw [if_pos (by omega)]);go_enter Tryz.func38,Tryz.ntmps38;go_wp2_with fail
  go_ret
  exact ⟨Qau (by rw [HS.out];rfl),HB.out _⟩
 have HS:Hid (((Qap p d:Nat):Int)=1+p+d):=LH (by unfold Qap;rw [if_neg (by omega)];omega);go_enter Tryz.func38,Tryz.ntmps38;go_wp2_with fail
 go_ret
 exact ⟨Qau HS.out.symm,HB.out _⟩
theorem Qpo (p d:Int) (w:World):Calls Tryz.prog 146 #[.agg #[.int .i64 p,.int .i64 d]] w fun e w'=>e=.returned (.int .i64 (Qu3 (Qap p d:Nat)))∧Below w.heap.size w w':=by
 have HB:=LH (Qaf w);go_enter Tryz.func146,Tryz.ntmps146;go_wp2_with fail;refine (Qp5 _ _ _).mono ?_;rintro e w1 ⟨rfl,hb1⟩;have hb1':=(HB.out _).trans (hb1.mono (HB.out _).size);go_wp2_with fail;refine (Jfx _ _).mono ?_;rintro e w2 ⟨rfl,hb2⟩;have hb2':=hb1'.trans (hb2.mono hb1'.size);go_wp2_with fail
 go_ret
 exact ⟨rfl,hb2'⟩
theorem Jdq (n:Int) (w:World) (hn:n≤1000000000):Calls Tryz.prog 175 #[.int .i64 n] w fun e w'=>e=.returned (.int .i64 (upN n 512))∧w=w':=by
 by_cases h:n<1
 ·have HU:Hid (upN n 512=0):=LH (by unfold upN;rw [if_pos (by omega)]);go_enter Tryz.func175,Tryz.ntmps175;go_wp2_with fail
  go_ret
  exact ⟨Qau HU.out.symm,rfl⟩
 ·have HU:=LH (Jg8 n 512 (by omega) (by omega))
  by_cases c:n % 512=0
  ·have c1:(n % 512 != 0)=false:=by simp [c]
   have C:=LH c;clear c;go_enter Tryz.func175,Tryz.ntmps175;go_wp2_with fail
   go_ret
   exact ⟨Qau (by rw [HU.out,if_pos C.out]),rfl⟩
  ·have c1:(n % 512 != 0)=true:=by simp [c]
   have C:=LH c;clear c;go_enter Tryz.func175,Tryz.ntmps175;go_wp2_with fail
   go_ret
   exact ⟨Qau (by rw [HU.out,if_neg C.out]),rfl⟩
theorem Qpz (n:Nat) (h:small n):Qu3 (n:Int)=(ofN (n:Int):Nat):=by unfold Qu3;rw [if_pos (by unfold small at h;omega)]
theorem Qpc (n:Nat) (h:¬small n):Qu3 (n:Int) = -1:=by unfold Qu3;rw [if_neg (by unfold small at h;omega)]
theorem Qrv (p d:Int) (w:World):Calls Tryz.prog 147 #[.agg #[.int .i64 p,.int .i64 d]] w fun e w'=>e=.returned (.int .i64 (Qbm (Qap p d):Nat))∧Below w.heap.size w w':=by
 have HB:=LH (Qaf w);have hle:=Qll p d;go_enter Tryz.func147,Tryz.ntmps147;go_wp2_with fail;refine (Qpo _ _ _).mono ?_;rintro e w1 ⟨rfl,hb1⟩;have hb1':=(HB.out _).trans (hb1.mono (HB.out _).size);have hc0:w1.cell? ⟨w.heap.size,0,none⟩=some (.int .i64 p):=by rw [hb1.cell (p:=⟨w.heap.size,0,none⟩) (by simp)];exact Qat _ _ _ _ _ rfl
 have hc1:w1.cell? ⟨w.heap.size,1,none⟩=some (.int .i64 d):=by rw [hb1.cell (p:=⟨w.heap.size,1,none⟩) (by simp)];exact Qat _ _ _ _ _ rfl
 by_cases h:small (Qap p d)
 ·rw [Qpz _ h];have HO:Hid (Qbm (Qap p d)=0):=LH (by unfold Qbm;rw [if_pos h]);clear h hb1;go_wp2_with fail
  go_ret
  exact ⟨Qau (by rw [HO.out];rfl),hb1'⟩
 ·rw [Qpc _ h];have HO:Hid (((Qbm (Qap p d):Nat):Int)=upN (Qap p d:Nat) 512):=LH (by unfold Qbm upN;rw [if_neg h];split <;> omega);clear h hb1;go_wp2_with fail;refine (Qp5 _ _ _).mono ?_;rintro e w2 ⟨rfl,hb2⟩;have hb2':=hb1'.trans (hb2.mono hb1'.size);go_wp2_with fail;refine (Jdq _ _ (by omega)).mono ?_;rintro e w3 ⟨rfl,rfl⟩;rw [← HO.out];go_wp2_with fail
  go_ret
  exact ⟨rfl,hb2'⟩
end
section
open Go.Maps
def Jgd (w:World) (ys:List Nat):Ending→World→Prop:=fun e w'=>∃v,e=.returned v∧Qcs w' v ys∧(∀b,Qbc v=some b→w.heap.size≤b)∧Below w.heap.size w w'
theorem Qvz {w:World} (a:Option Addr) (n cap:Nat) (L:List Hd) (hn:L.length=n) (hc:Qaq w a (Qbt L)) (hl:n≤200) (k:Nat) (hk:k<32) (b:Option Addr) (un uc:Nat) (xs:List Nat) (hun:xs.length=un) (hx:Qaq w b (xs.map vi)) (hul:un≤1000000) :
  Calls Tryz.prog 34 #[.slice a n cap,.int .i64 (k:Int),.slice b un uc] w (Jgd w (Qdo (fun y=>xs.contains y) L k (n-1))):=by
 have HP:Hid (∀v w',Qcs w' v (Qdo (fun y=>xs.contains y) L k (n-1))→(∀b,Qbc v=some b→w.heap.size≤b)→Below w.heap.size w w'→Jgd w (Qdo (fun y=>xs.contains y) L k (n-1)) (.returned v) w'):=LH (fun v w' h1 h2 h3=>⟨v,rfl,h1,h2,h3⟩);generalize Jgd w (Qdo (fun y=>xs.contains y) L k (n-1))=Post at *;obtain ⟨u,hu⟩:∃u:Nat→Bool,u=fun y=>xs.contains y:=⟨_,rfl⟩
 rw [← hu] at HP;have HU:=LH hu;have HC:=LH hc;have HX:=LH hx;have HLn:=LH hn;have HUn:=LH hun;have hcp:=Qbr (k:Int) (by omega);have hc256:Qbd k≤256:=by
  unfold Qbd;have:=Nat.div_le_div_left (c:=2) (b:=Qar (k:Int)) (a:=512) hcp (by decide);omega
 have hw512:Qar k≤512:=by
  have:=Qhj (k:Int);omega
 clear hc hx hn hun hu;obtain ⟨cc,hcc⟩:∃cc,cc=Qbd k:=⟨_,rfl⟩
 obtain ⟨cw,hcw⟩:∃cw,cw=Qar k:=⟨_,rfl⟩
 have HCe:=LH (fun w=>Qoo (k:Int) w);have HWe:=LH (fun w=>Qje (k:Int) w);rw [← hcc] at HCe hc256;rw [← hcw] at HWe hw512;have HCc:=LH hcc;have HCw:=LH hcw;clear hcc hcw hcp;go_enter Tryz.func34,Tryz.ntmps34;go_wp2_with fail
 go_loopw [7,8] (fun ov bv wr=>∃bn:Nat,1≤bn∧(bn≤n∨bn=1)∧bv=.int .i64 (bn:Int)∧Hid (Qcs wr ov (Qdo u L k (bn-1)))∧Hid (∀b,Qbc ov=some b→w.heap.size≤b)∧Hid (Below w.heap.size w wr)) (fun _ bv _=>n+1-(intOf bv).toNat)
 case atStart=>exact ⟨1,by omega,by omega,rfl,LH (Qcs.nil _),LH (fun b hb=>by cases hb),LH (Below.refl _ _)⟩
 case round =>
  obtain ⟨bn,hb1,hbn,rfl,HO,HR,HB⟩:=hrel
  by_cases hlt:bn<n
  case neg =>
   have hlt':¬(bn:Int)<(n:Int):=by omega
   have e:bn-1=n-1:=by omega
   rw [e] at HO;go_wp2_with fail;exact HP.out _ _ HO.out HR.out HB.out
  have hlt':(bn:Int)<(n:Int):=by omega
  obtain ⟨kk,cc0,zz,he⟩:=Qe5 L bn;obtain ⟨ba,oa,rfl,e0,e1,e2⟩:=Qcq HC.out (by rw [HLn.out];exact hlt) he;have HSm:Hid (Qxe L k bn=(decide (kk=1) && decide (cc0=(k:Int)))):=LH (by unfold Qxe;rw [he]);have HSuc:Hid (Qdo u L k (bn+1-1)=Qdo u L k (bn-1) ++ if Qxe L k bn then Qc7 u bn k cc else []):=LH (by
   rw [HCc.out];obtain ⟨z,rfl⟩:∃z,bn=z+1:=⟨bn-1,by omega⟩
   rfl)
  generalize hF:Qdo u L k (bn-1)=F at *;have HFl:Hid (F.length≤60000):=LH (by rw [← hF];have:=Qk5 (u:=u) (L:=L) hk (bn-1);have:256*(bn-1)≤256*200:=Nat.mul_le_mul_left _ (by omega);omega);have HE0:=LH e0;have HE1:=LH e1;clear he e0 e1 e2 hF;go_wp2_with fail
  go_loopw [7,9] (fun ov iv wi=>∃i:Nat,i≤cc∧iv=.int .i64 (i:Int)∧Hid (Qcs wi ov (F ++ if Qxe L k bn then Qc7 u bn k i else []))∧Hid (∀b,Qbc ov=some b→w.heap.size≤b)∧Hid (Below w.heap.size w wi)) (fun _ iv _=>cc-(intOf iv).toNat)
  case atStart=>exact ⟨0,by omega,rfl,LH (by
   have h:=HO.out
   by_cases e:Qxe L k bn
   ·rw [if_pos e];show Qcs _ _ (F ++ []);rw [List.append_nil];exact h
   ·rw [if_neg e,List.append_nil];exact h),HR,HB⟩
  case round =>
   obtain ⟨i,hic,rfl,HOi,HRi,HBi⟩:=hrel;have c0:=(HBi.out.cell (p:=⟨ba,oa+bn*3,none⟩) (World.block_lt_of_cell? _ _ HE0.out)).trans HE0.out;have c1:=(HBi.out.cell (p:=⟨ba,oa+bn*3+1,none⟩) (World.block_lt_of_cell? _ _ HE1.out)).trans HE1.out
   by_cases hk1:kk=1
   case neg =>
    have HNext:Hid (Qcs wr _ (Qdo u L k (bn+1-1))):=LH (by
     have h:=HOi.out;have e:Qxe L k bn=false:=by rw [HSm.out];simp [hk1]
     rw [HSuc.out];rw [e] at h ⊢
     exact h)
    go_wp2_with fail
    go_roundw
    case rel=>exact ⟨bn+1,by omega,by omega,Qb2 (by omega),HNext,HRi,HBi⟩
    case measure=>simp [intOf];omega
   subst hk1
   by_cases hk2:cc0=(k:Int)
   case neg =>
    have HNext:Hid (Qcs wr _ (Qdo u L k (bn+1-1))):=LH (by
     have h:=HOi.out;have e:Qxe L k bn=false:=by rw [HSm.out];simp [hk2]
     rw [HSuc.out];rw [e] at h ⊢
     exact h)
    go_wp2_with fail
    go_roundw
    case rel=>exact ⟨bn+1,by omega,by omega,Qb2 (by omega),HNext,HRi,HBi⟩
    case measure=>simp [intOf];omega
   subst hk2;have HYes:Hid (Qxe L k bn=true):=LH (by rw [HSm.out];simp);rw [HYes.out,if_pos rfl] at HOi;go_wp2_with fail;refine (HCe.out _).mono ?_;rintro e w2 ⟨rfl,hb2⟩;have HO2:=LH (HOi.out.keep (fun b hb=>hb2.block b (HOi.out.lt b hb)));have HB2:=LH (HBi.out.trans (hb2.mono HBi.out.size));clear hb2 c0 c1
   by_cases hii:i<cc
   case neg =>
    obtain rfl:i=cc:=by omega
    have HNext:Hid (Qcs w2 _ (Qdo u L k (bn+1-1))):=LH (by rw [HSuc.out,HYes.out,if_pos rfl];exact HO2.out);have hni:¬(i:Int)<(i:Int):=by omega
    go_wp2_with fail
    go_roundw
    case rel=>exact ⟨bn+1,by omega,by omega,Qb2 (by omega),HNext,HRi,HB2⟩
    case measure=>simp [intOf];omega
   have hiI:(i:Int)<(cc:Int):=by omega
   have hfit:i*cw+cw≤512:=by
    have h1:=HCc.out;have h2:=HCw.out;unfold Qbd at h1;rw [← h2] at h1;have h3:(i+1)*cw≤512/cw*cw:=Nat.mul_le_mul_right _ (by omega);have h4:=Nat.div_mul_le_self 512 cw;rw [Nat.add_mul,Nat.one_mul] at h3;omega
   have hm0:(0:Int)≤(i:Int)*(cw:Int):=by rw [← Int.natCast_mul];omega
   have hm1:(i:Int)*(cw:Int)≤512:=by rw [← Int.natCast_mul];omega
   obtain ⟨at_,hat⟩:∃at_,at_=Qbw bn k i:=⟨_,rfl⟩
   have hatI:512*(bn:Int)+(i:Int)*(cw:Int)=(at_:Int):=by rw [hat,HCw.out];unfold Qbw;rw [Int.natCast_add,Int.natCast_mul,Int.natCast_mul];rfl
   have HAt:=LH hat;have HStop:Hid (Qc7 u bn k (i+1)=Qc7 u bn k i ++ if u at_ then [] else [at_]):=LH (by rw [hat];rfl);clear hat hfit;go_wp2_with fail;refine (HWe.out _).mono ?_;rintro e w3 ⟨rfl,hb3⟩;have HO3:=LH (HO2.out.keep (fun b hb=>hb3.block b (HO2.out.lt b hb)));have HB3:=LH (HB2.out.trans (hb3.mono HB2.out.size));clear hb3 HO2;go_wp2_with fail
   go_loopw [11,12] (fun fv jv wj=>∃j:Nat,j≤un∧fv=.bool ((xs.take j).contains at_)∧jv=.int .i64 (j:Int)∧Hid (Qcs wj u7 (F ++ Qc7 u bn k i))∧Hid (Below w.heap.size w wj)) (fun _ jv _=>un-(intOf jv).toNat)
   case atStart=>exact ⟨0,by omega,rfl,rfl,HO3,HB3⟩
   case round =>
    obtain ⟨j,hj,rfl,rfl,HOj,HBj⟩:=hrel
    by_cases hjj:j<un
    ·have hjI:(j:Int)<(un:Int):=by omega
     obtain ⟨x,hx⟩:∃x,xs[j]?=some x:=⟨_,GE (by rw [HUn.out];exact hjj)⟩
     have HCs:=LH (Qf1 xs at_ j x hx);obtain ⟨bb,ob,rfl,_,hcx⟩:=(HX.out.below HBj.out NR).at (i:=j) (by rw [List.length_map,HUn.out];exact hjj);have cx:=hcx j (vi x) (by rw [List.getElem?_map,hx];rfl);unfold vi at cx;clear hcx hx;have HXe:Hid (((x:Int) == (at_:Int))=(x == at_)):=LH (by
      by_cases e:x=at_
      ·subst e;simp
      ·have e2:¬(x:Int)=(at_:Int):=by omega
       rw [beq_eq_false_iff_ne.2 e2,beq_eq_false_iff_ne.2 e])
     obtain ⟨nf,hnf⟩:∃nf,nf=(xs.take (j+1)).contains at_:=⟨_,rfl⟩
     rw [← hnf] at HCs;have HNe:=LH hnf.symm;clear hnf
     cases hf:(xs.take j).contains at_ with
     | true =>
      rw [hf] at HCs;have HNf:Hid (nf=true):=LH (by rw [HCs.out];rfl);clear hf;go_wp2_with fail
      go_roundw
      case rel=>exact ⟨j+1,by omega,by rw [HNe.out,HNf.out],Qb2 (by omega),HOj,HBj⟩
      case measure=>simp [intOf];omega
     | false =>
      rw [hf] at HCs;have HNf:Hid (nf=(x == at_)):=LH (by rw [HCs.out];rfl);clear hf;go_wp2_with fail
      go_roundw
      case rel=>exact ⟨j+1,by omega,by rw [HNe.out,HNf.out,HXe.out],Qb2 (by omega),HOj,HBj⟩
      case measure=>simp [intOf];omega
    ·obtain rfl:j=un:=by omega
     have hni:¬(j:Int)<(j:Int):=by omega
     have HUa:Hid (u at_=(xs.take j).contains at_):=LH (by rw [HU.out,← HUn.out,List.take_length])
     cases hf:(xs.take j).contains at_ with
     | true =>
      have HNext:Hid (Qcs wr u7 (F ++ Qc7 u bn k (i+1))):=LH (by rw [HStop.out,HUa.out,hf,if_pos rfl,List.append_nil];exact HOj.out);clear hf;go_wp2_with fail
      go_roundw
      case rel=>exact ⟨i+1,by omega,Qb2 (by omega),LH (by rw [HYes.out,if_pos rfl];exact HNext.out),HRi,HBj⟩
      case measure=>simp [intOf];omega
     | false =>
      have HE:Hid (Qc7 u bn k (i+1)=Qc7 u bn k i ++ [at_]):=LH (by rw [HStop.out,HUa.out,hf,if_neg (by simp)]);have HC1:Hid (Qaq (wr.alloc (.cells #[.int .i64 (at_:Int)] 3)) (some ⟨wr.heap.size,0,none⟩) ([at_].map vi)):=LH (Qa6.cells ⟨_,heap_alloc_new _ _,[],rfl⟩);have hba:=Qaf wr (.cells #[.int .i64 (at_:Int)] 3);have HB1:=LH (HBj.out.trans (hba.mono HBj.out.size));have HO1:=LH (HOj.out.keep (fun b hb=>hba.block b (HOj.out.lt b hb)));have HN1:Hid ((F ++ Qc7 u bn k i).length+1≤1000000000000):=LH (by
       have h1:=HFl.out;have h2:=Qjc (u:=u) (b:=bn) (k:=k) i
       rw [List.length_append];omega)
      clear hba hf;go_wp2_with (at_builtin;refine Qf5 (m:=1) (B:=w.heap.size) HO1.out (Below.refl _ _) HRi.out HB1.out.size HC1.out rfl HN1.out rfl rfl rfl rfl ?_;intro v' w9 ho hb hr;have HO9:=LH ho;have HB9:=LH hb;have HR9:=LH hr;clear ho hb hr)
      go_roundw
      case rel=>exact ⟨i+1,by omega,Qb2 (by omega),LH (by rw [HYes.out,if_pos rfl,HE.out,← List.append_assoc];exact HO9.out),HR9,LH (HB1.out.trans HB9.out)⟩
      case measure=>simp [intOf];omega
section
variable {P:Program} {C:World→Prop} {ops:Array Oper} {rest:List Oper} {o:Oper} {a:Act} {Q:Act→Prop}
theorem Qf9 {x hi mx:Operand} {t e:TypeId} {z:Value} {size bytes:Nat} (E:Qgg P t e z size bytes) {ad:Option Addr} {n cap:Nat} {k k2:IntKind} {H H2:Int} (h:Nat)
  (hH:H=(h:Int)) (hH2:H2=(h:Int)) (hh:h≤n) (hn:n≤cap)
  (hgd:o.guard=none) (ho:o.op=.slice t x none (some hi) (some mx)) (hx:a.eval x=.slice ad n cap) (hhi:a.eval hi=.int k H) (hmx:a.eval mx=.int k2 H2)
  (hK:wpQuiet P ops C Q rest (a.put o.dst (.slice ad h h))) :
  wpQuiet P ops C Q (o :: rest) a:=by
 subst hH;subst hH2;have hw:Region.wanted o (yielded ops a.tmps)=true:=by simp [Region.wanted,hgd]
 unfold wpQuiet;rw [if_pos hw];refine ⟨_,fun w hC=>?_,hK⟩;obtain ⟨i,i1,i2,i3,i4⟩:=E.info;have hb:(Instr.sliceBounds true n cap none (some (.int k (h:Int))) (some (.int k2 (h:Int)))).run P w=.ok (0,h,h) w:=by
  have h1:(0:Int)≤(h:Int)∧(h:Int)≤(cap:Int):=by omega
  have h2:(0:Int)≤(h:Int)∧(h:Int)≤(h:Int):=by omega
  simp [Instr.sliceBounds,Instr.sliceBound,asIntOf,Nat.le_trans hh hn]
 have hr:(Instr.sliceAt t (.slice ad n cap) none (some (.int k (h:Int))) (some (.int k2 (h:Int)))).run P w=.ok (.slice (if h=0 then ad else ad.map (·.add (0*size))) (h-0) (h-0)) w:=by
  simp [Instr.sliceAt,Instr.slice,run_underlying E.under,hb,sizeOf,typeInfo,i1,i3]
 have e:(if h=0 then ad else ad.map (·.add (0*size)))=ad:=by
  split
  ·rfl
  ·cases ad <;> simp [Addr.add]
 rw [e,Nat.sub_zero] at hr;unfold Oper.quietAt;simp only [execOp,ho,hx,hhi,hmx,Option.map_some,Option.map_none]
 simp [hr,Result.andThen,Oper.quietUpon]
end
theorem Qod {P:Program} {w:World} {t ty e:TypeId} {z:Value} {size bytes i:Nat} (E:Qgg P t e z size bytes) {ad:Option Addr} {xs ys:List Value} (hc:Qaq w ad xs) (hl:xs.length=i*size) {a:Addr} {m c:Nat} (hm:0<m) (hys:ys.length=m*size)
  (hyc:∀j v,ys[j]?=some v→w.cell? (a.add j)=some v) (hn:i+m<1000000000000) (hby:bytes≤64) :
  ∃v' w',(Builtin.append_ #[t,t] ty #[.slice ad i i,.slice (some a) m c]).run P w=.ok v' w'∧w'.ownsRow w.heap.size e size v' (i+m) (xs ++ ys)∧w.grownBy w' none:=by
 obtain ⟨inf,i1,i2,i3,i4⟩:=E.info;have hbb:(i+m)*inf.bytes≤140737488355328:=by
  rw [i4];have:(i+m)*bytes≤(i+m)*64:=Nat.mul_le_mul_left _ hby;omega
 have h63:i+m≤maxLen:=by unfold maxLen;omega
 have key:∀(olds:List Value) (k:Nat),olds.length=k*size→k=i→olds=xs→∀old:Nat,(w.drew.alloc (.cells (olds.toArray ++ ys.toArray ++ Builtin.zeroCells z.cells (grownCap w (i+m) old e-(i+m))) e)).ownsRow w.heap.size e size (.slice (some ⟨w.heap.size,0,none⟩) (i+m) (grownCap w (i+m) old e)) (i+m) (xs ++ ys):=by
  rintro olds k ho rfl rfl old;have hge:=grownCap_ge w (k+m) old e;have hcm:=grownCap_le_maxLen w (k+m) old e h63;have hlen:(olds ++ ys).length=(k+m)*size:=by rw [List.length_append,ho,hys,Nat.add_mul]
  refine ⟨hlen,.inr ⟨w.heap.size,_,_,rfl,Nat.le_refl _,heap_alloc_new w.drew _,hge,hcm,?_,?_⟩⟩
  ·simp only [Array.size_append,List.size_toArray,size_zeroCells,E.cells,ho,hys,← Nat.add_mul]
   congr 1
   omega
  ·simp only [Array.toList_append,List.append_assoc]
   rw [← List.append_assoc,← hlen];exact List.take_left
 have hgr:∀o:Obj,w.grownBy (w.drew.alloc o) none:=fun o=>⟨rfl,rfl,rfl,by simp,fun k hk _=>(Qaf w.drew o).block k hk⟩
 cases ad with
 | none =>
  have hx:xs=[]:=by
   rcases hc with h | ⟨_,_,h,_⟩
   ·exact h
   ·cases h
  subst hx;have hi0:i=0:=by
   have hp:=E.pos;rcases Nat.eq_zero_or_pos i with h | h
   ·exact h
   ·have:0<i*size:=Nat.mul_pos h hp;simp at hl;omega
  subst hi0;have hr:=run_append_nil (P:=P) w t ty e inf z E.under i1 i2 a m c ys (by rw [i3];exact hys) hyc (by omega) (by omega) (by rw [Nat.zero_add] at hbb;omega);refine ⟨_,_,hr,?_,hgr _⟩;have:=key [] 0 (by simp) rfl rfl 0;rw [Nat.zero_add,List.nil_append] at this ⊢;simpa using this
 | some b =>
  have hcb:∀j v,xs[j]?=some v→w.cell? (b.add j)=some v:=by
   rcases hc with h | ⟨bk,off,h,h2⟩
   ·intro j v hj;rw [h] at hj;simp at hj
   ·intro j v hj
    cases h
    rw [Qe0];exact h2 j v hj
  have hr:=run_append_grow (P:=P) w t ty e inf z E.under i1 i2 b i i xs (by rw [i3];exact hl) hcb a m c ys (by rw [i3];exact hys) hyc (by omega) (by omega) (growslice_fits (by omega) hbb);exact ⟨_,_,hr,key xs i hl rfl rfl i,hgr _⟩
section
variable {w:World} {P:Program} {ops:Array Oper} {rest:List Oper} {o:Oper} {act:Act} {Q:Exit→Act→World→Prop}
theorem Qgd {s x:Operand} {t e:TypeId} {z:Value} {size bytes i:Nat} (E:Qgg P t e z size bytes) {ad:Option Addr} {xs ys:List Value} (hc:Qaq w ad xs) (hl:xs.length=i*size) {a:Addr} {m c:Nat} (hm:0<m) (hys:ys.length=m*size)
  (hyc:∀j v,ys[j]?=some v→w.cell? (a.add j)=some v) (hn:i+m<1000000000000) (hby:bytes≤64)
  (hgd:o.guard=none) (ho:o.op=.call { callee:=.builtin .append,args:=#[s,x],argTypes:=#[t,t] })
  (hs:act.eval s=.slice ad i i) (hx:act.eval x=.slice (some a) m c)
  (hK:∀v' w',w'.ownsRow w.heap.size e size v' (i+m) (xs ++ ys)→w.grownBy w' none→wpList P ops Q rest (act.put o.dst v') w') :
  wpList P ops Q (o :: rest) act w:=by
 obtain ⟨v',w',hr,h1,h2⟩:=Qod (c:=c) (ty:=o.type) E hc hl hm hys hyc hn hby;refine wpList_plain hgd fun K hK'=>?_
 unfold Oper.wp;simp [execOp,ho,resolve,invoke,builtin,hs,hx,hr,Result.andThen]
 exact hK' _ _ (hK v' w' h1 h2)
end
theorem Qaq.ownedN {w:World} {base e size n cap:Nat} {a:Option Addr} {xs:List Value} (h:w.ownsRow base e size (.slice a n cap) n xs):Qaq w a xs:=by
 rcases h.2 with ⟨_,h0⟩|⟨g,cap',cur,hv,hb,hg,h1,h2,h3,h4⟩
 ·exact .inl (List.eq_nil_of_length_eq_zero (by rw [h.1,h0,Nat.zero_mul]))
 ·injection hv with e1 _ _
  rw [e1];exact Qa6.cells ⟨cur,hg,cur.toList.drop (n*size),by rw [← h4,List.take_append_drop]⟩
theorem Qi1:Qgg Tryz.prog 47 3 (.int .i64 0) 1 8:=Qgg.mk' Tryz.underlying47 (by kernel_rfl) rfl (by decide)
theorem Qq0 {w:World} (a:Option Addr) (n ca:Nat) (xs:List Nat) (hn:xs.length=n) (ha:Qaq w a (xs.map vi)) (hl:n≤1000000000) (y:Nat) :
  Calls Tryz.prog 100 #[.slice a n ca,.int .i64 (y:Int)] w (Qn6 (.bool (xs.contains y)) w):=by
 have HP:Hid (∀f w',f=xs.contains y→w=w'→Qn6 (.bool (xs.contains y)) w (.returned (.bool f)) w'):=LH (fun f w' h1 h2=>by subst h1;exact ⟨rfl,h2⟩);generalize Qn6 (.bool (xs.contains y)) w=Post at *;have HA:=LH ha;have HN:=LH hn;clear ha hn;go_enter Tryz.func100,Tryz.ntmps100;go_wp2_with fail
 go_loopw [4,5] (fun f i wr=>∃k:Nat,k≤n∧f=.bool false∧i=.int .i64 (k:Int)∧Hid ((xs.take k).contains y=false)∧w=wr) (fun _ i _=>n-(intOf i).toNat)
 case atStart=>exact ⟨0,Nat.zero_le _,rfl,rfl,LH (by simp),rfl⟩
 case round =>
  obtain ⟨k,hk,rfl,rfl,HNo,rfl⟩:=hrel
  by_cases hlt:k<n
  ·have hlt':(k:Int)<(n:Int):=by omega
   obtain ⟨b1,o1,rfl,_,hc1⟩:=HA.out.at (i:=k) (by rw [List.length_map,HN.out];exact hlt);obtain ⟨x,hx⟩:∃x,xs[k]?=some x:=⟨_,GE (by rw [HN.out];exact hlt)⟩
   have c1:=hc1 k (vi x) (by rw [List.getElem?_map,hx];rfl);have HT:=LH (Qf1 xs y k x hx);have HMm:=LH (List.mem_of_getElem? hx);clear hc1 hx
   by_cases e:x=y
   ·subst e;have HE:Hid (true=xs.contains x):=LH (List.contains_iff_mem.2 HMm.out).symm;go_wp2_with fail;exact HP.out _ _ HE.out rfl
   ·have he:(((x:Nat):Int) == ((y:Nat):Int))=false:=by simp;omega
    have HT2:Hid ((xs.take (k+1)).contains y=false):=LH (by rw [HT.out,HNo.out];simp [e]);go_wp2_with fail;exact ⟨⟨k+1,by omega,rfl,Qb2 (by omega),HT2,trivial⟩,by simp [intOf];omega⟩
  ·obtain rfl:k=n:=by omega
   have hf:decide ((k:Int)<(k:Int))=false:=by simp
   have HE:Hid (false=xs.contains y):=LH (by have:=HNo.out;rw [← HN.out,List.take_length] at this;exact this.symm);go_wp2_with fail;exact HP.out _ _ HE.out rfl
theorem Qpk {zs:List Nat} (h:zs.Pairwise (·≤·)) {i x:Nat} (hi:i≤zs.length) (h1:∀y∈zs.take i,y<x) (h2:∀y,zs[i]?=some y→x≤y):(zs.take i ++ [x] ++ zs.drop i).Pairwise (·≤·):=by
 have hd:∀y∈zs.drop i,x≤y:=fun y hy=>by
  obtain ⟨j,hj⟩:=List.getElem?_of_mem hy;rw [List.getElem?_drop] at hj;have hij:i<zs.length:=by have:=(List.getElem?_eq_some_iff.1 hj).1;omega
  have h3:=h2 _ (GE hij);rcases Nat.eq_zero_or_pos j with c | c
  ·subst c;rw [Nat.add_zero,GE hij] at hj;injection hj with hj
   omega
  ·obtain ⟨hj1,hj2⟩:=List.getElem?_eq_some_iff.1 hj;have:=List.pairwise_iff_getElem.1 h i (i+j) hij hj1 (by omega);omega
 rw [List.append_assoc,List.pairwise_append];have hsplit:=List.pairwise_append.1 (by rw [List.take_append_drop i zs];exact h:(zs.take i ++ zs.drop i).Pairwise (·≤·));refine ⟨hsplit.1,?_,fun y hy z hz=>?_⟩
 ·rw [List.singleton_append,List.pairwise_cons];exact ⟨hd,hsplit.2.1⟩
 ·rcases List.mem_append.1 hz with hz | hz
  ·simp at hz;subst hz;exact Nat.le_of_lt (h1 y hy)
  ·exact Nat.le_trans (Nat.le_of_lt (h1 y hy)) (hd z hz)
theorem Qv8 (zs:List Nat) (i x:Nat):(zs.take i ++ [x] ++ zs.drop i).Perm (zs ++ [x]):=by
 have h1:(zs.take i ++ ([x] ++ zs.drop i)).Perm (zs.take i ++ (zs.drop i ++ [x])):=List.Perm.append_left _ List.perm_append_comm;rw [List.append_assoc];refine h1.trans ?_;rw [← List.append_assoc,List.take_append_drop]
def Qvw (w:World) (xs:List Nat):Ending→World→Prop:=fun e w'=>∃v ys,e=.returned v∧Qcs w' v ys∧ys.Pairwise (·≤·)∧ys.Perm xs∧Below w.heap.size w w'∧(∀b,Qbc v=some b→w.heap.size≤b)
theorem Qul {w:World} (a:Option Addr) (n ca:Nat) (xs:List Nat) (hn:xs.length=n) (ha:Qaq w a (xs.map vi)) (hl:n≤1000000) :
  Calls Tryz.prog 103 #[.slice a n ca] w (Qvw w xs):=by
 have HP:Hid (∀v ys w',Qcs w' v ys→ys.Pairwise (·≤·)→ys.Perm xs→Below w.heap.size w w'→(∀b,Qbc v=some b→w.heap.size≤b)→Qvw w xs (.returned v) w'):=LH (fun v ys w' h1 h2 h3 h4 h5=>⟨v,ys,rfl,h1,h2,h3,h4,h5⟩);generalize Qvw w xs=Post at *;have HA:=LH ha;have HN:=LH hn;clear ha hn;go_enter Tryz.func103,Tryz.ntmps103;go_wp2_with fail
 go_loopw [3,4] (fun ov iv wr=>∃(k:Nat) (zs:List Nat),k≤n∧iv=.int .i64 (k:Int)∧Hid (Qcs wr ov zs)∧Hid (∀b,Qbc ov=some b→w.heap.size≤b)∧Hid (zs.Pairwise (·≤·))∧Hid (zs.Perm (xs.take k))∧Hid (Below w.heap.size w wr)) (fun _ iv _=>n-(intOf iv).toNat)
 case atStart=>exact ⟨0,[],by omega,rfl,LH (Qcs.nil _),LH (fun b hb=>by cases hb),LH List.Pairwise.nil,LH (by simp),LH (Below.refl _ _)⟩
 case round =>
  obtain ⟨k,zs,hk,rfl,HO,HRow,HSo,HPm,HB⟩:=hrel;obtain ⟨av,cv,hov,hcv,hnc,hmx⟩:=HO.out.cells;obtain ⟨l,hll⟩:∃l,l=zs.length:=⟨_,rfl⟩
  rw [← hll] at hov hnc;have HLl:=LH hll;have HCz:=LH hcv;subst hov;clear hll hcv
  by_cases hlt:k<n
  case neg =>
   have hltd:decide ((k:Int)<(n:Int))=false:=by simp;omega
   have hke:k=n:=by omega
   have HPe:Hid (zs.Perm xs):=LH (by have:=HPm.out;rw [hke,← HN.out,List.take_length] at this;exact this);clear hke;go_wp2_with fail;exact HP.out _ _ _ HO.out HSo.out HPe.out HB.out HRow.out
  have hlt':(k:Int)<(n:Int):=by omega
  obtain ⟨x,hx⟩:∃x,xs[k]?=some x:=⟨_,GE (by rw [HN.out];exact hlt)⟩
  obtain ⟨b1,o1,q1,_,hc1⟩:=(HA.out.below HB.out NR).at (i:=k) (by rw [List.length_map,HN.out];exact hlt);have cx:wr.cell? ⟨b1,o1+k,none⟩=some (.int .i64 (x:Int)):=hc1 k (vi x) (by rw [List.getElem?_map,hx];rfl);have HTk:Hid (xs.take (k+1)=xs.take k ++ [x]):=LH (by
   obtain ⟨h1,h2⟩:=List.getElem?_eq_some_iff.1 hx
   rw [List.take_succ_eq_append_getElem h1,h2])
  have HLn:Hid (l≤1000000):=LH (by
   have:=HPm.out.length_eq;rw [List.length_take] at this;have h2:=HLl.out
   omega)
  subst q1;clear hc1 hx;go_upto_region 5 with fail;go_wp2_with fail;have HWo:=LH HB.out;obtain ⟨wo,hwo⟩:∃wo,wo=wr:=⟨_,rfl⟩
  rw [← hwo] at HO HCz HB HWo cx ⊢;clear hwo
  go_loopw [5] (fun iv wr=>∃i:Nat,i≤l∧iv=.int .i64 (i:Int)∧Hid (Below wo.heap.size wo wr)∧Hid (∀y∈zs.take i,y<x)) (fun iv _=>l-(intOf iv).toNat)
  case atStart=>exact ⟨0,by omega,rfl,LH (Below.refl _ _),LH (by simp)⟩
  case round =>
   obtain ⟨i,hi,rfl,HB2,HLt⟩:=hrel;have cx2:=Qaz HB2.out cx NR;have rx:=fun x=>Qab cx2 x
   have HCr:=LH (HCz.out.below HB2.out NR);have HBw2:Hid (Below w.heap.size w wr):=LH (HB.out.trans (HB2.out.mono HB.out.size))
   by_cases hgo:∃y,zs[i]?=some y∧y<x
   ·obtain ⟨y,hy,hyx⟩:=hgo;have hin:i<l:=by rw [HLl.out];exact (List.getElem?_eq_some_iff.1 hy).1
    have hinI:(i:Int)<(l:Int):=by omega
    have hlb:=HLn.out;obtain ⟨b,off,q2,_,hc2⟩:=HCr.out.at (i:=i) (by rw [List.length_map,← HLl.out];exact hin);have cy:wr.cell? ⟨b,off+i,none⟩=some (.int .i64 (y:Int)):=hc2 i (vi y) (by rw [List.getElem?_map,hy];rfl);have ry:=fun x=>Qab cy x
    have hltI:(y:Int)<(x:Int):=by omega
    have HNx:Hid (∀z∈zs.take (i+1),z<x):=LH (fun z h=>by
     have h1:=(List.getElem?_eq_some_iff.1 hy).1;rw [List.take_succ_eq_append_getElem h1,List.mem_append,(List.getElem?_eq_some_iff.1 hy).2] at h;rcases h with h | h
     ·exact HLt.out z h
     ·simp at h;subst h;exact hyx)
    subst q2;clear hy cy hyx hc2;go_upto_region 6 with fail;refine Qbh (by kernel_rfl) (by kernel_rfl) ?_
    repeat (first|go_big_quiet_step (fail)|quiet_step (fail))
    refine wpQuiet_nil ?_;rintro w1 ⟨x1,hx1⟩;have HB3:=LH (HB2.out.trans ((show Below wr.heap.size wr w1 by rw [hx1];exact x1.below).mono HB2.out.size));clear hx1 rx ry cx2;go_wp2_with fail
    go_roundw
    case rel=>exact ⟨i+1,by omega,Qb2 (by omega),HB3,HNx⟩
    case measure=>simp [intOf];omega
   ·have HStop:Hid (∀y,zs[i]?=some y→x≤y):=LH (fun y hy=>by
     have:¬y<x:=fun h=>hgo ⟨y,hy,h⟩
     omega)
    clear hgo
    by_cases hin:i<l
    ·have hinI:(i:Int)<(l:Int):=by omega
     obtain ⟨y,hy⟩:∃y,zs[i]?=some y:=⟨_,GE (by rw [← HLl.out];exact hin)⟩
     obtain ⟨b,off,q2,_,hc2⟩:=HCr.out.at (i:=i) (by rw [List.length_map,← HLl.out];exact hin);have cy:wr.cell? ⟨b,off+i,none⟩=some (.int .i64 (y:Int)):=hc2 i (vi y) (by rw [List.getElem?_map,hy];rfl);have ry:=fun x=>Qab cy x
     have hge:¬(y:Int)<(x:Int):=by have:=HStop.out y hy;omega
     subst q2;clear hy cy hc2;go_upto_region 6 with fail;refine Qbh (by kernel_rfl) (by kernel_rfl) ?_
     repeat (first|go_big_quiet_step (fail)|quiet_step (fail))
     refine wpQuiet_nil ?_;rintro w1 ⟨x1,hx1⟩;have HB3:=LH (HB2.out.trans ((show Below wr.heap.size wr w1 by rw [hx1];exact x1.below).mono HB2.out.size));clear hx1 rx ry cx2 hinI hin hge;go_upto_region 8 with fail;have hba:=Qaf w1 (.cells #[] 3);have HB4:=LH (HB3.out.trans (hba.mono HB3.out.size));have HCe:=LH (HCz.out.below HB4.out NR);have HOw:Hid ((w1.alloc (.cells #[] 3)).ownsRow wo.heap.size 3 1 (.slice (some ⟨w1.heap.size,0,none⟩) 0 0) 0 []):=LH ⟨rfl,.inr ⟨w1.heap.size,0,#[],rfl,HB3.out.size,heap_alloc_new w1 _,Nat.le_refl _,Nat.zero_le _,rfl,rfl⟩⟩;have HXl:Hid ((zs.map vi).length=l*1):=LH (by rw [List.length_map,HLl.out,Nat.mul_one]);have HDl:Hid (((zs.map vi).drop (i*1)).length=(l-i)*1):=LH (by rw [List.length_drop,HXl.out];omega);have HDo:Hid (∀u∈(zs.map vi).drop (i*1),u.oneCell'=true):=LH (fun u hu=>by
      obtain ⟨z,_,rfl⟩:=List.mem_map.1 (List.mem_of_mem_drop hu)
      rfl)
     have HNn:Hid (0+(l-i)<1000000000000):=LH (by have:=HLn.out;omega);have HBs2:Hid (wo.heap.size≤(w1.alloc (.cells #[] 3)).heap.size):=LH (Nat.le_trans HB3.out.size hba.size);clear hba;go_upto_region 9 with (first
      | (refine Qgy Qi1 i HCe.out HXl.out rfl hi hnc rfl rfl rfl rfl ?_;intro ad' hc';have HCd:=LH hc';clear hc')
      | (at_builtin;refine Qbb Qi1 HOw.out HCd.out HDl.out HDo.out HNn.out (by decide) HBs2.out rfl rfl rfl rfl ?_;intro v3 w3 h1 h2 h3;have HO3:=LH h1;have HG3:=LH h2;clear h1 h2 h3))
     obtain ⟨a3,c3,rfl,_,_⟩:=Qbe HO3.out;have HB5:Hid (Below wo.heap.size wo w3):=LH (Qav (base:=w1.heap.size) (e:=3) (size:=1) (n:=0) (xs:=[]) HB4.out ⟨rfl,.inr ⟨w1.heap.size,0,#[],rfl,Nat.le_refl _,heap_alloc_new w1 _,Nat.le_refl _,Nat.zero_le _,rfl,rfl⟩⟩ HG3.out NR HB3.out.size);have cx3:=Qaz HB5.out cx NR;have rx:=fun x=>Qab cx3 x
     obtain ⟨ln,hln⟩:∃ln,ln=0+(l-i):=⟨_,rfl⟩
     rw [← hln] at HO3 ⊢;have HLn2:=LH hln;clear hln cx3;refine Qai (C:=fun w'=>∃x:Qbi (w3),w'=x.val) [.fl [0,1,2,3,4,5,6,7,10],.sq [8] true,.sq [9] true,.sq [11,12] false] (by kernel_rfl) (by kernel_rfl) (by intro c a d v w h;cases d <;> exact h) ?_;simp only [Qdj,Qa3,List.getElem?_cons_succ,List.getElem?_cons_zero]
     have hC1:=Qaj (w3);refine Qak hC1 ?_
     repeat (first | (refine Qf9 Qi1 i rfl rfl hi hnc rfl rfl rfl rfl rfl ?_) | go_big_quiet_step (fail) | quiet_step (fail))
     refine wpQuiet_nil ?_;have HD4:=LH (Qae hC1);clear rx;generalize w3.drew=w4 at *;refine Qah (fun K hK=>?_);go_wp2_with fail;have hba:=Qaf w4 (.cells #[.int .i64 (x:Int)] 3);have hC2:=Qan hC1 hba;obtain ⟨q4,hq4⟩:∃q4,q4=w4.heap.size:=⟨_,rfl⟩
     have HB6:=LH (HB5.out.trans ((HD4.out.trans (hba.mono HD4.out.size)).mono HB5.out.size));have HX5:Hid (∀j v,([.int .i64 (x:Int)]:List Value)[j]?=some v→(w4.alloc (.cells #[.int .i64 (x:Int)] 3)).cell? ((⟨w4.heap.size,0,none⟩:Addr).add j)=some v):=LH (fun j v hj=>by rw [Qe0,Nat.zero_add];exact Qat _ _ _ j _ (by simpa using hj));have HC5:=LH ((Qaq.ownedN HO3.out).below (HD4.out.trans (hba.mono HD4.out.size)) NR);rw [List.nil_append] at HC5;clear hba;go_wp2_with fail;refine hK _ _ (fun _=>hC2) ?_;clear hK K;rw [← hq4] at HX5 ⊢;clear hq4;generalize w4.alloc _=w5 at *;have HCt:Hid (Qaq w5 _ ((zs.take i).map vi)):=LH (by rw [List.map_take];exact (HCz.out.below HB6.out NR).take _);have HTl:Hid (((zs.take i).map vi).length=i*1):=LH (by rw [List.length_map,List.length_take];have:=HLl.out;omega);have HN6:Hid (i+1<1000000000000):=LH (by have:=HLn.out;omega);refine Qah (fun K hK=>?_);go_wp2_with (refine Qgd Qi1 HCt.out HTl.out (by decide:0<1) (rfl:([.int .i64 (x:Int)]:List Value).length=1*1) HX5.out HN6.out (by decide) rfl rfl rfl rfl ?_;intro v6 w6 h1 h2;have HO6:=LH h1;have HG6:=LH h2;clear h1 h2)
     have hb6:=Qbq HG6.out NR;have hC3:=Qan hC2 hb6;have HB7:=LH (HB6.out.trans (hb6.mono HB6.out.size));have HC6:=LH (HC5.out.below hb6 NR);have HBw:Hid (w5.heap.size≤w6.heap.size):=LH hb6.size;clear hb6;go_wp2_with fail;refine hK _ _ (fun _=>hC3) ?_;clear hK K;have HLd:Hid (((zs.map vi).drop (i*1)).length=ln*1):=LH (by rw [HDl.out,HLn2.out];omega);have HN7:Hid (i+1+ln<1000000000000):=LH (by have:=HLn2.out;have:=HLn.out;omega);refine Qal ?_;go_wp2_with (refine Qbb Qi1 HO6.out HC6.out HLd.out HDo.out HN7.out (by decide) HBw.out rfl rfl rfl rfl ?_;intro v7 w7 h1 h2 h3;have HO7:=LH h1;have HG7:=LH h2;clear h1 h2 h3)
     go_roundw
     case rel =>
      have h7:=HO7.out;have e1:(zs.take i ++ [x] ++ zs.drop i).map vi=(zs.take i).map vi ++ [.int .i64 (x:Int)] ++ (zs.map vi).drop (i*1):=by
       rw [List.map_append,List.map_append,List.map_drop,Nat.mul_one];rfl
      have e2:(zs.take i ++ [x] ++ zs.drop i).length=i+1+ln:=by
       rw [List.length_append,List.length_append,List.length_take,List.length_drop];have h1:=HLl.out;have h2:=HLn2.out;simp
       omega
      have hw5:w.heap.size≤w5.heap.size:=Nat.le_trans HWo.out.size HB6.out.size;refine ⟨k+1,zs.take i ++ [x] ++ zs.drop i,by omega,Qb2 (by omega),LH (.inl ?_),LH (fun b hb=>?_),LH (Qpk HSo.out (by have:=HLl.out;omega) HLt.out HStop.out),LH ?_,LH ?_⟩
      ·rw [e1,e2];exact ⟨h7.1,h7.2.imp id (fun ⟨g,cp,cu,k1,k2,k3⟩=>⟨g,cp,cu,k1,Nat.zero_le _,k3⟩)⟩
      ·rcases h7.2 with ⟨q,_⟩|⟨g,cp,cu,k1,k2,k3⟩
       ·rw [q] at hb;cases hb
       ·rw [k1] at hb;unfold Qbc at hb;dsimp only at hb
        split at hb
        ·cases hb
        ·injection hb with hb;rw [← hb];exact Nat.le_trans hw5 k2
      ·rw [HTk.out];exact (Qv8 zs i x).trans (List.Perm.append_right _ HPm.out)
      ·have hb7:Below wo.heap.size wo w7:=Qav (base:=w5.heap.size) HB7.out HO6.out HG7.out NR HB6.out.size;exact HWo.out.trans (hb7.mono HWo.out.size)
     case measure=>simp [intOf];omega
    ·have hnl:decide ((i:Int)<(l:Int))=false:=by simp;omega
     go_upto_region 6 with fail;refine Qbh (by kernel_rfl) (by kernel_rfl) ?_
     repeat (first|go_big_quiet_step (fail)|quiet_step (fail))
     refine wpQuiet_nil ?_;rintro w1 ⟨x1,hx1⟩;have HB3:=LH (HB2.out.trans ((show Below wr.heap.size wr w1 by rw [hx1];exact x1.below).mono HB2.out.size));clear hx1 rx cx2 hnl hin;go_upto_region 8 with fail;have hba:=Qaf w1 (.cells #[] 3);have HB4:=LH (HB3.out.trans (hba.mono HB3.out.size));have HCe:=LH (HCz.out.below HB4.out NR);have HOw:Hid ((w1.alloc (.cells #[] 3)).ownsRow wo.heap.size 3 1 (.slice (some ⟨w1.heap.size,0,none⟩) 0 0) 0 []):=LH ⟨rfl,.inr ⟨w1.heap.size,0,#[],rfl,HB3.out.size,heap_alloc_new w1 _,Nat.le_refl _,Nat.zero_le _,rfl,rfl⟩⟩;have HXl:Hid ((zs.map vi).length=l*1):=LH (by rw [List.length_map,HLl.out,Nat.mul_one]);have HDl:Hid (((zs.map vi).drop (i*1)).length=(l-i)*1):=LH (by rw [List.length_drop,HXl.out];omega);have HDo:Hid (∀u∈(zs.map vi).drop (i*1),u.oneCell'=true):=LH (fun u hu=>by
      obtain ⟨z,_,rfl⟩:=List.mem_map.1 (List.mem_of_mem_drop hu)
      rfl)
     have HNn:Hid (0+(l-i)<1000000000000):=LH (by have:=HLn.out;omega);have HBs2:Hid (wo.heap.size≤(w1.alloc (.cells #[] 3)).heap.size):=LH (Nat.le_trans HB3.out.size hba.size);clear hba;go_upto_region 9 with (first
      | (refine Qgy Qi1 i HCe.out HXl.out rfl hi hnc rfl rfl rfl rfl ?_;intro ad' hc';have HCd:=LH hc';clear hc')
      | (at_builtin;refine Qbb Qi1 HOw.out HCd.out HDl.out HDo.out HNn.out (by decide) HBs2.out rfl rfl rfl rfl ?_;intro v3 w3 h1 h2 h3;have HO3:=LH h1;have HG3:=LH h2;clear h1 h2 h3))
     obtain ⟨a3,c3,rfl,_,_⟩:=Qbe HO3.out;have HB5:Hid (Below wo.heap.size wo w3):=LH (Qav (base:=w1.heap.size) (e:=3) (size:=1) (n:=0) (xs:=[]) HB4.out ⟨rfl,.inr ⟨w1.heap.size,0,#[],rfl,Nat.le_refl _,heap_alloc_new w1 _,Nat.le_refl _,Nat.zero_le _,rfl,rfl⟩⟩ HG3.out NR HB3.out.size);have cx3:=Qaz HB5.out cx NR;have rx:=fun x=>Qab cx3 x
     obtain ⟨ln,hln⟩:∃ln,ln=0+(l-i):=⟨_,rfl⟩
     rw [← hln] at HO3 ⊢;have HLn2:=LH hln;clear hln cx3;refine Qai (C:=fun w'=>∃x:Qbi (w3),w'=x.val) [.fl [0,1,2,3,4,5,6,7,10],.sq [8] true,.sq [9] true,.sq [11,12] false] (by kernel_rfl) (by kernel_rfl) (by intro c a d v w h;cases d <;> exact h) ?_;simp only [Qdj,Qa3,List.getElem?_cons_succ,List.getElem?_cons_zero]
     have hC1:=Qaj (w3);refine Qak hC1 ?_
     repeat (first | (refine Qf9 Qi1 i rfl rfl hi hnc rfl rfl rfl rfl rfl ?_) | go_big_quiet_step (fail) | quiet_step (fail))
     refine wpQuiet_nil ?_;have HD4:=LH (Qae hC1);clear rx;generalize w3.drew=w4 at *;refine Qah (fun K hK=>?_);go_wp2_with fail;have hba:=Qaf w4 (.cells #[.int .i64 (x:Int)] 3);have hC2:=Qan hC1 hba;obtain ⟨q4,hq4⟩:∃q4,q4=w4.heap.size:=⟨_,rfl⟩
     have HB6:=LH (HB5.out.trans ((HD4.out.trans (hba.mono HD4.out.size)).mono HB5.out.size));have HX5:Hid (∀j v,([.int .i64 (x:Int)]:List Value)[j]?=some v→(w4.alloc (.cells #[.int .i64 (x:Int)] 3)).cell? ((⟨w4.heap.size,0,none⟩:Addr).add j)=some v):=LH (fun j v hj=>by rw [Qe0,Nat.zero_add];exact Qat _ _ _ j _ (by simpa using hj));have HC5:=LH ((Qaq.ownedN HO3.out).below (HD4.out.trans (hba.mono HD4.out.size)) NR);rw [List.nil_append] at HC5;clear hba;go_wp2_with fail;refine hK _ _ (fun _=>hC2) ?_;clear hK K;rw [← hq4] at HX5 ⊢;clear hq4;generalize w4.alloc _=w5 at *;have HCt:Hid (Qaq w5 _ ((zs.take i).map vi)):=LH (by rw [List.map_take];exact (HCz.out.below HB6.out NR).take _);have HTl:Hid (((zs.take i).map vi).length=i*1):=LH (by rw [List.length_map,List.length_take];have:=HLl.out;omega);have HN6:Hid (i+1<1000000000000):=LH (by have:=HLn.out;omega);refine Qah (fun K hK=>?_);go_wp2_with (refine Qgd Qi1 HCt.out HTl.out (by decide:0<1) (rfl:([.int .i64 (x:Int)]:List Value).length=1*1) HX5.out HN6.out (by decide) rfl rfl rfl rfl ?_;intro v6 w6 h1 h2;have HO6:=LH h1;have HG6:=LH h2;clear h1 h2)
     have hb6:=Qbq HG6.out NR;have hC3:=Qan hC2 hb6;have HB7:=LH (HB6.out.trans (hb6.mono HB6.out.size));have HC6:=LH (HC5.out.below hb6 NR);have HBw:Hid (w5.heap.size≤w6.heap.size):=LH hb6.size;clear hb6;go_wp2_with fail;refine hK _ _ (fun _=>hC3) ?_;clear hK K;have HLd:Hid (((zs.map vi).drop (i*1)).length=ln*1):=LH (by rw [HDl.out,HLn2.out];omega);have HN7:Hid (i+1+ln<1000000000000):=LH (by have:=HLn2.out;have:=HLn.out;omega);refine Qal ?_;go_wp2_with (refine Qbb Qi1 HO6.out HC6.out HLd.out HDo.out HN7.out (by decide) HBw.out rfl rfl rfl rfl ?_;intro v7 w7 h1 h2 h3;have HO7:=LH h1;have HG7:=LH h2;clear h1 h2 h3)
     go_roundw
     case rel =>
      have h7:=HO7.out;have e1:(zs.take i ++ [x] ++ zs.drop i).map vi=(zs.take i).map vi ++ [.int .i64 (x:Int)] ++ (zs.map vi).drop (i*1):=by
       rw [List.map_append,List.map_append,List.map_drop,Nat.mul_one];rfl
      have e2:(zs.take i ++ [x] ++ zs.drop i).length=i+1+ln:=by
       rw [List.length_append,List.length_append,List.length_take,List.length_drop];have h1:=HLl.out;have h2:=HLn2.out;simp
       omega
      have hw5:w.heap.size≤w5.heap.size:=Nat.le_trans HWo.out.size HB6.out.size;refine ⟨k+1,zs.take i ++ [x] ++ zs.drop i,by omega,Qb2 (by omega),LH (.inl ?_),LH (fun b hb=>?_),LH (Qpk HSo.out (by have:=HLl.out;omega) HLt.out HStop.out),LH ?_,LH ?_⟩
      ·rw [e1,e2];exact ⟨h7.1,h7.2.imp id (fun ⟨g,cp,cu,k1,k2,k3⟩=>⟨g,cp,cu,k1,Nat.zero_le _,k3⟩)⟩
      ·rcases h7.2 with ⟨q,_⟩|⟨g,cp,cu,k1,k2,k3⟩
       ·rw [q] at hb;cases hb
       ·rw [k1] at hb;unfold Qbc at hb;dsimp only at hb
        split at hb
        ·cases hb
        ·injection hb with hb;rw [← hb];exact Nat.le_trans hw5 k2
      ·rw [HTk.out];exact (Qv8 zs i x).trans (List.Perm.append_right _ HPm.out)
      ·have hb7:Below wo.heap.size wo w7:=Qav (base:=w5.heap.size) HB7.out HO6.out HG7.out NR HB6.out.size;exact HWo.out.trans (hb7.mono HWo.out.size)
     case measure=>simp [intOf];omega
end
section
open Go.Lib (decDigits itoa nDigits)
end
section
open Go.Lib (decDigits itoa nDigits)
open Go.Lib (decDigits itoa nDigits)
open Go.Lib (decDigits itoa nDigits)
section
variable {P:Program} {w:World} {ops:Array Oper} {rest:List Oper} {o:Oper} {a:Act} {Q:Exit→Act→World→Prop}
end
end
end Go.Proofs.YtpohaahihdhleaaGreat
namespace Go.Proofs
open Go.Shelf
end Go.Proofs
namespace Go.Proofs.YtpohaahihdhleaaGreat
section
open Go.Shelf
end
section
def nlB (wd:Int) (b B:Nat):Prop:=0<wd∧(b:Int) % wd=0∧(b:Int)<(B:Int)-1
instance (wd:Int) (b B:Nat):Decidable (nlB wd b B):=by unfold nlB;infer_instance
open Go.Lib (decDigits itoa nDigits)
open Go.Lib (decDigits itoa nDigits)
end
end Go.Proofs.YtpohaahihdhleaaGreat
