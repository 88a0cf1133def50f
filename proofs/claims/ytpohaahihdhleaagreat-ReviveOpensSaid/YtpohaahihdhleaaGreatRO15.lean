/- Parts of the proof of one statement of the seat. -/
import Derived.Test.YtpohaahihdhleaaGreatRO14
set_option linter.unusedVariables false
set_option maxHeartbeats 16000000
set_option maxRecDepth 100000
open Go.RowKit
namespace Go.Proofs.YtpohaahihdhleaaGreat
section
open Go.Maps
def stR (n id:Nat) (ls:Value) (D:Array Value) (ep:Nat) (rs:List Int) (i:Int) (lv:Value):Value :=
 .agg (.int .i64 (n:Int) :: Qad id :: ls :: (D.toList ++ Qad ep :: (rs.map (Value.int .i64) ++ .int .i64 i :: (rs.map (Value.int .i64) ++ [lv])))).toArray
def Qkk:Array Value:=#[.int .i64 0,.int .u64 0,.slice none 0 0,.slice none 0 0,.slice none 0 0,.slice none 0 0,.slice none 0 0,.slice none 0 0,.int .i64 0,.int .i64 0,.bool false,.int .u64 0,.int .i64 0,.int .i64 0,.int .i64 0,.int .i64 0,.int .i64 0,.int .i64 0,.int .i64 0,.int .i64 0,.int .i64 0,.int .i64 0,.int .i64 0,.int .i64 0,.int .i64 0,.int .i64 0,.int .i64 0,.int .i64 0,.int .i64 0,.slice none 0 0]
theorem Qe2:Agg Tryz.prog 59 #[.int .i64 0,.int .u64 0,.slice none 0 0,.slice none 0 0,.slice none 0 0,.slice none 0 0,.slice none 0 0,.slice none 0 0,.int .i64 0,.int .i64 0,.bool false,.int .u64 0,.int .i64 0,.int .i64 0,.int .i64 0,.int .i64 0,.int .i64 0,.int .i64 0,.int .i64 0,.int .i64 0,.int .i64 0,.int .i64 0,.int .i64 0,.int .i64 0,.int .i64 0,.int .i64 0,.int .i64 0,.int .i64 0,.int .i64 0,.slice none 0 0]:=⟨⟨_,Tryz.underlying59,rfl⟩,by kernel_rfl⟩
def Qjy (S:Dev) (v:Value) (w:World):Ending→World→Prop:=fun e w'=>Below w.heap.size w w'∧
  ((Qbx S=0∧∃D lg lc lv ys,v=.agg D∧e=.returned (.tuple #[stR (Qbo S).1 (Qbo S).2.1 (.slice (some ⟨lg,0,none⟩) (Qbo S).1 lc) D (Qa5 S).1 (Qa5 S).2.1 (Qa5 S).2.2.1 lv,.int .i64 0])∧
      Qa6 w' lg 105 (Qbt (Qay S))∧w.heap.size≤lg∧(Qbo S).1≤lc∧
      Qcs w' lv ys∧ys.Pairwise (· < ·)∧(∀x,x∈ys↔Rch (okN S (Qay S)) (Qcn S) (Qe7 S) x)∧(∀b,Qbc lv=some b→w.heap.size≤b))∨
   (Qbx S≠0∧e=.returned (.tuple #[.agg Qkk,.int .i64 (Qbx S)])))
theorem Qzb {w:World} {v:Value} {S:Dev} {m:Nat} (hm:S.dirty.length=m) (h:RAt w v m S.ref) {N:Nat} (hf:S.fit N) (hm5:m≤100000) :
  Calls Tryz.prog 13 #[v] w (Qjy S v w):=by
 have hsm:=hf.wf.small;have hlN:S.cache.length=8*m:=h.lenN;have hu:=hf.wf.u64C;have HF:Hid (∀(c:Int) w',Qbx S=c→c≠0→Below w.heap.size w w'→Qjy S v w (.returned (.tuple #[.agg Qkk,.int .i64 c])) w'):=LH (fun c w' h1 h2 h3=>⟨h3,.inr ⟨by rw [h1];exact h2,by rw [h1]⟩⟩);have HY:Hid (∀D lg lc lv ys w',v=.agg D→Qbx S=0→Below w.heap.size w w'→Qa6 w' lg 105 (Qbt (Qay S))→w.heap.size≤lg→(Qbo S).1≤lc→
   Qcs w' lv ys→ys.Pairwise (· < ·)→(∀x,x∈ys↔Rch (okN S (Qay S)) (Qcn S) (Qe7 S) x)→(∀b,Qbc lv=some b→w.heap.size≤b)→
   Qjy S v w (.returned (.tuple #[stR (Qbo S).1 (Qbo S).2.1 (.slice (some ⟨lg,0,none⟩) (Qbo S).1 lc) D (Qa5 S).1 (Qa5 S).2.1 (Qa5 S).2.2.1 lv,.int .i64 0])) w'):=LH (fun D lg lc lv ys w' h0 h1 h2 h5 h6 h7 h8 h9 h10 h11 =>
  ⟨h2,.inl ⟨h1,D,lg,lc,lv,ys,h0,rfl,h5,h6,h7,h8,h9,h10,h11⟩⟩)
 have HRd:Hid (∀(B:Nat),1≤B→B≤1000→∀w',Below w.heap.size w w'→Calls Tryz.prog 50 #[v,.int .i64 (B:Int)] w' (Qhl 105 (Qaw S) B w')):=LH (fun B hB1 hB w' hb=>by
  obtain ⟨an,cn,al,cl,aw,cw,ad,cd,ap,cp,rfl,hA,_⟩:=h.ex
  exact Jcw an m cn S.cache _ _ _ _ _ _ _ w' (hA.below hb NR) hlN (by omega) hu B hB1 hB)
 have HRt:Hid (∀w',Below w.heap.size w w'→Calls Tryz.prog 51 #[v] w' (Qnb v (Qa5 S) w')):=LH (fun w' hb=>Quk (h.below hb NR) (by omega) hu);have HCl:Hid (∀(B:Nat) (a:Option Addr) (cap:Nat) (L:List Hd) (fa:Option Addr) (fc:Nat) (fr:List Nat) w',Below w.heap.size w w'→L.length=B→Qaq w' a (Qbt L)→B≤1000→fr.length=8→Qaq w' fa (fr.map vi)→(∀x∈fr,x≤4611686018427387904)→
   Calls Tryz.prog 52 #[v,.slice a B cap,.slice fa 8 fc] w' (Qqi S L fr w')):=LH (fun B a cap L fa fc fr w' hb h1 h2 h3 h4 h5 h6=>Qrs hm (h.below hb NR) hf a B cap L h1 h2 h3 fa 8 fc fr h4 h5 (by omega) h6)
 obtain ⟨f,hf0⟩:∃f:Nat→Nat,f=fun k=>Qdr S.cache ((0+k:Nat):Int):=⟨_,rfl⟩
 have HAll:Hid (Qas S 0 8=Qck 8 f 8):=LH (by rw [Qit,hf0];rfl);have HDc:=LH (Qti (Qas S 0 8) (Qbl _ _ _) (Qcw hu 0 8));have hroot:=Qfs hu;obtain ⟨⟨n,id,e0⟩,hX⟩:∃X,X=Qid (Qas S 0 8):=⟨_,rfl⟩
 rw [← hX] at HDc;unfold Qqn at HDc;dsimp only at HDc;have hn256:n≤256:=by have:=Qln (Qas S 0 8);rw [← hX] at this;exact this
 have HSup:Hid (Qbo S=if e0≠0∨512*n≠S.cache.length then (0,0,20) else (n,id,e0)):=LH (by unfold Qbo;rw [← hX]);have hid:id<18446744073709551616:=by
  have:(Qid (Qas S 0 8)).2.1<18446744073709551616:=by
   unfold Qid
   split
   ·decide
   ·split
    ·decide
    ·split
     ·show (Qas S 0 8).getD 3 0<_;rw [GD]
      cases hq:(Qas S 0 8)[3]? with
      | none=>simp
      | some x=>exact Qcw hu 0 8 x (List.mem_of_getElem? hq)
     ·decide
  rw [← hX] at this;exact this
 have HLn:Hid (S.cache.length=8*m):=LH hlN;have hm9:m≤1000000:=by omega
 obtain ⟨an,cn,al,cl,aw,cw,ad,cd,ap,cp,rfl,hA,_⟩:=h.ex;have HG:Hid (∀(k:Nat) w',Below w.heap.size w w'→Calls Tryz.prog 48 #[.slice an m cn,.int .i64 (k:Int)] w' (fun e w2=>e=.returned (Qad (f k))∧w'=w2)):=LH (fun k w' hb=>by
  rw [hf0];have:=Qg8 an m cn S.cache w' (hA.below hb NR) hlN (by omega) (k:Int)
  simpa using this)
 obtain ⟨s6,hs6⟩:∃n,n=S.ref.steps:=⟨_,rfl⟩
 obtain ⟨s7,hs7⟩:∃n,n=S.ref.fuse:=⟨_,rfl⟩
 obtain ⟨s8,hs8⟩:∃n,n=S.ref.dead:=⟨_,rfl⟩
 rw [← hs6,← hs7,← hs8] at HF HY HRd HRt HCl ⊢;generalize Qjy S _ w=Post at *;have HU:=LH hu;have HRo:=LH hroot;clear hX h hm hf hf0 hA hlN hsm hs6 hs7 hs8 hu hroot;have HM:=LH ((Mem.two w #[.slice an m cn,.slice al m cl,.slice aw m cw,.slice ad m cd,.slice ap m cp,.int .i64 s6,.int .i64 s7,.bool s8] 38 #[.int .i64 0,.int .u64 0,.slice none 0 0,.slice none 0 0,.slice none 0 0,.slice none 0 0,.slice none 0 0,.slice none 0 0,.int .i64 0,.int .i64 0,.bool false,.int .u64 0,.int .i64 0,.int .i64 0,.int .i64 0,.int .i64 0,.int .i64 0,.int .i64 0,.int .i64 0,.int .i64 0,.int .i64 0,.int .i64 0,.int .i64 0,.int .i64 0,.int .i64 0,.int .i64 0,.int .i64 0,.int .i64 0,.int .i64 0,.slice none 0 0] 59).alloc ((Qck 8 f 0).map Qad).toArray 101);go_enter Tryz.func13,Tryz.ntmps13;go_upto_region 2 with fail;rw [show (#[.int .u64 0,.int .u64 0,.int .u64 0,.int .u64 0,.int .u64 0,.int .u64 0,.int .u64 0,.int .u64 0]:Array Value)=((Qck 8 f 0).map Qad).toArray from rfl];obtain ⟨q1,hq1⟩:∃q,q=w.heap.size:=⟨_,rfl⟩
 obtain ⟨q2,hq2⟩:∃q,q=w.heap.size+1:=⟨_,rfl⟩
 obtain ⟨q3,hq3⟩:∃q,q=w.heap.size+1+1:=⟨_,rfl⟩
 simp only [World.size_alloc] at HM
 rw [← hq3,← hq2,← hq1] at HM ⊢;generalize ((w.alloc _).alloc _).alloc _=w1 at *;clear hq1 hq2 hq3;have HM0:Hid (Mem w w1 [⟨q1,38,[.slice an m cn,.slice al m cl,.slice aw m cw,.slice ad m cd,.slice ap m cp,.int .i64 s6,.int .i64 s7,.bool s8],true⟩,⟨q2,59,[.int .i64 0,.int .u64 0,.slice none 0 0,.slice none 0 0,.slice none 0 0,.slice none 0 0,.slice none 0 0,.slice none 0 0,.int .i64 0,.int .i64 0,.bool false,.int .u64 0,.int .i64 0,.int .i64 0,.int .i64 0,.int .i64 0,.int .i64 0,.int .i64 0,.int .i64 0,.int .i64 0,.int .i64 0,.int .i64 0,.int .i64 0,.int .i64 0,.int .i64 0,.int .i64 0,.int .i64 0,.int .i64 0,.int .i64 0,.slice none 0 0],true⟩,⟨q3,101,(Qck 8 f 0).map Qad,true⟩]):=LH (by simpa using HM.out);clear HM;go_wp2_with fail
 go_loopw [5] (fun iv wr=>∃k:Nat,k≤8∧iv=.int .i64 (k:Int)∧Hid (Mem w wr [⟨q1,38,[.slice an m cn,.slice al m cl,.slice aw m cw,.slice ad m cd,.slice ap m cp,.int .i64 s6,.int .i64 s7,.bool s8],true⟩,⟨q2,59,[.int .i64 0,.int .u64 0,.slice none 0 0,.slice none 0 0,.slice none 0 0,.slice none 0 0,.slice none 0 0,.slice none 0 0,.int .i64 0,.int .i64 0,.bool false,.int .u64 0,.int .i64 0,.int .i64 0,.int .i64 0,.int .i64 0,.int .i64 0,.int .i64 0,.int .i64 0,.int .i64 0,.int .i64 0,.int .i64 0,.int .i64 0,.int .i64 0,.int .i64 0,.int .i64 0,.int .i64 0,.int .i64 0,.int .i64 0,.slice none 0 0],true⟩,⟨q3,101,(Qck 8 f k).map Qad,true⟩])) (fun iv _=>8-(intOf iv).toNat)
 case atStart=>exact ⟨0,by omega,rfl,HM0⟩
 case round =>
  obtain ⟨k,hk,rfl,HM⟩:=hrel;clear HM0
  by_cases hlt:k<8
  ·have hlt':(k:Int)<8:=by omega
   obtain ⟨u,hu⟩:∃u,((Qck 8 f k).map Qad)[k]?=some u:=⟨_,GE (by rw [List.length_map,Qba];exact hlt)⟩
   have HS:Hid (Mem w (wr.setCell ⟨q3,k,none⟩ (Qad (f k))) [⟨q1,38,[.slice an m cn,.slice al m cl,.slice aw m cw,.slice ad m cd,.slice ap m cp,.int .i64 s6,.int .i64 s7,.bool s8],true⟩,⟨q2,59,[.int .i64 0,.int .u64 0,.slice none 0 0,.slice none 0 0,.slice none 0 0,.slice none 0 0,.slice none 0 0,.slice none 0 0,.int .i64 0,.int .i64 0,.bool false,.int .u64 0,.int .i64 0,.int .i64 0,.int .i64 0,.int .i64 0,.int .i64 0,.int .i64 0,.int .i64 0,.int .i64 0,.int .i64 0,.int .i64 0,.int .i64 0,.int .i64 0,.int .i64 0,.int .i64 0,.int .i64 0,.int .i64 0,.int .i64 0,.slice none 0 0],true⟩,⟨q3,101,(Qck 8 f (k+1)).map Qad,true⟩]):=LH (by
    have:=HM.out.set 2 k (Qad (f k)) rfl (by rw [List.length_map,Qba];exact hlt);rw [← Qch f hlt,List.map_set]
    exact this)
   have c0:wr.cell? ⟨q3,k,none⟩=some u:=HM.out.cell 2 k rfl hu;have f0:=HM.out.frozen 2 k rfl;have c1:=HM.out.cell 0 0 rfl rfl;have HGk:=LH (HG.out k wr HM.out.below);clear hu;go_wp2_with fail;refine HGk.out.mono ?_;rintro e w2 ⟨rfl,rfl⟩;go_wp2_with fail;exact ⟨⟨k+1,by omega,Qb2 (by omega),HS⟩,by simp [intOf];omega⟩
  have hi8:k=8:=by omega
  have hltd:decide ((k:Int)<8)=false:=by simp;omega
  have HM1:Hid (Mem w wr [⟨q1,38,[.slice an m cn,.slice al m cl,.slice aw m cw,.slice ad m cd,.slice ap m cp,.int .i64 s6,.int .i64 s7,.bool s8],true⟩,⟨q2,59,[.int .i64 0,.int .u64 0,.slice none 0 0,.slice none 0 0,.slice none 0 0,.slice none 0 0,.slice none 0 0,.slice none 0 0,.int .i64 0,.int .i64 0,.bool false,.int .u64 0,.int .i64 0,.int .i64 0,.int .i64 0,.int .i64 0,.int .i64 0,.int .i64 0,.int .i64 0,.int .i64 0,.int .i64 0,.int .i64 0,.int .i64 0,.int .i64 0,.int .i64 0,.int .i64 0,.int .i64 0,.int .i64 0,.int .i64 0,.slice none 0 0],true⟩,⟨q3,101,(Qas S 0 8).map Qad,true⟩]):=LH (by rw [HAll.out,← hi8];rw [hi8] at HM ⊢;exact HM.out);clear hi8 HM;go_wp2_with (refine Qag Jf5 HM1.out 2 rfl rfl rfl rfl (by rw [List.length_map,Qbl];rfl) ?_)
  refine (HDc.out _).mono ?_;rintro e w2 ⟨rfl,hb2⟩;have HM2:=LH (HM1.out.later hb2);have c1:=HM2.out.cell 0 0 rfl rfl;have hnI:(64:Int)*(n:Int)=((64*n:Nat):Int):=by omega
  obtain ⟨K,hK⟩:∃K,K=64*n:=⟨_,rfl⟩
  rw [← hK] at hnI;have HKe:=LH hK;clear hb2 hK HM1
  by_cases he:e0=0
  case neg =>
   have he':(e0 != 0)=true:=by simpa using he
   have HE:Hid (Qbx S=20):=LH (by
    have hs:Qbo S=(0,0,20):=by rw [HSup.out,if_pos (.inl he)]
    unfold Qbx;rw [hs,if_pos (by decide)])
   have HG2:=LH (fun w' h=>HF.out 20 w' HE.out (by decide) h);clear he;go_wp2_with (refine Qaa Qe2 HM2.out 1 rfl rfl rfl rfl rfl rfl rfl rfl ?_;intro w6 h6 ht6;have H6:=LH h6;clear h6 ht6)
   refine bodyPost_ret (Qac (p:=2) (u:=3) rfl _ _ _ _ _ _ _ rfl (H6.out.exact 1 rfl) Tryz.underlying59 rfl (by kernel_rfl)) rfl ?_;exact HG2.out _ H6.out.below
  subst he
  by_cases hc:K=m
  case neg =>
   have hc':((K:Int) == (m:Int))=false:=by rw [beq_eq_false_iff_ne];omega
   have hc'':((K:Int) != (m:Int))=true:=by rw [bne_iff_ne];omega
   have HE:Hid (Qbx S=20):=LH (by
    have h1:=HKe.out;have h2:=HLn.out;have hs:Qbo S=(0,0,20):=by rw [HSup.out,if_pos (.inr (by omega))]
    unfold Qbx;rw [hs,if_pos (by decide)])
   have HG2:=LH (fun w' h=>HF.out 20 w' HE.out (by decide) h);clear hc;go_wp2_with (refine Qaa Qe2 HM2.out 1 rfl rfl rfl rfl rfl rfl rfl rfl ?_;intro w6 h6 ht6;have H6:=LH h6;clear h6 ht6)
   refine bodyPost_ret (Qac (p:=2) (u:=3) rfl _ _ _ _ _ _ _ rfl (H6.out.exact 1 rfl) Tryz.underlying59 rfl (by kernel_rfl)) rfl ?_;exact HG2.out _ H6.out.below
  have HSp:Hid (Qbo S=(n,id,0)):=LH (by
   have h1:=HKe.out;have h2:=HLn.out
   rw [HSup.out,if_neg (by rintro (h | h);exact h rfl;exact h (by omega))])
  have hno:=Qij (S:=S) (by rw [HSp.out]);rw [HSp.out] at hno HY;obtain ⟨hn2,_,_⟩:=hno;dsimp only at hn2 HY;have HLe:Hid (Qay S=hds (Qaw S) n):=LH (by unfold Qay;rw [HSp.out]);have hc2:=hc.symm;clear hc;subst hc2;go_wp2_with (refine Qag Qbk HM2.out 0 rfl rfl rfl rfl rfl ?_)
  refine (HRd.out n (by omega) (by omega) w2 HM2.out.below).mono ?_;rintro e w5 ⟨hb5,⟨hall,lg,lc,rfl,hlg,hlc,hrow⟩|⟨b,hb1,hb2,_,hbad,rfl⟩⟩
  case inr =>
   have HM6:=LH (HM2.out.later hb5);have HE:Hid (Qbx S=21):=LH (by
    have:¬Qe3 (Qaw S) n:=fun hh=>hbad (hh b hb1 hb2)
    unfold Qbx
    rw [HSp.out,if_neg (by simp),if_pos this])
   have HG2:=LH (fun w' h=>HF.out 21 w' HE.out (by decide) h);clear hb5 hbad hb1 hb2 c1;go_wp2_with (refine Qaa Qe2 HM6.out 1 rfl rfl rfl rfl rfl rfl rfl rfl ?_;intro w6 h6 ht6;have H6:=LH h6;clear h6 ht6)
   refine bodyPost_ret (Qac (p:=2) (u:=3) rfl _ _ _ _ _ _ _ rfl (H6.out.exact 1 rfl) Tryz.underlying59 rfl (by kernel_rfl)) rfl ?_;exact HG2.out _ H6.out.below
  have HM6:=LH (HM2.out.later hb5);have HRow:=LH hrow;have HLg:Hid (w.heap.size≤lg):=LH (Nat.le_trans HM2.out.below.size hlg);have HLq:Hid (q2<lg):=LH (Nat.lt_of_lt_of_le (HM2.out.glt 1 rfl) hlg);have HAl:=LH hall;clear hb5 hall hlg hrow c1;go_wp2_with (refine Qag Qbk HM6.out 0 rfl rfl rfl rfl rfl ?_)
  refine (HRt.out w5 HM6.out.below).mono ?_;rintro e w6 ⟨hb6,⟨hbt,D',hD',rfl⟩|⟨hbf,rfl⟩⟩
  case inr =>
   have HM7z:=LH ((HM6.out.later hb6).alloc #[.slice none 0 0,.slice none 0 0,.slice none 0 0,.slice none 0 0,.slice none 0 0,.int .i64 0,.int .i64 0,.bool false,.int .u64 0,.int .i64 0,.int .i64 0,.int .i64 0,.int .i64 0,.int .i64 0,.int .i64 0,.int .i64 0,.int .i64 0,.int .i64 0,.int .i64 0,.int .i64 0,.int .i64 0,.int .i64 0,.int .i64 0,.int .i64 0,.int .i64 0,.int .i64 0] 57);have HE:Hid (Qbx S=23):=LH (by
    unfold Qbx
    rw [HSp.out,if_neg (by simp),if_neg (fun hh=>hh HAl.out),if_pos hbf])
   have HG2:=LH (fun w' h=>HF.out 23 w' HE.out (by decide) h);clear hb6 hbf;go_upto_region 13 with (refine Qaa Qzm HM7z.out 3 rfl rfl rfl rfl rfl rfl rfl rfl ?_;intro w7 h7 ht7;have HM7:=LH h7;clear h7 ht7)
   clear HM7z;go_wp2_with (refine Qaa Qe2 HM7.out 1 rfl rfl rfl rfl rfl rfl rfl rfl ?_;intro w6 h6 ht6;have H6:=LH h6;clear h6 ht6)
   refine bodyPost_ret (Qac (p:=2) (u:=3) rfl _ _ _ _ _ _ _ rfl (H6.out.exact 1 rfl) Tryz.underlying59 rfl (by kernel_rfl)) rfl ?_;exact HG2.out _ H6.out.below
  injection hD' with hD'
  subst hD';have HBt:=LH hbt;have hl8:(Qe7 S).length=8:=by unfold Qe7;rw [List.length_map];exact HRo.out.2.1
  obtain ⟨n0,n1,n2,n3,n4,n5,n6,n7,hfr⟩:=Qin hl8;obtain ⟨ep,hep⟩:∃ep,ep=(Qa5 S).1:=⟨_,rfl⟩
  obtain ⟨ix,hix⟩:∃ix,ix=(Qa5 S).2.2.1:=⟨_,rfl⟩
  have hrs:(Qa5 S).2.1=[(n0:Int),(n1:Int),(n2:Int),(n3:Int),(n4:Int),(n5:Int),(n6:Int),(n7:Int)]:=by rw [Qp4 hbt,hfr];rfl
  rw [hrs,← hep,← hix] at HY ⊢;rw [show Jic #[.slice an m cn,.slice al m cl,.slice aw m cw,.slice ad m cd,.slice ap m cp,.int .i64 s6,.int .i64 s7,.bool s8] ep [(n0:Int),(n1:Int),(n2:Int),(n3:Int),(n4:Int),(n5:Int),(n6:Int),(n7:Int)] ix=.agg #[.slice an m cn,.slice al m cl,.slice aw m cw,.slice ad m cd,.slice ap m cp,.int .i64 s6,.int .i64 s7,.bool s8,Qad ep,.int .i64 (n0:Int),.int .i64 (n1:Int),.int .i64 (n2:Int),.int .i64 (n3:Int),.int .i64 (n4:Int),.int .i64 (n5:Int),.int .i64 (n6:Int),.int .i64 (n7:Int),.int .i64 ix,.int .i64 (n0:Int),.int .i64 (n1:Int),.int .i64 (n2:Int),.int .i64 (n3:Int),.int .i64 (n4:Int),.int .i64 (n5:Int),.int .i64 (n6:Int),.int .i64 (n7:Int)] from rfl];have HFr:=LH hfr;have HM7z:=LH ((HM6.out.later hb6).alloc #[.slice none 0 0,.slice none 0 0,.slice none 0 0,.slice none 0 0,.slice none 0 0,.int .i64 0,.int .i64 0,.bool false,.int .u64 0,.int .i64 0,.int .i64 0,.int .i64 0,.int .i64 0,.int .i64 0,.int .i64 0,.int .i64 0,.int .i64 0,.int .i64 0,.int .i64 0,.int .i64 0,.int .i64 0,.int .i64 0,.int .i64 0,.int .i64 0,.int .i64 0,.int .i64 0] 57);have HRow6:=LH (Qa6.below HRow.out hb6);have HB7:=LH (Qaf w6 (.cells #[.slice none 0 0,.slice none 0 0,.slice none 0 0,.slice none 0 0,.slice none 0 0,.int .i64 0,.int .i64 0,.bool false,.int .u64 0,.int .i64 0,.int .i64 0,.int .i64 0,.int .i64 0,.int .i64 0,.int .i64 0,.int .i64 0,.int .i64 0,.int .i64 0,.int .i64 0,.int .i64 0,.int .i64 0,.int .i64 0,.int .i64 0,.int .i64 0,.int .i64 0,.int .i64 0] 57));clear hb6 hbt hl8 hfr hep hix hrs HM6 HRow
  go_upto_region 13 with (refine Qaa Qzm HM7z.out 3 rfl rfl rfl rfl rfl rfl rfl rfl ?_;intro w7 h7 ht7;have HM7:=LH h7;have HT7:=LH ht7;clear h7 ht7)
  obtain ⟨q5,hq5⟩:∃q,q=w6.heap.size:=⟨_,rfl⟩
  rw [← hq5] at HM7 ⊢;have HRow7:=LH ((Qa6.below HRow6.out HB7.out).keep (HT7.out.block lg (Nat.lt_of_lt_of_le HRow6.out.lt HB7.out.size) (by simp;exact Nat.ne_of_lt HRow6.out.lt)));clear hq5 HM7z HRow6 HB7 HT7;have HM8:Hid (Mem w w7 [⟨q1,38,[.slice an m cn,.slice al m cl,.slice aw m cw,.slice ad m cd,.slice ap m cp,.int .i64 s6,.int .i64 s7,.bool s8],true⟩,⟨q2,59,[.int .i64 0,.int .u64 0,.slice none 0 0,.slice none 0 0,.slice none 0 0,.slice none 0 0,.slice none 0 0,.slice none 0 0,.int .i64 0,.int .i64 0,.bool false,.int .u64 0,.int .i64 0,.int .i64 0,.int .i64 0,.int .i64 0,.int .i64 0,.int .i64 0,.int .i64 0,.int .i64 0,.int .i64 0,.int .i64 0,.int .i64 0,.int .i64 0,.int .i64 0,.int .i64 0,.int .i64 0,.int .i64 0,.int .i64 0,.slice none 0 0],true⟩,⟨q3,101,(Qas S 0 8).map Qad,true⟩,⟨q5,57,[.slice an m cn,.slice al m cl,.slice aw m cw,.slice ad m cd,.slice ap m cp,.int .i64 s6,.int .i64 s7,.bool s8,Qad ep,.int .i64 (n0:Int),.int .i64 (n1:Int),.int .i64 (n2:Int),.int .i64 (n3:Int),.int .i64 (n4:Int),.int .i64 (n5:Int),.int .i64 (n6:Int),.int .i64 (n7:Int),.int .i64 ix,.int .i64 (n0:Int),.int .i64 (n1:Int),.int .i64 (n2:Int),.int .i64 (n3:Int),.int .i64 (n4:Int),.int .i64 (n5:Int),.int .i64 (n6:Int),.int .i64 (n7:Int)],true⟩]):=LH (by simpa using HM7.out);clear HM7;have hld:∀w',(∃x:Qbi w7,w'=x.val)→∀(i:Nat) (v:Value),(#[.slice an m cn,.slice al m cl,.slice aw m cw,.slice ad m cd,.slice ap m cp,.int .i64 s6,.int .i64 s7,.bool s8]:Array Value).toList[i]?=some v→w'.cell? ⟨q1,0+i,none⟩=some v:=by
   rintro w' ⟨x,rfl⟩ i v hi;rw [Nat.zero_add];exact Qab (HM8.out.cell 0 i rfl hi) x
  go_upto_region 15 with fail;refine Qai (C:=fun w'=>∃x:Qbi (w7),w'=x.val) [.fl [0,1,2,3,4],.sq [5,6] false,.fl [7,8,9],.sq [10] false] (by kernel_rfl) (by kernel_rfl) (by intro c a d v w h;cases d <;> exact h) ?_;simp only [Qdj,Qa3,List.getElem?_cons_succ,List.getElem?_cons_zero]
  have hC1:=Qaj (w7);refine Qak hC1 ?_
  repeat (first | (refine Qbf Qbk #[.slice an m cn,.slice al m cl,.slice aw m cw,.slice ad m cd,.slice ap m cp,.int .i64 s6,.int .i64 s7,.bool s8] hld rfl rfl rfl rfl ?_) | go_big_quiet_step (fail) | quiet_step (fail))
  refine wpQuiet_nil ?_;have hbd:=Qae hC1;have HM10:=LH (HM8.out.later hbd);have HRow10:=LH (Qa6.below HRow7.out hbd);have HCf:Hid (Qaq w7.drew (some ⟨q5,9,none⟩) ([n0,n1,n2,n3,n4,n5,n6,n7].map vi)):=LH (by
   have h1:=(((HM10.out.at 3 rfl).cells).drop 9).take 8
   simpa using h1)
  have HFb:Hid (∀x∈[n0,n1,n2,n3,n4,n5,n6,n7],x≤4611686018427387904):=LH (fun x hx=>by rw [← HFr.out] at hx;have:=Qv4 HBt.out x hx;omega);generalize w7.drew=wd at *;clear hld hbd;refine Qah (fun K hK=>?_);go_wp2_with fail;refine (HCl.out n (some ⟨lg,0,none⟩) lc (hds (Qaw S) n) (some ⟨q5,9,none⟩) 8 [n0,n1,n2,n3,n4,n5,n6,n7] wd HM10.out.below (Qbs _ _) HRow10.out.cells (by omega) rfl HCf.out HFb.out).mono ?_;rintro e w9 ⟨hb9,lv,ys,ba,nb,bc,rfl,hlv,hso,hys,hrw,hnb⟩;have HM11:=LH (HM10.out.later hb9);have hC2:=Qan hC1 hb9;obtain ⟨va,vc,hv,_⟩:=hlv.cells;obtain ⟨vl,hvl⟩:∃l,l=ys.length:=⟨_,rfl⟩
  rw [← hvl] at hv;subst hv;have HLv:=LH hlv;have HSo:=LH hso;have HYs:Hid (∀x,x∈ys↔Rch (okN S (Qay S)) (Qcn S) (Qe7 S) x):=LH (fun x=>by rw [HLe.out,HFr.out];exact hys x);have HRw:Hid (∀b,Qbc (.slice va vl vc)=some b→w.heap.size≤b):=LH (fun b hb=>Nat.le_trans HM10.out.below.size (hrw b hb));have HRq:Hid (∀b,Qbc (.slice va vl vc)=some b→q2<b):=LH (fun b hb=>Nat.lt_of_lt_of_le (HM10.out.glt 1 rfl) (hrw b hb));have HRow11:=LH (Qa6.below HRow10.out hb9);have HNb:=LH hnb;have HLc:=LH hlc;clear hb9 hlv hso hys hrw hvl hnb hlc;go_wp2_with fail;refine hK _ _ (fun h=>nomatch h) ?_;clear hK K;refine Qak hC2 ?_
  repeat (first|go_big_quiet_step (fail)|quiet_step (fail))
  refine wpQuiet_nil ?_;clear hC1 hC2
  by_cases hz:nb=0
  case neg =>
   have HE:Hid (Qbx S=22):=LH (by
    unfold Qbx
    rw [HSp.out,if_neg (by simp),if_neg (fun hh=>hh HAl.out),if_neg (by rw [HBt.out];simp),if_pos (by rw [HLe.out,HFr.out];exact fun hh=>hz (HNb.out.2 hh))])
   have HG2:=LH (fun w' h=>HF.out 22 w' HE.out (by decide) h);have hpos:(0:Int)<(nb:Int):=by omega
   clear hz;refine Qal ?_;go_wp2_with (refine Qaa Qe2 HM11.out 1 rfl rfl rfl rfl rfl rfl rfl rfl ?_;intro w6 h6 ht6;have H6:=LH h6;clear h6 ht6)
   refine bodyPost_ret (Qac (p:=2) (u:=3) rfl _ _ _ _ _ _ _ rfl (H6.out.exact 1 rfl) Tryz.underlying59 rfl (by kernel_rfl)) rfl ?_;exact HG2.out _ H6.out.below
  have HE:Hid (Qbx S=0):=LH (by
   unfold Qbx
   rw [HSp.out,if_neg (by simp),if_neg (fun hh=>hh HAl.out),if_neg (by rw [HBt.out];simp),if_neg (by rw [HLe.out,HFr.out];exact fun hh=>hh (HNb.out.1 hz))])
  subst hz;have HY2:Hid (∀w',Below w.heap.size w w'→Qa6 w' lg 105 (Qbt (Qay S))→Qcs w' (.slice va vl vc) ys→Post (.returned (.tuple #[.agg #[.int .i64 (n:Int),Qad id,.slice (some ⟨lg,0,none⟩) n lc,.slice an m cn,.slice al m cl,.slice aw m cw,.slice ad m cd,.slice ap m cp,.int .i64 s6,.int .i64 s7,.bool s8,Qad ep,.int .i64 (n0:Int),.int .i64 (n1:Int),.int .i64 (n2:Int),.int .i64 (n3:Int),.int .i64 (n4:Int),.int .i64 (n5:Int),.int .i64 (n6:Int),.int .i64 (n7:Int),.int .i64 ix,.int .i64 (n0:Int),.int .i64 (n1:Int),.int .i64 (n2:Int),.int .i64 (n3:Int),.int .i64 (n4:Int),.int .i64 (n5:Int),.int .i64 (n6:Int),.int .i64 (n7:Int),.slice va vl vc],.int .i64 0])) w'):=LH (fun w' h1 h2 h3 =>
   HY.out _ lg lc (.slice va vl vc) ys w' rfl HE.out h1 h2 HLg.out HLc.out h3 HSo.out HYs.out HRw.out)
  clear HY;refine Qal ?_;go_wp2_with (first | (refine Qag Qzm HM11.out 3 rfl rfl rfl rfl rfl ?_) | (refine Qaa Qe2 HM11.out 1 rfl rfl rfl rfl rfl rfl rfl rfl ?_;intro w6 h6 ht6;have H6:=LH h6;have HT6:=LH ht6;clear h6 ht6))
  refine bodyPost_ret (Qac (p:=2) (u:=3) rfl _ _ _ _ _ _ _ rfl (H6.out.exact 1 rfl) Tryz.underlying59 rfl (by kernel_rfl)) rfl ?_;refine HY2.out _ H6.out.below ?_ ?_
  ·rw [HLe.out];exact HRow11.out.keep (HT6.out.block lg HRow11.out.lt (by simp;have:=HLq.out;omega))
  ·exact HLv.out.keep (fun b hb=>HT6.out.block b (HLv.out.lt b hb) (by simp;have:=HRq.out b hb;omega))
end
section
theorem Qfh:∀ {S:Dev} (_:S.inv) (l:List (Nat × Nat)) (_:∀p∈l,p.2<18446744073709551616),(S.stores l).dev.inv
 | S,h,[],_=>h
 | S,h,(i,x) :: l,hl=>by
  have h1:=Dev.store_inv h (i:Int) x (hl (i,x) List.mem_cons_self);rw [Qb9]
  split
  ·exact h1
  ·exact Qfh h1 l (fun p hp=>hl p (List.mem_cons_of_mem _ hp))
theorem Qdi.bind_inv {r:Qdi} (h:r.dev.inv) {f:Dev→Qdi} (hf:r.err=0→(f r.dev).dev.inv):(r.bind f).dev.inv:=by
 unfold Qdi.bind
 split
 ·exact h
 ·rename_i he;exact hf (by simpa using he)
theorem Qdi.bind_okN {r:Qdi} {M K:Nat} (h:r.dev.ok M) (hK:M≤K) {f:Dev→Qdi} (hf:(f r.dev).dev.ok K):(r.bind f).dev.ok K:=by
 unfold Qdi.bind
 split
 ·exact h.mono hK
 ·exact hf
theorem Qm6 (a:Nat) (g:Nat→Nat) (k n:Nat) (hg:∀j,g j<18446744073709551616):∀p∈upL a g k n,p.2<18446744073709551616:=fun p hp=>by
 obtain ⟨j,_,rfl⟩:=List.mem_map.1 hp;exact hg j
theorem Qms (a:Nat) (g:Nat→Nat) (hg:∀j,g j<18446744073709551616):∀p∈Qh3 a g,p.2<18446744073709551616:=fun p hp=>by
 rcases List.mem_append.1 hp with hp | hp
 ·obtain ⟨j,_,rfl⟩:=List.mem_map.1 hp;exact hg j
 ·simp only [List.mem_cons,List.not_mem_nil,or_false] at hp
  rcases hp with rfl | rfl
  ·exact hg 0
  ·exact hg 8
theorem Qzv (a:Nat) (g:Nat→Nat):(Qh3 a g).length=16:=rfl
theorem put_inv {S:Dev} (h:S.inv) {l:List (Nat × Nat)} (hl:∀p∈l,p.2<18446744073709551616) (p n:Int):((S.stores l).bind (fun S=>S.persist p n)).dev.inv :=
 Qdi.bind_inv (Qfh h l hl) (fun _=>Dev.persist_inv (Qfh h l hl) p n)
theorem Quh {S:Dev} (h:S.inv) {N:Nat} (ho:S.ok N) {l:List (Nat × Nat)} (hl:∀p∈l,p.2<18446744073709551616) (p n:Int):((S.stores l).bind (fun S=>S.persist p n)).dev.ok (N+l.length+200000) :=
 Qdi.bind_okN (Qm4 ho l) (by omega) (Dev.persist_ok (Qfh h l hl).wf (Qm4 ho l) p n)
theorem Qw7 {S:Dev} (h:S.inv) (B:Nat):(S.fmtG B).dev.inv:=put_inv h (Qm6 _ _ _ _ (fun j=>Qfx _ _ _ _)) _ _
theorem Jbc {S:Dev} (h:S.inv) {N:Nat} (ho:S.ok N) (B:Nat) (hB:B≤1000):(S.fmtG B).dev.ok (N+300000):=by
 have:=Quh h ho (Qm6 256 (fun b=>Qeq (b:Int) 0 0 0) 1 B (fun j=>Qfx _ _ _ _)) 257 ((B:Int)-1);rw [Qz7] at this;exact this.mono (by omega)
theorem Qqt {S:Dev} (h:S.inv) (a ep:Nat) (rs:List Int) (hep:ep<18446744073709551616):(S.writeSlot a ep rs).dev.inv:=put_inv h (Qms _ _ (fun j=>Qkj hep j)) _ _
theorem Qls {S:Dev} (h:S.inv) {N:Nat} (ho:S.ok N) (a ep:Nat) (rs:List Int) (hep:ep<18446744073709551616):(S.writeSlot a ep rs).dev.ok (N+300000):=by
 have:=Quh h ho (Qms a (fun k=>(Qdl ep rs).getD k 0) (fun j=>Qkj hep j)) (a:Int) 16;rw [Qzv] at this;exact this.mono (by omega)
theorem Jcy {S:Dev} (h:S.inv) (n id:Nat) (hid:id<18446744073709551616):(S.writeSuper n id).dev.inv:=by
 unfold Dev.writeSuper
 split
 ·rename_i hc
  exact put_inv h (Qm6 _ _ _ _ (fun j=>Qni (by omega) hid j)) _ _
 ·exact h
theorem Qrf {S:Dev} (h:S.inv) {N:Nat} (ho:S.ok N) (n id:Nat) (hid:id<18446744073709551616):(S.writeSuper n id).dev.ok (N+300000):=by
 unfold Dev.writeSuper
 split
 ·rename_i hc
  have:=Quh h ho (Qm6 0 (fun k=>(Qgn n id).getD k 0) 0 8 (fun j=>Qni (by omega) hid j)) 0 8;rw [Qz7] at this;exact this.mono (by omega)
 ·exact ho.mono (by omega)
def Dev.format (S:Dev) (id:Nat):Qdi :=
 if 2≤S.cache.length/512∧S.cache.length/512≤256∧512*(S.cache.length/512)=S.cache.length then
  (S.fmtG (S.cache.length/512)).bind (fun T=>(T.writeSlot 64 1 [0,0,0,0,0,0,0,0]).bind (fun U=>U.writeSuper (S.cache.length/512) id)) else ⟨S,26⟩
theorem Qrx {w:World} {F:Qb0} {S:Dev} (h:Qa7 w F S) (hi:S.inv) {N:Nat} (hN:N≤800000000) (ho:S.ok N) (id:Nat) (hid:id<18446744073709551616) :
  Calls Tryz.prog 19 #[Qei F,Qad id] w (Qco (S.format id) F w):=by
 have hsm:=h.small;obtain ⟨l,hl⟩:∃l,l=S.cache.length:=⟨_,rfl⟩
 obtain ⟨B,hB⟩:∃B,B=l/512:=⟨_,rfl⟩
 have HFm:Hid (S.format id=if 2≤B∧B≤256∧512*B=l then (S.fmtG B).bind (fun T=>(T.writeSlot 64 1 [0,0,0,0,0,0,0,0]).bind (fun U=>U.writeSuper B id)) else ⟨S,26⟩):=LH (by rw [hB,hl];rfl);have HP:Hid (∀(D:Qdi) w',D=S.format id→Qa7 w' F D.dev→Qam F.list w w'→Qco (S.format id) F w (.returned (.int .i64 D.err)) w'):=LH (fun D w' h1 h2 h3=>by rw [← h1];exact ⟨rfl,h2,h3⟩);generalize Qco (S.format id) F w=Post at *;have HLn:=LH hl;rw [← hl] at hsm;have hlB:(l:Int)/512=(B:Int):=by omega
 have hBm:B≤2000:=by omega
 have HD:=LH h;have HO:=LH ho;have HI:=LH hi;have HB0:=LH h.mem;clear h ho hi hl hB;go_enter Tryz.func19,Tryz.ntmps19;go_wp2_with fail;refine (Qc0 HD.out).mono ?_;rintro e w1 ⟨rfl,rfl⟩;rw [← HLn.out];have HM:=LH (Mem.one w #[.int .i64 (B:Int)] 44);go_upto_region 2 with fail;obtain ⟨q,hq⟩:∃q,q=w.heap.size:=⟨_,rfl⟩
 rw [← hq] at HM ⊢;have HQ:Hid (q∉F.list):=LH (fun hm=>by have:=HB0.out _ hm;omega);generalize w.alloc _=w1 at *;clear hq;have HM1:Hid (Mem w w1 [⟨q,44,[.int .i64 (B:Int)],true⟩]):=LH (by simpa using HM.out);clear HM;have c0:=HM1.out.cell 0 0 rfl rfl;go_wp2_with fail;refine (Qgv (B:Int) w1).mono ?_;rintro e w2 ⟨rfl,hb2⟩;have HM2:=LH (HM1.out.later hb2);clear hb2 c0 HM1
 by_cases hr:2≤B∧B≤256
 case neg =>
  have hr':decide ((2:Int)≤(B:Int)∧(B:Int)≤256)=false:=by rw [decide_eq_false_iff_not];omega
  rw [hr'];have HF2:=LH (fun w' h1 h2=>HP.out ⟨S,26⟩ w' (by rw [HFm.out,if_neg (fun hh=>hr ⟨hh.1,hh.2.1⟩)]) h1 h2);clear hr hr';go_wp2_with fail;exact HF2.out _ (HD.out.below HM2.out.below) (Qam.ofBelow HM2.out.below)
 have hr':decide ((2:Int)≤(B:Int)∧(B:Int)≤256)=true:=by rw [decide_eq_true_iff];omega
 rw [hr'];clear hr';have c0:=HM2.out.cell 0 0 rfl rfl;go_wp2_with fail;refine (Qgt (B:Int) w2 (by omega) (by omega)).mono ?_;rintro e w3 ⟨rfl,hb3⟩;have HM3:=LH (HM2.out.later hb3);have hnI:(B:Int)*512=((512*B:Nat):Int):=by omega
 rw [hnI];obtain ⟨K,hK⟩:∃K,K=512*B:=⟨_,rfl⟩
 rw [← hK] at HFm ⊢;clear hb3 hnI hK c0 HM2;go_wp2_with fail;refine (Qc0 (HD.out.below HM3.out.below)).mono ?_;rintro e w4 ⟨rfl,rfl⟩;rw [← HLn.out]
 by_cases hc:K=l
 case neg =>
  have hc':((K:Int) == (l:Int))=false:=by rw [beq_eq_false_iff_ne];omega
  have hc'':((K:Int) != (l:Int))=true:=by rw [bne_iff_ne];omega
  have HF2:=LH (fun w' h1 h2=>HP.out ⟨S,26⟩ w' (by rw [HFm.out,if_neg (fun hh=>hc hh.2.2)]) h1 h2);clear hc;go_wp2_with fail;exact HF2.out _ (HD.out.below HM3.out.below) (Qam.ofBelow HM3.out.below)
 have HF2:=LH (fun (D:Qdi) w' (h1:D=(S.fmtG B).bind (fun T=>(T.writeSlot 64 1 [0,0,0,0,0,0,0,0]).bind (fun U=>U.writeSuper B id))) h2 h3=>HP.out D w' (by rw [HFm.out,if_pos ⟨hr.1,hr.2,hc⟩,h1]) h2 h3);subst hc;clear HP HFm HLn;have HR:=LH hr;have hB256:B≤256:=HR.out.2;clear hr hlB hsm;have c0:=HM3.out.cell 0 0 rfl rfl;go_upto_region 4 with fail;go_wp2_with fail;refine (Quj (HD.out.below HM3.out.below) (by omega) HO.out B HR.out.1 (by omega)).mono ?_;rintro e w5 ⟨rfl,hd5,ht5⟩;have c1:=Qcd ht5 HQ.out c0;have HT5:Hid (Qam F.list w w5):=LH ((Qam.ofBelow HM3.out.below).trans ht5);have HD5:=LH hd5;have HI5:=LH (Qw7 HI.out B);have HO5:=LH (Jbc HI.out HO.out B (by omega));clear hd5 ht5 c0 HM3 HI HO HD;obtain ⟨⟨T,er⟩,hT⟩:∃D,D=S.fmtG B:=⟨_,rfl⟩
 rw [← hT] at HF2 HD5 HI5 HO5 ⊢;clear hT;dsimp only at HD5 HI5 HO5
 by_cases he:er=0
 case neg =>
  have he':(er != 0)=true:=by simpa using he
  have HF3:=LH (fun w'=>HF2.out ⟨T,er⟩ w' (by rw [Qdi.bind_err _ he]));clear he;go_wp2_with fail;exact HF3.out _ HD5.out HT5.out
 subst he;have HF3:=LH (fun D w' h1=>HF2.out D w' (by rw [Qdi.bind_ok];exact h1));clear HF2;go_wp2_with fail;refine (Qr0 HD5.out (N:=N+300000) (by omega) HO5.out).mono ?_;rintro e w6 ⟨rfl,hd6,ht6⟩;have c2:=Qcd ht6 HQ.out c1;have HT6:Hid (Qam F.list w w6):=LH (HT5.out.trans ht6);have HD6:=LH hd6;have HO6:=LH (Qls HI5.out HO5.out 64 1 [0,0,0,0,0,0,0,0] (by omega));clear hd6 ht6 c1 HI5 HO5 HD5;obtain ⟨⟨U,er⟩,hT⟩:∃D,D=T.writeSlot 64 1 [0,0,0,0,0,0,0,0]:=⟨_,rfl⟩
 rw [← hT] at HF3 HD6 HO6 ⊢;clear hT;dsimp only at HD6 HO6
 by_cases he:er=0
 case neg =>
  have he':(er != 0)=true:=by simpa using he
  have HF4:=LH (fun w'=>HF3.out ⟨U,er⟩ w' (by rw [Qdi.bind_err _ he]));clear he;go_wp2_with fail;exact HF4.out _ HD6.out HT6.out
 subst he;have HF4:=LH (fun D w' h1=>HF3.out D w' (by rw [Qdi.bind_ok];exact h1));clear HF3;go_wp2_with fail;refine (Qyf HD6.out (N:=N+300000+300000) (by omega) HO6.out B id (by omega) hid).mono ?_;rintro e w7 ⟨rfl,hd7,ht7⟩;have HT7:Hid (Qam F.list w w7):=LH (HT6.out.trans ht7);have HD7:=LH hd7;clear hd7 ht7;generalize U.writeSuper B id=D at *;go_wp2_with fail;exact HF4.out _ _ rfl HD7.out HT7.out
def Qer (was now:List Hd) (k B:Nat):List (Nat × Nat):=((List.range' k (B-k)).filter (fun b=>decide (was.getD b default≠now.getD b default))).map (fun b=>(256+b,Qeq (b:Int) (now.getD b default).k (now.getD b default).c (now.getD b default).l))
theorem Qs4 {was now:List Hd} {k B:Nat} (h:k<B) (he:was.getD k default=now.getD k default):Qer was now k B=Qer was now (k+1) B:=by
 unfold Qer;rw [show B-k=(B-(k+1))+1 by omega,List.range'_succ,List.filter_cons_of_neg (by simpa using he)]
theorem Qtn {was now:List Hd} {k B:Nat} (h:k<B) (he:was.getD k default≠now.getD k default):Qer was now k B=(256+k,Qeq (k:Int) (now.getD k default).k (now.getD k default).c (now.getD k default).l) :: Qer was now (k+1) B:=by
 unfold Qer;rw [show B-k=(B-(k+1))+1 by omega,List.range'_succ,List.filter_cons_of_pos (by simpa using he)]
 rfl
theorem Qiq (was now:List Hd) (B:Nat):Qer was now B B=[]:=by unfold Qer;rw [Nat.sub_self];rfl
def Dev.rewrite (S:Dev) (was now:List Hd) (B:Nat):Qdi:=if Qer was now 1 B=[] then ⟨S,0⟩ else (S.stores (Qer was now 1 B)).bind (fun S=>S.persist 257 ((B:Int)-1))
theorem Quw {w:World} {F:Qb0} {S:Dev} (h:Qa7 w F S) {N:Nat} (hN:N≤900000000) (ho:S.ok N) {B wg wc' ng nc:Nat} {was now:List Hd} (hw:was.length=B) (hn:now.length=B) (hB1:1≤B) (hB:B≤1000)
  (hrw:Qa6 w wg 107 (Qbt was)) (hrn:Qa6 w ng 107 (Qbt now)) (hwf:wg∉F.list) (hnf:ng∉F.list) :
  Calls Tryz.prog 67 #[Qei F,Qgk (B:Int),.slice (some ⟨wg,0,none⟩) B wc',.slice (some ⟨ng,0,none⟩) B nc] w (Qco (S.rewrite was now B) F w):=by
 have HP:Hid (∀(D:Qdi) w',D=S.rewrite was now B→Qa7 w' F D.dev→Qam F.list w w'→Qco (S.rewrite was now B) F w (.returned (.int .i64 D.err)) w'):=LH (fun D w' h1 h2 h3=>by rw [← h1];exact ⟨rfl,h2,h3⟩);generalize Qco (S.rewrite was now B) F w=Post at *;have hbx:=Qaf w (.cells #[.int .i64 (B:Int)] 44);have hcx:(w.alloc (.cells #[.int .i64 (B:Int)] 44)).cell? ⟨w.heap.size,0,none⟩=some (.int .i64 (B:Int)):=Qat _ _ _ 0 _ rfl;have HD:=LH (h.below hbx);have HT:Hid (Qam F.list w (w.alloc (.cells #[.int .i64 (B:Int)] 44))):=LH (Qam.ofBelow hbx);have HQ:Hid (w.heap.size∉F.list):=LH (fun hm=>by have:=h.mem _ hm;omega);have HO:=LH ho;have HRw:=LH (hrw.below hbx);have HRn:=LH (hrn.below hbx);have HWl:=LH hw;have HNl:=LH hn;have HWf:=LH hwf;have HNf:=LH hnf;clear h hbx ho hrw hrn hw hn hwf hnf;go_enter Tryz.func67,Tryz.ntmps67;go_upto_region 1 with fail;obtain ⟨q,hq⟩:∃q,q=w.heap.size:=⟨_,rfl⟩
 rw [← hq] at hcx HQ ⊢;generalize w.alloc _=w0 at *;clear hq;go_wp2_with fail
 go_loopw [9,10] (fun cv iv wr=>∃(b:Nat) (T:Dev) (ch:Bool),1≤b∧b≤B∧cv=.bool ch∧iv=.int .i64 (b:Int)∧Hid (Qa7 wr F T)∧Hid (Qam F.list w wr)∧Hid (T.ok (N+b))∧wr.cell? ⟨q,0,none⟩=some (.int .i64 (B:Int))∧
  Hid (T.stores (Qer was now b B)=S.stores (Qer was now 1 B))∧Hid ((ch=false→Qer was now 1 B=Qer was now b B)∧(ch=true→Qer was now 1 B≠[]))∧Hid (Qa6 wr wg 107 (Qbt was))∧Hid (Qa6 wr ng 107 (Qbt now))) (fun _ iv _=>B-(RowKit.intOf iv).toNat)
 case atStart=>exact ⟨1,S,false,Nat.le_refl _,by omega,rfl,rfl,HD,HT,LH (HO.out.mono (by omega)),hcx,LH rfl,LH ⟨fun _=>rfl,fun h=>by cases h⟩,HRw,HRn⟩
 case round =>
  obtain ⟨b,T,ch,hb1,hb2,rfl,rfl,HDr,HTr,HOr,hc,HSt,HCh,HRwr,HRnr⟩:=hrel;clear hcx HD HT HRw HRn
  by_cases hlt:b<B
  ·have hlt':(b:Int)<(B:Int):=by omega
   obtain ⟨k1,c1,z1,he1⟩:=Qe5 was b;obtain ⟨k2,c2,z2,he2⟩:=Qe5 now b;obtain ⟨bw,ow,qw,x0,x1,x2⟩:=Qcq HRwr.out.cells (by rw [HWl.out];exact hlt) he1;obtain ⟨bn,on,qn,y0,y1,y2⟩:=Qcq HRnr.out.cells (by rw [HNl.out];exact hlt) he2;injection qw with qw
   injection qw with qw1 qw2
   injection qn with qn
   injection qn with qn1 qn2
   subst qw1 qw2 qn1 qn2;rw [Nat.zero_add] at x0 x1 x2 y0 y1 y2;have rx0:=fun x=>Qab x0 x
   have rx1:=fun x=>Qab x1 x
   have rx2:=fun x=>Qab x2 x
   have ry0:=fun x=>Qab y0 x
   have ry1:=fun x=>Qab y1 x
   have ry2:=fun x=>Qab y2 x
   have HE1:=LH he1;have HE2:=LH he2;clear he1 he2 x0 x1 x2
   by_cases hqe:(⟨k1,c1,z1⟩:Hd)=⟨k2,c2,z2⟩
   ·have heq:∀w',(Op.equalIn 10000 107 (.agg #[.int .i64 k1,.int .i64 c1,.int .i64 z1]) (.agg #[.int .i64 k2,.int .i64 c2,.int .i64 z2])).run Tryz.prog w'=.ok true w':=fun w'=>Qk9 w' _ _ _ _ _ _ _ (by rw [← Qi7];simp [hqe])
    have HSk:=LH (Qs4 (was:=was) (now:=now) hlt (by rw [HE1.out,HE2.out,hqe]));have HSt2:Hid (T.stores (Qer was now (b+1) B)=S.stores (Qer was now 1 B)):=LH (by rw [← HSk.out];exact HSt.out);have HCh2:Hid ((ch=false→Qer was now 1 B=Qer was now (b+1) B)∧(ch=true→Qer was now 1 B≠[])):=LH (by rw [← HSk.out];exact HCh.out);clear hqe y0 y1 y2;go_upto_region 5 with fail;refine Qbh (by kernel_rfl) (by kernel_rfl) ?_
    repeat (first|go_big_quiet_step (fail)|quiet_step (fail))
    refine wpQuiet_nil ?_;rintro w1 ⟨z,hz⟩;have hbz:Below wr.heap.size wr w1:=by rw [hz];exact z.below
    have HD1:=LH (HDr.out.below hbz);have HT1:Hid (Qam F.list w w1):=LH (HTr.out.trans (Qam.ofBelow hbz));have hc1:=Qaz hbz hc NR;have HR1:=LH (HRwr.out.below hbz);have HR2:=LH (HRnr.out.below hbz);clear hz hbz rx0 rx1 rx2 ry0 ry1 ry2 hc HDr HTr HRwr HRnr heq;go_wp2_with fail;exact ⟨⟨b+1,T,ch,by omega,by omega,rfl,Qb2 (by omega),HD1,HT1,LH (HOr.out.mono (by omega)),hc1,HSt2,HCh2,HR1,HR2⟩,by simp [RowKit.intOf];omega⟩
   ·have heq:∀w',(Op.equalIn 10000 107 (.agg #[.int .i64 k1,.int .i64 c1,.int .i64 z1]) (.agg #[.int .i64 k2,.int .i64 c2,.int .i64 z2])).run Tryz.prog w'=.ok false w':=fun w'=>Qk9 w' _ _ _ _ _ _ _ (by rw [← Qi7];simp [hqe])
    have HCo:=LH (Qtn (was:=was) (now:=now) hlt (by rw [HE1.out,HE2.out];exact hqe));rw [HE2.out] at HCo;dsimp only at HCo;have HSt1:=LH (by rw [HCo.out] at HSt;exact HSt.out);obtain ⟨x,hx⟩:∃x,x=Qeq (b:Int) k2 c2 z2:=⟨_,rfl⟩
    have HXl:Hid (x<18446744073709551616):=LH (by rw [hx];exact Qfx _ _ _ _);have HXe:=LH hx;rw [← hx] at HSt1;have HSc:=LH (Qb9 T (256+b) x (Qer was now (b+1) B));have HSt2:=LH (HSc.out.symm.trans HSt1.out);have HNe:Hid (Qer was now 1 B≠[]):=LH (by
     cases hch:ch with
     | true=>exact HCh.out.2 hch
     | false=>rw [HCh.out.1 hch,HCo.out];simp)
    clear hqe HSc HSt1 HSt hx;go_upto_region 5 with fail;refine Qbh (by kernel_rfl) (by kernel_rfl) ?_
    repeat (first|go_big_quiet_step (fail)|quiet_step (fail))
    refine wpQuiet_nil ?_;rintro w1 ⟨z,hz⟩;have hbz:Below wr.heap.size wr w1:=by rw [hz];exact z.below
    have HD1:=LH (HDr.out.below hbz);have HT1:Hid (Qam F.list w w1):=LH (HTr.out.trans (Qam.ofBelow hbz));have hc1:=Qaz hbz hc NR;have HR1:=LH (HRwr.out.below hbz);have HR2:=LH (HRnr.out.below hbz);have y0':=Qaz hbz y0 NR;have y1':=Qaz hbz y1 NR;have y2':=Qaz hbz y2 NR;clear hz hbz rx0 rx1 rx2 ry0 ry1 ry2 hc HDr HTr HRwr HRnr heq y0 y1 y2;have rc:=fun x=>Qab hc1 x
    have ry0:=fun x=>Qab y0' x
    have ry1:=fun x=>Qab y1' x
    have ry2:=fun x=>Qab y2' x
    have HH:Hid (Qsq (B:Int) (b:Int)=((256+b:Nat):Int)):=LH (by unfold Qsq;rw [if_neg (by omega)];omega);go_upto_region 7 with fail;refine Qai (C:=fun w'=>∃x:Qbi (w1),w'=x.val) [.fl [0,1,2,4,5,6,7,8],.sq [3] true,.sq [9] true,.sq [10,11] false] (by kernel_rfl) (by kernel_rfl) (by intro c a d v w h;cases d <;> exact h) ?_;simp only [Qdj,Qa3,List.getElem?_cons_succ,List.getElem?_cons_zero]
    have hC1:=Qaj (w1);refine Qak hC1 ?_
    repeat (first|go_big_quiet_step (fail)|quiet_step (fail))
    refine wpQuiet_nil ?_;have HB2:=LH (Qae hC1);generalize w1.drew=w2 at *;clear rc ry0 ry1 ry2 y0' y1' y2';refine Qah (fun K hK=>?_);go_wp2_with fail;refine (Qfr (B:Int) (b:Int) w2 (by omega)).mono ?_;rintro e w3 ⟨rfl,hb3⟩;rw [HH.out];obtain ⟨j,hj⟩:∃j,j=256+b:=⟨_,rfl⟩
    have hj9:j≤2000:=by omega
    rw [← hj] at HSt2 ⊢;have hC2:=Qan hC1 hb3;have HB3:=LH (HB2.out.trans (hb3.mono HB2.out.size));clear hj HH hb3;go_wp2_with fail;refine hK _ _ (fun _=>hC2) ?_;clear hK K;refine Qah (fun K hK=>?_);go_wp2_with fail;refine (Qjk (b:Int) k2 c2 z2 (by omega) (by omega) w3).mono ?_;rintro e w4 ⟨rfl,hb4⟩;rw [← HXe.out];have hC3:=Qan hC2 hb4;have HB4:=LH (HB3.out.trans (hb4.mono HB3.out.size));clear hb4;go_wp2_with fail;refine hK _ _ (fun _=>hC3) ?_;clear hK K;clear hC1 hC2 hC3;have HD4:=LH (HD1.out.below HB4.out);have HT4:Hid (Qam F.list w w4):=LH (HT1.out.trans (Qam.ofBelow HB4.out));have hc4:=Qaz HB4.out hc1 NR;have HR3:=LH (HR1.out.below HB4.out);have HR4:=LH (HR2.out.below HB4.out);clear hc1 HD1 HT1 HR1 HR2 HB2 HB3 HB4;refine Qal ?_;go_wp2_with fail;refine (Qgz HD4.out (N:=N+b) (by omega) HOr.out (j:Int) x HXl.out).mono ?_;rintro e w5 ⟨rfl,hd5,ht5⟩;have hc5:=Qcd ht5 HQ.out hc4;have HD5:=LH hd5;have HT5:Hid (Qam F.list w w5):=LH (HT4.out.trans ht5);have HO5:=LH (Dev.store_okN HOr.out (j:Int) x);have HR5:=LH (HR3.out.keep (ht5.block wg HR3.out.lt HWf.out));have HR6:=LH (HR4.out.keep (ht5.block ng HR4.out.lt HNf.out));clear hd5 ht5 hc4 HD4 HT4 HR3 HR4
    by_cases he:T.storeE (j:Int)=0
    ·have HSt3:=LH (by rw [if_neg (by simp [he])] at HSt2;exact HSt2.out);rw [he];generalize T.store (j:Int) x=T' at *;clear he HSt2 HOr;go_wp2_with fail;exact ⟨⟨b+1,T',true,by omega,by omega,rfl,Qb2 (by omega),HD5,HT5,LH (HO5.out.mono (by omega)),hc5,HSt3,LH ⟨fun h=>(by cases h),fun _=>HNe.out⟩,HR5,HR6⟩,by simp [RowKit.intOf];omega⟩
    ·have HSt3:=LH (by rw [if_pos he] at HSt2;exact HSt2.out);obtain ⟨er,her⟩:∃er,er=T.storeE (j:Int):=⟨_,rfl⟩
     rw [← her] at he HSt3 ⊢;have he':(er != 0)=true:=by simpa using he
     generalize T.store (j:Int) x=T' at *;have HF3:=LH (fun w'=>HP.out ⟨T',er⟩ w' (by unfold Dev.rewrite;rw [if_neg HNe.out,← HSt3.out,Qdi.bind_err _ he]));clear he her HSt2 HOr HSt3;go_wp2_with fail;exact HF3.out _ HD5.out HT5.out
  ·have hbe:b=B:=by omega
   have HSt2:Hid (S.stores (Qer was now 1 B)=⟨T,0⟩):=LH (by rw [← HSt.out,hbe,Qiq];rfl);have hltd:decide ((b:Int)<(B:Int))=false:=by simp;omega
   cases ch with
   | false =>
    have hnil:Qer was now 1 B=[]:=by rw [HCh.out.1 rfl,hbe,Qiq]
    have HTS:Hid (T=S):=LH (by
     have:=HSt2.out;rw [hnil] at this;have h2:(⟨S,0⟩:Qdi)=⟨T,0⟩:=this;injection h2 with h2
     exact h2.symm)
    have HF3:=LH (fun w'=>HP.out ⟨S,0⟩ w' (by unfold Dev.rewrite;rw [if_pos hnil]));clear hnil hbe HSt;go_wp2_with fail;exact HF3.out _ (by rw [← HTS.out];exact HDr.out) HTr.out
   | true =>
    have HF3:=LH (fun (D:Qdi) w' (h1:D=T.persist 257 ((B:Int)-1))=>HP.out D w' (by unfold Dev.rewrite;rw [if_neg (HCh.out.2 rfl),HSt2.out,Qdi.bind_ok,h1]));have HO2:Hid (T.ok (N+B)):=LH (by rw [← hbe];exact HOr.out);have HH:Hid (Qsq (B:Int) 1=if B=1 then -1 else 257):=LH (by
     unfold Qsq
     by_cases c:B=1
     ·rw [if_pos (by omega),if_pos c]
     ·rw [if_neg (by omega),if_neg c];rfl)
    clear hbe HSt HOr
    by_cases hB2:B=1
    ·exact absurd (by rw [hB2];exact Qiq was now 1) (HCh.out.2 rfl)
    rw [if_neg hB2] at HH;go_wp2_with fail;refine (Qfr (B:Int) 1 _ (by omega)).mono ?_;rintro e w3 ⟨rfl,hb3⟩;rw [HH.out];have HD3:=LH (HDr.out.below hb3);have HT3:Hid (Qam F.list w w3):=LH (HTr.out.trans (Qam.ofBelow hb3));clear hb3 hc;go_wp2_with fail;refine (Qhs HD3.out (N:=N+B) (by omega) HO2.out 257 ((B:Int)-1) (by omega) (by omega)).mono ?_;rintro e w6 ⟨rfl,hd6,ht6⟩;have HT6:=LH (HT3.out.trans ht6);have HD6:=LH hd6;have HF4:=LH (fun w'=>HF3.out _ w' rfl);clear hd6 ht6 HF3;generalize T.persist 257 ((B:Int)-1)=D at *;go_wp2_with fail;exact HF4.out _ HD6.out HT6.out
end
section
section
variable {P:Program} {ops:Array Oper} {md:Region.Mode} {C:World→Prop} {Q:Exit→Act→World→Prop} {ex:List Nat}
end
end
section
open Go.Maps
theorem Qxt (l:List Bool):(Qey l).Pairwise (· < ·):=List.Pairwise.sublist List.filter_sublist List.pairwise_lt_range
end
section
variable {B:Nat} {m:Al}
end
section
section
variable {C:World→Prop} {ops:Array Oper} {rest:List Oper} {o:Oper} {a:Act} {Q:Act→Prop}
end
end
section
open Go.Maps
def Qjp (w w':World) (A:AF) (n B:Nat) (m:Al):Prop:=∃R',Qfy w' (A.re R') n B m∧Qam A.R w w'∧∀b∈R',b∈A.R∨w.heap.size≤b
theorem Qjp.refl {w:World} {A:AF} {n B:Nat} {m:Al} (h:Qfy w A n B m):Qjp w w A n B m:=⟨A.R,h,Qam.refl _ _,fun _ h=>.inl h⟩
theorem Qjp.later {w w1 w2:World} {A:AF} {n B:Nat} {m:Al} (h:Qjp w w1 A n B m) (hb:Below w1.heap.size w1 w2):Qjp w w2 A n B m:=by
 obtain ⟨R',h1,h2,h3⟩:=h;exact ⟨R',h1.below hb,h2.later hb,h3⟩
theorem Qjp.trans {w w1 w2:World} {A:AF} {R1:List Nat} {n B:Nat} {m:Al} (h1:Qam A.R w w1) (h2:∀b∈R1,b∈A.R∨w.heap.size≤b) (h:Qjp w1 w2 (A.re R1) n B m):Qjp w w2 A n B m:=by
 obtain ⟨R',g1,g2,g3⟩:=h;refine ⟨R',g1,h1.own g2 (fun b hb=>(h2 b hb).symm),fun b hb=>?_⟩;rcases g3 b hb with c | c
 ·exact h2 b c
 ·exact .inr (Nat.le_trans h1.size c)
theorem Qfy.setFreeR {w w':World} {A:AF} {n n' B:Nat} {m:Al} {S:FL} (h:Qfy w A n B m) (hn:n≤n') (hg:Qj8 w w' A.f A.mb n' A.R S):Qjp w w' A n' B ⟨m.bm,m.used,S⟩:=by
 obtain ⟨R',g1,g2,g3⟩:=hg;have hk:∀k∈A.fix,w'.heap[k]?=w.heap[k]?:=fun k hk=>g2.block k (h.fixlt hk) (fun hm=>h.nR k hm hk)
 refine ⟨R',⟨(hk A.a (by simp [AF.fix])).trans h.head,(h.man.keep (fun k hk'=>hk k (by simp [AF.fix,hk']))).mono hn,h.set.keep (fun k hk'=>hk k (by simp [AF.fix,hk'])),g1,h.nd,fun b hb hf=>?_,h.lenU⟩,g2,g3⟩;rcases g3 b hb with c | c
 ·exact h.nR b c hf
 ·have:=h.fixlt hf;omega
theorem Qvm {w:World} {A:AF} {n B:Nat} {m:Al} (h:Qfy w A n B m) (hB:B≤200) (hL:m.fl.upto 900000) (b k:Nat) (hk:k<32) (hb:1≤b) (hbB:b<B) (hlen:m.used.length=512*B) :
  Calls Tryz.prog 122 #[Qeb A,.int .i64 (b:Int),.int .i64 (k:Int)] w fun e w'=>e=.returned (.tuple #[])∧Qjp w w' A n B ⟨m.bm,m.used,m.carved b k⟩:=by
 have HA:=LH h;have HUp:=LH hL;have HCN:Hid (Qbd k≤256):=LH (by
  have:=Qbr (k:Int) (by omega);unfold Qbd
  exact Nat.div_le_of_le_mul (by omega))
 obtain ⟨N,hN⟩:∃N,N=Qbd k:=⟨_,rfl⟩
 have HAdr:Hid (∀i:Nat,i<N→Qgs (B:Int) (k:Int) (b:Int) (i:Int)=(Qbw b k i:Nat)):=LH (fun i hi=>Qtw hk hb hbB (by rw [← hN];exact hi));have HCar:Hid (m.carved b k=m.fl.carve (fun a=>m.used.getD a false) (Qbw b k) k N):=LH (by rw [hN];rfl);have HCells:=LH (fun w=>Qo9 (k:Int) w);rw [← hN] at HCN HCells;clear h hL hN;go_enter Tryz.func122,Tryz.ntmps122;go_wp2_with fail;refine (HCells.out _).mono ?_;rintro e w1 ⟨rfl,hb1⟩;have HB1:=LH hb1;have hN2:=HCN.out;clear hb1;go_wp2_with fail
 go_loopw [6] (fun iv wr=>∃(j:Nat) (T:FL),j≤N∧iv=.int .i64 ((j:Int)-1)∧Hid (m.carved b k=T.carve (fun a=>m.used.getD a false) (Qbw b k) k j)∧Hid (T.upto (900000+(N-j)))∧Hid (Qjp w wr A n B ⟨m.bm,m.used,T⟩)) (fun iv _=>(intOf iv+1).toNat)
 case atStart=>exact ⟨N,m.fl,Nat.le_refl _,Qb2 (by omega),HCar,LH (HUp.out.mono (by omega)),LH ((Qjp.refl HA.out).later HB1.out)⟩
 case round =>
  clear HB1;obtain ⟨j,T,hj,rfl,HT,HTu,HGo⟩:=hrel
  cases j with
  | zero =>
   have HFin:Hid (Qjp w wr A n B ⟨m.bm,m.used,m.carved b k⟩):=LH (by rw [HT.out];exact HGo.out);go_wp2_with fail
   go_end0
   exact ⟨rfl,HFin.out⟩
  | succ i =>
   have hi0:((i+1:Nat):Int)-1=(i:Int):=by omega
   rw [hi0];obtain ⟨R1,ha1,ht1,hr1⟩:=HGo.out;have HA1:=LH ha1;have HT1:=LH ht1;have HR1:=LH hr1;have c2:=ha1.c2;clear ha1 ht1 hr1;have HCs:Hid (T.carve (fun a=>m.used.getD a false) (Qbw b k) k (i+1)=(if m.used.getD (Qbw b k i) false then T else T.pushed k (Qbw b k i)).carve (fun a=>m.used.getD a false) (Qbw b k) k i):=LH rfl;have HAd:=LH (Qtd B (by omega) (k:Int) (b:Int) (i:Int));rw [HAdr.out i (by omega)] at HAd;have HHas:=LH (Qir m.used (Qbw b k i));generalize Qbw b k i=x at *;change wr.cell? ⟨A.a,2,none⟩=some (.int .i64 (B:Int)) at c2;go_wp2_with fail;refine (HAd.out _).mono ?_;rintro e w2 ⟨rfl,hb2⟩;have HA2:=LH (HA1.out.below hb2);have HB2:=LH hb2;have c3:=HA2.out.c3;have c4:=HA2.out.c4;change w2.cell? ⟨A.a,3,none⟩=some (Qk6 A.U) at c3;change w2.cell? ⟨A.a,4,none⟩=some (.pointer (some ⟨A.f,0,none⟩)) at c4;clear hb2 c2;go_wp2_with fail;refine (Qro HA2.out.set (x:Int)).mono ?_;rintro e w3 ⟨rfl,rfl⟩;dsimp only;rw [HHas.out]
   cases hu:m.used.getD x false with
   | true =>
    have HNext:Hid (m.carved b k=T.carve (fun a=>m.used.getD a false) (Qbw b k) k i):=LH (by rw [HT.out,HCs.out,hu];rfl);clear hu;go_wp2_with fail
    go_roundw
    case rel=>exact ⟨i,T,by omega,Qb2 (by omega),HNext,LH (HTu.out.mono (by omega)),LH (HGo.out.later HB2.out)⟩
    case measure=>simp [intOf]
   | false =>
    have HNext:Hid (m.carved b k=(T.pushed k x).carve (fun a=>m.used.getD a false) (Qbw b k) k i):=LH (by rw [HT.out,HCs.out,hu];rfl);clear hu;go_wp2_with fail;refine (Jaq HA2.out.free (HTu.out.mono (by omega)) k x hk).mono ?_;rintro e w4 ⟨rfl,hg4⟩;have HGo4:Hid (Qjp w w4 A n B ⟨m.bm,m.used,T.pushed k x⟩):=LH (Qjp.trans (HT1.out.later HB2.out) HR1.out (HA2.out.setFreeR NR hg4));have HTu4:=LH (FL.pushed_upto HTu.out k x);clear hg4;generalize (if T.has k x=true then (41:Int) else 0)=er at *;go_wp2_with fail
    go_roundw
    case rel=>exact ⟨i,_,by omega,Qb2 (by omega),HNext,LH (HTu4.out.mono (by omega)),HGo4⟩
    case measure=>simp [intOf]
def Qc5 (u:List Bool) (L:List Hd):Nat→FL
 | 0=>FL.empty
 | n+1=>if (Qe9 L ((n+1:Nat):Int)).k=1 then (Qc5 u L n).carve (fun a=>u.getD a false) (Qbw (n+1) (Qe9 L ((n+1:Nat):Int)).c.toNat) (Qe9 L ((n+1:Nat):Int)).c.toNat (Qbd (Qe9 L ((n+1:Nat):Int)).c.toNat) else Qc5 u L n
def Qcl (S:Dev) (L:List Hd):List Bool→List Int→List Bool × Int
 | u,[]=>(u,0)
 | u,x :: xs=>if (Qax S L x).isSome=false then (u,22) else if Qhu u x=false then (u,41) else Qcl S L (Qza u x) xs
theorem Ql7 (S:Dev) (L:List Hd) (u:List Bool) (x:Int) (xs:List Int):Qcl S L u (x :: xs)=if (Qax S L x).isSome=false then (u,22) else if Qhu u x=false then (u,41) else Qcl S L (Qza u x) xs:=rfl
theorem Quu {k:Nat} (hk:k<32):Qbd k≤256:=by
 have:=Qbr (k:Int) (by omega);unfold Qbd;exact Nat.div_le_of_le_mul (by omega)
theorem Qxr:FL.empty.upto 0:=by
 intro i hi;unfold FL.at FL.empty
 split <;> simp
theorem Jaa {B:Nat} {m:Bm} (h:Qqd B m) {j:Nat} (h1:1≤j) (hj:j<B) (hk:(Qe9 m.list (j:Int)).k=1):0≤(Qe9 m.list (j:Int)).c∧(Qe9 m.list (j:Int)).c<32:=by
 rw [Qwg h h1 hj] at hk ⊢;have hr:=of_decide_eq_true (h.right j hj);unfold Qb5 at hr;omega
theorem Ql5 {B:Nat} {m:Bm} (h:Qqd B m) (u:List Bool):∀n,n<B→(Qc5 u m.list n).upto (256*n)
 | 0,_=>Qxr
 | n+1,hn=>by
  have ih:=Ql5 h u n (by omega);unfold Qc5
  by_cases c:(Qe9 m.list ((n+1:Nat):Int)).k=1
  ·rw [if_pos c];have hc:=Jaa h (by omega) hn c;exact (FL.carve_upto ih _).mono (by have:=Quu (k:=(Qe9 m.list ((n+1:Nat):Int)).c.toNat) (by omega);omega)
  ·rw [if_neg c];exact ih.mono (by omega)
def Qle (w : World) (X : MF) (n B : Nat) (m : Bm) (xs : List Int) : Ending → World → Prop := fun e w' => Below w.heap.size w w' ∧
  (((Qcl m.dev m.list (List.replicate m.dev.cache.length false) xs).2 = 0 ∧ ∃ A : AF, e = .returned (.tuple #[Qeb A, .int .i64 0]) ∧ A.X = X ∧
     Qfy w' A n B ⟨m, (Qcl m.dev m.list (List.replicate m.dev.cache.length false) xs).1, Qc5 (Qcl m.dev m.list (List.replicate m.dev.cache.length false) xs).1 m.list (B - 1)⟩ ∧ ∀ k ∈ A.list, k ∈ X.list ∨ w.heap.size ≤ k) ∨
   ((Qcl m.dev m.list (List.replicate m.dev.cache.length false) xs).2 ≠ 0 ∧ e = .returned (.tuple #[.pointer none, .int .i64 (Qcl m.dev m.list (List.replicate m.dev.cache.length false) xs).2])))
theorem Jdf {w:World} {X:MF} {n B:Nat} {m:Bm} (h:Qfg w X n B m) (hok:Qqd B m) (hB1:1≤B) (hB:B≤200) (hlen:m.dev.cache.length=512*B) (ua:Option Addr) (ul uc:Nat) (xs:List Int) (hx:xs.length=ul) (hcs:Qaq w ua (xs.map (Value.int .i64))) (hul:ul≤1000000) :
  Calls Tryz.prog 70 #[Qei X.F,.pointer (some ⟨X.m,0,none⟩),.slice ua ul uc] w (Qle w X n B m xs):=by
 have HM:=LH h;have HOk:=LH hok;have HSm:=LH h.dev.small;have HXm:=LH h.mem;have HX:=LH hx;have HCs:=LH hcs;have HLen:=LH hlen;obtain ⟨u0,hu0⟩:∃u0,u0=List.replicate m.dev.cache.length false:=⟨_,rfl⟩
 have HU0:Hid (u0.length=512*B):=LH (by rw [hu0,List.length_replicate,hlen]);have HPost:Hid (∀A w' u,Qcl m.dev m.list u0 xs=(u,0)→A.X=X→Qfy w' A n B ⟨m,u,Qc5 u m.list (B-1)⟩→Below w.heap.size w w'→(∀k∈A.list,k∈X.list∨w.heap.size≤k)→Qle w X n B m xs (.returned (.tuple #[Qeb A,.int .i64 0])) w'):=LH (fun A w' u h0 a b c d=>by
  unfold Qle;rw [← hu0,h0]
  exact ⟨c,.inl ⟨rfl,A,rfl,a,b,d⟩⟩)
 have HPerr:Hid (∀w' u c,Qcl m.dev m.list u0 xs=(u,c)→c≠0→Below w.heap.size w w'→Qle w X n B m xs (.returned (.tuple #[.pointer none,.int .i64 c])) w'):=LH (fun w' u c h0 hc hb=>by
  unfold Qle;rw [← hu0,h0]
  exact ⟨hb,.inr ⟨hc,rfl⟩⟩)
 generalize Qle w X n B m xs=Post at *;have hlen1:1≤m.dev.cache.length:=by omega
 have HL1:=LH hlen1;have HU0e:=LH hu0;clear h hok hx hcs hlen hu0 hlen1;go_enter Tryz.func70,Tryz.ntmps70;go_wp2_with fail;refine (Jae HM.out).mono ?_;rintro e w1 ⟨rfl,hb1⟩;have HM1:=LH (HM.out.below hb1);have HB1:=LH hb1;clear hb1;go_wp2_with fail;refine (Qc0 HM1.out.dev).mono ?_;rintro e w2 ⟨rfl,rfl⟩;go_wp2_with fail;refine (Jc8 m.dev.cache.length HL1.out HSm.out _).mono ?_;rintro e w2 ⟨U,rfl,hU2,hb2,hU3⟩;have HM2:=LH (HM1.out.below hb2);have HB2:=LH (HB1.out.trans (hb2.mono HB1.out.size));have HU:=LH hU2;have HUn:=LH (fun k hk=>Nat.le_trans HB1.out.size (hU3 k hk));clear hU2 hb2 hU3 HM1;go_wp2_with fail;refine (Jed _).mono ?_;rintro e w3 ⟨f,mb,rfl,hf3,hb3,hf4,hf5⟩;have HM3:=LH (HM2.out.below hb3);have HB3:=LH (HB2.out.trans (hb3.mono HB2.out.size));have HU3:=LH (HU.out.below hb3);have HF:=LH hf3;have HFn:Hid (w2.heap.size≤f∧w2.heap.size≤mb):=LH ⟨hf4,hf5⟩;have HW2:=LH HB2.out.size;have HU2m:=LH HU.out.mem;clear hf3 hb3 hf4 hf5 HM2;go_upto_region 2 with fail;have hbx:=Qaf w3 (Obj.cells #[.pointer (some ⟨X.m,0,none⟩),Qei X.F,.int .i64 (B:Int),Qk6 U,.pointer (some ⟨f,0,none⟩)] 77);have hhx:=heap_alloc_new w3 (Obj.cells #[.pointer (some ⟨X.m,0,none⟩),Qei X.F,.int .i64 (B:Int),Qk6 U,.pointer (some ⟨f,0,none⟩)] 77);obtain ⟨A,hA⟩:∃A:AF,A=⟨w3.heap.size,X,U,f,mb,[f,mb]⟩:=⟨_,rfl⟩
 have HAA:Hid (A.X=X∧∀k∈A.list,k∈X.list∨w.heap.size≤k):=LH (by
  subst hA;refine ⟨rfl,fun k hk=>?_⟩;simp only [AF.list,AF.fix,List.mem_append,List.mem_cons,List.not_mem_nil,or_false] at hk
  have h1:=HW2.out;have h2:=HB3.out.size;have h3:=HFn.out;rcases hk with (rfl | hk | hk) | rfl | rfl
  ·right;exact h2
  ·exact .inl hk
  ·exact .inr (HUn.out k hk)
  ·right;omega
  ·right;omega)
 have HAt:Hid (Qfy (w3.alloc (Obj.cells #[.pointer (some ⟨X.m,0,none⟩),Qei X.F,.int .i64 (B:Int),Qk6 U,.pointer (some ⟨f,0,none⟩)] 77)) A n B ⟨m,List.replicate m.dev.cache.length false,FL.empty⟩):=LH (by
  subst hA;have h1:=HW2.out;have h2:=HB3.out.size;have h3:=HFn.out;have hfm:=HF.out.mem;have hf1:=hfm f (by simp);have hf2:=hfm mb (by simp);obtain ⟨_,_,_,_,hne⟩:=id HF.out;have hmbf:f≠mb:=by obtain ⟨V,hV,_⟩:=id HF.out;exact hV.ne
  obtain ⟨ws,hws⟩:=id HU3.out;have hune:=hws.ne;have hu1:=HU2m.out U.u (by simp [Qgo.list]);have hu2:=HU2m.out U.b (by simp [Qgo.list]);have hu3:=HUn.out U.u (by simp [Qgo.list]);have hu4:=HUn.out U.b (by simp [Qgo.list]);have hXl:∀k,w.heap.size≤k→k∉X.list:=fun k hk hm=>by have:=HXm.out k hm;omega
  refine ⟨hhx,HM3.out.below hbx,HU3.out.below hbx,(HF.out.below hbx).mono (Nat.zero_le _),?_,?_,by simp⟩
  ·show (w3.heap.size :: (X.list ++ [U.u,U.b])).Nodup;rw [List.nodup_cons,List.nodup_append];refine ⟨?_,HM3.out.nd,by simpa using hune,?_⟩
   ·simp only [List.mem_append,List.mem_cons,List.not_mem_nil,or_false,not_or]
    exact ⟨hXl _ h2,by omega,by omega⟩
   ·intro a ha b hb e;subst e;simp only [List.mem_cons,List.not_mem_nil,or_false] at hb
    rcases hb with rfl | rfl
    ·exact hXl _ hu3 ha
    ·exact hXl _ hu4 ha
  ·intro b hb;show b∉w3.heap.size :: (X.list ++ [U.u,U.b])
   simp only [List.mem_cons,List.mem_append,List.not_mem_nil,or_false,not_or] at hb ⊢
   rcases hb with rfl | rfl
   ·exact ⟨by omega,hXl _ (by omega),by omega,by omega⟩
   ·exact ⟨by omega,hXl _ (by omega),by omega,by omega⟩)
 have HB4:=LH (HB3.out.trans (hbx.mono HB3.out.size));have HAv:Hid (w3.heap.size=A.a):=LH (by rw [hA]);have HXe:Hid (A.X=X):=LH HAA.out.1;generalize w3.alloc _=w4 at *;rw [HAv.out];have HAr:Hid (∀b∈A.R,w.heap.size≤b):=LH (by
  subst hA;intro b hb;simp only [List.mem_cons,List.not_mem_nil,or_false] at hb
  have h1:=HB2.out.size;have h3:=HFn.out
  rcases hb with rfl | rfl <;> omega)
 have HAu:Hid (∀b∈A.U.list,w.heap.size≤b):=LH (by subst hA;exact HUn.out);rw [← HU0e.out] at HAt;clear hA hbx hhx HM3 HU3 HF HU2m HUn HFn HW2 HM HXm HB3 HB2 HB1 HU HAv HU0e HL1;go_wp2_with fail
 go_loopw [27] (fun iv wr=>∃(i:Nat) (u:List Bool) (R:List Nat),i≤ul∧iv=.int .i64 (i:Int)∧Hid (Qcl m.dev m.list u0 xs=Qcl m.dev m.list u (xs.drop i))∧Hid (u.length=512*B)∧Hid (Qfy wr (A.re R) n B ⟨m,u,FL.empty⟩)∧Hid (Below w.heap.size w wr)∧Hid (∀b∈R,w.heap.size≤b)) (fun iv _=>ul-(intOf iv).toNat)
 case atStart=>exact ⟨0,u0,A.R,Nat.zero_le _,rfl,LH rfl,HU0,HAt,HB4,HAr⟩
 case round =>
  clear HAt HB4 HAr;obtain ⟨i,u,R,hi,rfl,HNu,HUl,HAt,HBw,HR⟩:=hrel
  by_cases hlt:i<ul
  ·have hlt':(i:Int)<(ul:Int):=by omega
   have hil:i<xs.length:=by rw [HX.out];exact hlt
   obtain ⟨ub,uo,rfl,hub,hcl⟩:=(HCs.out.below HBw.out NR).atMap (0:Int) hil;have e0:=hcl i hil;obtain ⟨x,hx⟩:∃x,x=xs.getD i 0:=⟨_,rfl⟩
   have HDr:Hid (xs.drop i=x :: xs.drop (i+1)):=LH (by
    rw [hx,List.drop_eq_getElem_cons hil,GD,GE hil];rfl)
   rw [← hx] at e0;have HNu2:=HNu.out;rw [HDr.out,Ql7] at HNu2;have HNu3:=LH HNu2;clear HNu2 HNu HDr hcl hil hx hub;go_wp2_with fail;refine (Qyk HAt.out (by omega) x).mono ?_;rintro e w5 ⟨⟨p,d,rfl,_⟩,hb5⟩;have HA5:=LH (HAt.out.below hb5);have HB5:Hid (Below w.heap.size w w5):=LH (HBw.out.trans (hb5.mono HBw.out.size));clear hb5 HAt HBw;generalize (Qax m.dev m.list x).isSome=bp at *;have hbx:=Qaf w5 (Obj.cells #[.int .i64 p,.int .i64 d] 211);have HA6:=LH (HA5.out.below hbx);have HB6:Hid (Below w.heap.size w _):=LH (HB5.out.trans (hbx.mono HB5.out.size));clear hbx HA5 HB5
   cases bp with
   | false =>
    have HE:=LH (HPerr.out _ _ _ (by rw [HNu3.out,if_pos rfl]) (by decide) HB6.out);clear HNu3 HA6 HB6;go_wp2_with fail;exact HE.out
   | true =>
    have HNu4:Hid (Qcl m.dev m.list u0 xs=if Qhu u x=false then (u,41) else Qcl m.dev m.list (Qza u x) (xs.drop (i+1))):=LH (by rw [HNu3.out,if_neg (by simp)]);clear HNu3;have c3:=HA6.out.c3;change World.cell? _ ⟨A.a,3,none⟩=some (Qk6 A.U) at c3;go_wp2_with fail;refine (Jee HA6.out.set x).mono ?_;rintro e w7 ⟨rfl,hs7,ht7⟩;have HB7:Hid (Below w.heap.size w w7):=LH (HB6.out.trans (ht7.below HB6.out.size HAu.out));have hul2:(Qza u x).length=u.length:=by
     unfold Qza
     split
     ·exact List.length_set
     ·rfl
    obtain ⟨R',hg1,_,hg3⟩:=HA6.out.setUsed hs7 ht7 hul2;have HA7:Hid (Qfy w7 (A.re R') n B ⟨m,Qza u x,FL.empty⟩):=LH hg1;have HR7:Hid (∀b∈R',w.heap.size≤b):=LH (fun b hb=>(hg3 b hb).elim (HR.out b) (fun c=>Nat.le_trans HB6.out.size c));have HUl7:Hid ((Qza u x).length=512*B):=LH (by rw [hul2,HUl.out]);clear hs7 ht7 hul2 hg1 hg3 c3 HA6 HB6;generalize hfr:Qhu u x=fr at *
    cases fr with
    | false =>
     have HE:=LH (HPerr.out _ _ _ (by rw [HNu4.out,if_pos rfl]) (by decide) HB7.out);clear HNu4;go_wp2_with fail;exact HE.out
    | true =>
     have HNu5:Hid (Qcl m.dev m.list u0 xs=Qcl m.dev m.list (Qza u x) (xs.drop (i+1))):=LH (by rw [HNu4.out,if_neg (by simp)]);clear HNu4 hfr;go_wp2_with fail
     go_roundw
     case rel=>exact ⟨i+1,_,R',by omega,Qb2 (by omega),HNu5,HUl7,HA7,HB7,HR7⟩
     case measure=>simp [intOf];omega
  ·obtain rfl:i=ul:=by omega
   have HNu2:Hid (Qcl m.dev m.list u0 xs=(u,0)):=LH (by
    rw [HNu.out,List.drop_of_length_le (by rw [HX.out];exact Nat.le_refl _)];rfl)
   clear HNu hlt hi;have HCt:Hid (Qc5 u m.list 0=FL.empty):=LH rfl;go_wp2_with fail
   go_loopw [13] (fun bv wr=>∃(j:Nat) (R:List Nat),j+1≤B∧bv=.int .i64 ((j+1:Nat):Int)∧Hid (Qfy wr (A.re R) n B ⟨m,u,Qc5 u m.list j⟩)∧Hid (Below w.heap.size w wr)∧Hid (∀b∈R,w.heap.size≤b)) (fun bv _=>B-(intOf bv).toNat)
   case atStart=>exact ⟨0,R,by omega,rfl,LH (by rw [HCt.out];exact HAt.out),HBw,HR⟩
   case round =>
    clear HAt HBw HR HCt;obtain ⟨j,R,hj1,rfl,HAt,HBw,HR⟩:=hrel;have c0:=HAt.out.man.c0;have HMan:Hid (Qfg wr X n B m):=LH (by have:=HAt.out.man;rw [show (A.re R).X=X from HXe.out] at this;exact this);rw [show (A.re R).X=X from HXe.out] at c0;go_wp2_with fail;refine (Jdj HMan.out.tab).mono ?_;rintro e w5 ⟨rfl,rfl⟩
    by_cases hlt:j+1<B
    ·have hlt':((j+1:Nat):Int)<(B:Int):=by omega
     have HGet:=LH (Jd9 (HMan.out.tab.at (MF.notHot (MF.apart HMan.out.nd).t).1) ((j+1:Nat):Int) (by rw [HMan.out.tab.len];omega));have HCv:Hid (Qc5 u m.list (j+1)=if (Qe9 m.list ((j+1:Nat):Int)).k=1 then (Qc5 u m.list j).carve (fun a=>u.getD a false) (Qbw (j+1) (Qe9 m.list ((j+1:Nat):Int)).c.toNat) (Qe9 m.list ((j+1:Nat):Int)).c.toNat (Qbd (Qe9 m.list ((j+1:Nat):Int)).c.toNat) else Qc5 u m.list j):=LH rfl;have HCl:=LH (fun (hk:(Qe9 m.list ((j+1:Nat):Int)).k=1)=>Jaa HOk.out (by omega) hlt hk);have HUp:=LH ((Ql5 HOk.out u j (by omega)).mono (show 256*j≤900000 by omega));obtain ⟨J,hJ⟩:∃J,J=j+1:=⟨_,rfl⟩
     rw [← hJ] at HGet HCv HCl hlt' hlt ⊢;have HJ:=LH hJ;clear hJ hj1;unfold Hd.val at HGet;generalize Qe9 m.list (J:Int)=hd at *;obtain ⟨k,c,l⟩:=hd;dsimp only at HGet HCv HCl;go_wp2_with fail;refine HGet.out.mono ?_;rintro e w6 ⟨rfl,hb6⟩;have hbx:=Qaf w6 (Obj.cells #[.int .i64 k,.int .i64 c,.int .i64 l] 107);have HA6:=LH ((HAt.out.below hb6).below hbx);have HB6:Hid (Below w.heap.size w _):=LH ((HBw.out.trans (hb6.mono HBw.out.size)).trans (hbx.mono (Nat.le_trans HBw.out.size hb6.size)));clear hb6 hbx HGet HAt HBw HMan c0
     by_cases hk:k=1
     ·subst hk;obtain ⟨h1,h2⟩:=HCl.out rfl;obtain ⟨cc,rfl⟩:=Int.eq_ofNat_of_zero_le h1;have HCv2:Hid (Qc5 u m.list J=(⟨m,u,Qc5 u m.list j⟩:Al).carved J cc):=LH (by rw [HCv.out,if_pos rfl,HJ.out];rfl);have HCa:=LH (Qvm HA6.out hB HUp.out J cc (by omega) (by have:=HJ.out;omega) hlt HUl.out);rw [← HCv2.out] at HCa;clear HCv HCl HCv2 h1 h2;go_wp2_with fail;refine HCa.out.mono ?_;rintro e w7 ⟨rfl,R',hg1,hg2,hg3⟩;have HA7:Hid (Qfy w7 (A.re R') n B ⟨m,u,Qc5 u m.list J⟩):=LH hg1;have HB7:Hid (Below w.heap.size w w7):=LH (HB6.out.trans (hg2.below HB6.out.size HR.out));have HR7:Hid (∀b∈R',w.heap.size≤b):=LH (fun b hb=>(hg3 b hb).elim (HR.out b) (fun c=>Nat.le_trans HB6.out.size c));clear hg1 hg2 hg3 HA6 HB6 HCa;go_wp2_with fail
      go_roundw
      case rel=>exact ⟨J,R',by omega,Qb2 (by omega),HA7,HB7,HR7⟩
      case measure=>have hJe:=HJ.out;simp [intOf];omega
     ·have hk1:((k:Int) == 1)=false:=by simpa using hk
      have HA7:Hid (Qfy _ (A.re R) n B ⟨m,u,Qc5 u m.list J⟩):=LH (by rw [HCv.out,if_neg hk];exact HA6.out);clear HCv HCl HA6;go_wp2_with fail
      go_roundw
      case rel=>exact ⟨J,R,by omega,Qb2 (by omega),HA7,HB6,HR⟩
      case measure=>have hJe:=HJ.out;simp [intOf];omega
    ·obtain rfl:B=j+1:=by omega
     have HFin:=LH (HPost.out (A.re R) _ u HNu2.out HXe.out HAt.out HBw.out (fun k hk=>(AF.re_list hk).elim (HAA.out.2 k) (fun c=>.inr (HR.out k c))));clear HAt HBw HR HNu2 HMan c0;have hlt':decide (j+1<j+1)=false:=by simp
     clear hlt;go_wp2_with fail;exact HFin.out
end
section
variable {B:Nat} {m:Al} {bm:Bm}
theorem Qp1 (h:Qqd B bm) {b:Nat} (h1:1≤b) (h2:b<B):Qaw bm.dev b=Qeq (b:Int) (bm.list.getD b default).k (bm.list.getD b default).c (bm.list.getD b default).l:=by
 unfold Qaw;rw [show (256+(b:Int))=((256+b:Nat):Int) by omega,Qlm];exact h.word b h1 h2
theorem Qp3 (f:Nat→Nat) {k q:Nat} (h:q<k):(hds f k).getD q default=hdF f q:=by
 unfold hds;rw [GD,List.getElem?_map,List.getElem?_range h]
 rfl
theorem Qrm (h:Qqd B bm):Qe3 (Qaw bm.dev) B∧∀q,1≤q→(hds (Qaw bm.dev) B).getD q default=bm.list.getD q default:=by
 refine ⟨fun b h1 h2=>by rw [Qp1 h h1 h2,Qq3 _ _ _ _ (h.right b h2)],fun q h1=>?_⟩
 by_cases h2:q<B
 ·rw [Qp3 _ h2];unfold hdF;rw [if_neg (by omega),Qp1 h h1 h2,Qq3 _ _ _ _ (h.right q h2)]
 ·rw [GD,List.getElem?_eq_none (by rw [Qbs];omega),GD,List.getElem?_eq_none (by rw [h.lenL];omega)]
theorem Qso (h:Qqd B bm):Qqd B (Qog bm.dev B):=by
 have hq:=(Qrm h).2;unfold Qog;refine ⟨Qbs _ _,Qfw _ _ _,h.clean,fun b hb=>?_,fun b h1 h2=>?_,fun b=>?_,fun b h1 h2 hk=>?_⟩
 ·dsimp only
  by_cases e:b=0
  ·subst e;rw [Qp3 _ hb]
   rfl
  ·rw [hq b (by omega)];exact h.right b hb
 ·dsimp only;rw [hq b h1];exact h.word b h1 h2
 ·dsimp only;rw [Qef];unfold Qd1;constructor
  ·rintro ⟨_,h2,h3,h4⟩;exact ⟨h2,h3,by simpa using h4⟩
  ·rintro ⟨h2,h3,h4⟩;exact ⟨h3,h2,h3,by simpa using h4⟩
 ·dsimp only at hk ⊢;rw [hq b h1] at hk ⊢;obtain ⟨g1,g2⟩:=h.large b h1 h2 hk;exact ⟨g1,fun i i1 i2=>by rw [hq _ (by omega)];exact g2 i i1 i2⟩
theorem Jde (h:Qqd B bm) (hs:Snd bm.list):Snd (Qog bm.dev B).list:=by
 have hq:=(Qrm h).2;intro q q1 hk;rw [show (Qog bm.dev B).list=hds (Qaw bm.dev) B from rfl] at hk ⊢;rw [hq q q1] at hk;obtain ⟨a,a1,a2,a3,a4⟩:=hs q q1 hk;exact ⟨a,a1,a2,by rw [hq a a1];exact a3,by rw [hq a a1];exact a4⟩
theorem Qqu (h:Qqd B bm) (hs:Snd bm.list):∀f b,1≤b→(∀a,1≤a→a<b→(bm.list.getD a default).k=2→(a:Int)+(bm.list.getD a default).l≤(b:Int))→Qc9 bm.list f b=0
 | 0,_,_,_=>rfl
 | f+1,b,hb,hr=>by
  unfold Qc9
  by_cases c:bm.list.length≤b
  ·rw [if_pos c]
  ·rw [if_neg c];have hbB:b<B:=by rw [h.lenL] at c;omega
   have hri:=of_decide_eq_true (h.right b hbB);unfold Qb5 at hri
   by_cases h2:(bm.list.getD b default).k=2
   ·rw [if_pos h2];obtain ⟨g1,g2⟩:=h.large b hb hbB h2;obtain ⟨l,hl⟩:=Int.eq_ofNat_of_zero_le (show 0≤(bm.list.getD b default).l by omega);have hw:Qa4 bm.list b=l:=by
     refine Qta (by omega) ?_ (by rw [h.lenL];omega) (fun i i1 i2=>g2 i i1 (by omega));have h3:(bm.list.getD b default).c=0:=by omega
     generalize bm.list.getD b default=x at *;obtain ⟨k,c,l'⟩:=x;dsimp only at h2 h3 hl;rw [h2,h3,hl]
    rw [hw,if_neg (by omega)];refine Qqu h hs f (b+l) (by omega) (fun a a1 a2 hk=>?_)
    by_cases c1:a<b
    ·have:=hr a a1 c1 hk;omega
    ·by_cases c2:a=b
     ·subst c2;omega
     ·have:=g2 (a-b) (by omega) (by omega);rw [show b+(a-b)=a by omega] at this;rw [this] at hk;exact absurd hk (by simp)
   ·rw [if_neg h2]
    by_cases h3:(bm.list.getD b default).k=3
    ·obtain ⟨a,a1,a2,a3,a4⟩:=hs b hb h3;have:=hr a a1 a2 a3;omega
    ·rw [if_neg h3];refine Qqu h hs f (b+1) (by omega) (fun a a1 a2 hk=>?_)
     by_cases c2:a=b
     ·subst c2;exact absurd hk h2
     ·have:=hr a a1 (by omega) hk;omega
theorem Qyr (h:Qqd B bm) (hs:Snd bm.list):Qc9 (hds (Qaw bm.dev) B) B 1=0 :=
 Qqu (Qso h) (Jde h hs) B 1 NR (fun a a1 a2 _=>by omega)
structure Qq4 (L L':List Hd):Prop where
 len:L'.length=L.length
 at_:∀q,1≤q→L'.getD q default=L.getD q default
theorem Qq4.cell {L L':List Hd} (h:Qq4 L L') (k x:Nat):Qc3 L' k x↔Qc3 L k x:=by
 unfold Qc3;rw [h.len];refine and_congr_right fun h1=>?_
 rw [h.at_ _ (by omega)]
theorem Qq4.cont {L L':List Hd} (h:Qq4 L L') {b:Nat} (hb:1≤b):∀n,Qdg L' b n=Qdg L b n
 | 0=>rfl
 | n+1=>by unfold Qdg;rw [h.cont hb n,h.at_ _ (by omega)]
theorem Qq4.whole {L L':List Hd} (h:Qq4 L L') {b:Nat} (hb:1≤b):Qa4 L' b=Qa4 L b:=by
 unfold Qa4;rw [h.len,h.at_ _ hb,h.cont hb]
theorem Qq4.placed {L L':List Hd} (h:Qq4 L L') (S:Dev) (x:Int):Qax S L' x=Qax S L x:=by
 unfold Qax;rw [h.len]
 by_cases c:x<512∨512*(L.length:Int)≤x∨(Qa9 S x).code≠0
 ·rw [if_pos c,if_pos c]
 ·rw [if_neg c,if_neg c,h.whole (by omega)];simp only [h.cell]
theorem Qz0 (h:Qqd B bm):Qq4 bm.list (Qog bm.dev B).list:=⟨by rw [h.lenL];exact Qbs _ _,(Qrm h).2⟩
theorem Jb6 (k x:Nat):FL.empty.cnt k x=0:=by unfold FL.cnt FL.empty;simp
theorem Qnj (h:Qqd B bm) (u:List Bool):∀n,n<B→∀k x:Nat,(Qc5 u bm.list n).cnt k x=if Qc3 bm.list k x∧u.getD x false=false∧x/512≤n then 1 else 0
 | 0,_,k,x=>by
  rw [if_neg (by rintro ⟨hc,_,h1⟩;have:=hc.1;omega)];exact Jb6 _ _
 | n+1,hn,k,x=>by
  have ih:=Qnj h u n (by omega);unfold Qc5;have hg:=Qwg h (a:=n+1) (by omega) hn
  by_cases c:(Qe9 bm.list ((n+1:Nat):Int)).k=1
  ·rw [if_pos c];have hc:=Jaa h (by omega) hn c;have hri:=of_decide_eq_true (h.right (n+1) hn);unfold Qb5 at hri;rw [hg] at c hc ⊢;obtain ⟨cc,hcc⟩:=Int.eq_ofNat_of_zero_le hc.1;rw [hcc] at hc ⊢;rw [show ((cc:Nat):Int).toNat=cc from rfl];have hk:cc<32:=by omega
   have hL:bm.list.getD (n+1) default=⟨1,cc,0⟩:=by
    have h3:(bm.list.getD (n+1) default).l=0:=by omega
    generalize bm.list.getD (n+1) default=y at *;obtain ⟨k',c',l'⟩:=y;dsimp only at c hcc h3;rw [c,hcc,h3]
   have hio:∀x,Qc3 bm.list cc x∧x/512=n+1↔∃i,i<Qbd cc∧x=Qbw (n+1) cc i:=fun x=>Qsp hk (by omega) (by rw [h.lenL];exact hn) hL
   rw [FL.carve_cnt (Qpw hk) (fun i hi=>by
    rw [ih,if_neg];rintro ⟨_,_,h3⟩;have:=(Qii hk hi (b:=n+1)).1
    omega),ih]
   by_cases e:x/512=n+1
   ·rw [if_neg (by rintro ⟨_,_,h3⟩;omega),Nat.zero_add]
    congr 1
    refine propext ⟨fun ⟨h1,h2,h3⟩=>?_,fun ⟨h1,h2,_⟩=>?_⟩
    ·subst h1;exact ⟨((hio x).2 h3).1,h2,by omega⟩
    ·have h4:=h1.2.2.1;rw [e,hL] at h4;have h5:=congrArg Hd.c h4;dsimp only at h5;obtain rfl:k=cc:=by omega
     exact ⟨rfl,h2,(hio x).1 ⟨h1,e⟩⟩
   ·rw [if_neg (c:=k=cc∧_) (by rintro ⟨_,_,h3⟩;exact e ((hio x).2 h3).2),Nat.add_zero]
    congr 1
    refine propext ⟨fun ⟨h1,h2,h3⟩=>⟨h1,h2,by omega⟩,fun ⟨h1,h2,h3⟩=>⟨h1,h2,by omega⟩⟩
  ·rw [if_neg c,ih]
   congr 1
   refine propext ⟨fun ⟨h1,h2,h3⟩=>⟨h1,h2,by omega⟩,fun ⟨h1,h2,h3⟩=>⟨h1,h2,?_⟩⟩;have:x/512≠n+1:=fun e=>by
    have h4:=Qof h1;rw [e] at h4;rw [hg] at c;exact c h4
   omega
def Qdu (u:List Bool) (xs:List Nat):List Bool:=xs.foldl (fun u x=>u.set x true) u
theorem Qoe:∀(xs:List Nat) (u:List Bool),(Qdu u xs).length=u.length
 | [],_=>rfl
 | x :: xs,u=>by
  show (Qdu (u.set x true) xs).length=_;rw [Qoe,List.length_set]
theorem Qm7 {l:List Bool} {a:Nat} (ha:a<l.length) (x:Nat):(l.set a true).getD x false=if x=a then true else l.getD x false:=by
 by_cases e:x=a
 ·subst e;rw [if_pos rfl,GD,List.getElem?_set_self ha]
  rfl
 ·rw [if_neg e,GD,List.getElem?_set_ne (fun h=>e h.symm),← GD]
theorem Qpv:∀(xs:List Nat) (u:List Bool),(∀x∈xs,x<u.length)→∀y,(Qdu u xs).getD y false=(u.getD y false || decide (y∈xs))
 | [],u,_,y=>by simp [Qdu]
 | x :: xs,u,h,y=>by
  show (Qdu (u.set x true) xs).getD y false=_;rw [Qpv xs _ (fun z hz=>by rw [List.length_set];exact h z (List.mem_cons_of_mem _ hz)),Qm7 (h x List.mem_cons_self)]
  by_cases e:y=x
  ·rw [if_pos e];simp [e]
  ·rw [if_neg e];simp [e]
theorem Qop {S:Dev} {L:List Hd} : ∀(xs:List Nat) (u:List Bool),(∀x∈xs,(Qax S L (x:Int)).isSome=true∧x<u.length∧u.getD x false=false)→xs.Nodup→∀ys,Qcl S L u (xs.map (fun x:Nat=>(x:Int)) ++ ys)=Qcl S L (Qdu u xs) ys
 | [],u,_,_,ys=>rfl
 | x :: xs,u,h,hn,ys=>by
  obtain ⟨h1,h2,h3⟩:=h x List.mem_cons_self;rw [List.map_cons,List.cons_append,Ql7,if_neg (by rw [h1];simp)];have hf:Qhu u (x:Int)=true:=by
   unfold Qhu;rw [Qir,h3];simp [h2]
  rw [if_neg (by rw [hf];simp),Jdb h2 h3];obtain ⟨n1,n2⟩:=List.nodup_cons.1 hn;rw [Qop xs _ (fun z hz=>?_) n2]
  ·rfl
  ·obtain ⟨g1,g2,g3⟩:=h z (List.mem_cons_of_mem _ hz);refine ⟨g1,by rw [List.length_set];exact g2,?_⟩;rw [Qm7 h2,if_neg (fun e=>n1 (by rw [← e];exact hz))];exact g3
end
section
theorem Qye {b:Int} {x:Nat} (h:(Qge b x).code=0):Qeq b (Qge b x).k (Qge b x).c (Qge b x).l=x∧Qcg (Qge b x).k (Qge b x).c (Qge b x).l=true:=by
 cases ho:Qeo x (pl (256+b)) with
 | none =>
  unfold Qge at h;rw [ho] at h;simp at h
 | some n =>
  rw [Qkg ho] at h ⊢;unfold Jgu at h ⊢
  by_cases h1:Qeq b (n % 4:Nat) (n/4 % 64:Nat) (n/256 % 65536:Nat)=x
  ·have hr:=Qn4 ho h1;rw [if_pos h1,if_pos hr];exact ⟨h1,hr⟩
  ·rw [if_neg h1] at h;simp at h
theorem Qto {α:Type} (l s:List α) (o i:Nat) (d:α) (h:o+s.length≤l.length):(splice l o s).getD i d=if o≤i∧i<o+s.length then s.getD (i-o) d else l.getD i d:=by
 have hl:(l.take o).length=o:=by rw [List.length_take];omega
 unfold splice;rw [GD]
 by_cases h1:i<o
 ·rw [List.getElem?_append_left (by omega),List.getElem?_take,if_pos h1,if_neg (by omega),GD]
 ·rw [List.getElem?_append_right (by omega),hl]
  by_cases h2:i<o+s.length
  ·rw [List.getElem?_append_left (by omega),if_pos (by omega),GD]
  ·rw [List.getElem?_append_right (by omega),List.getElem?_drop,if_neg (by omega),GD]
   congr 2
   omega
def Qk1 (L:List Hd) (x i:Nat):Prop:=512≤x∧x<512*L.length∧x/512≤i∧i<x/512+Qfq L (x/512)
open Classical in
theorem Jec (L out:List Hd) (x i:Nat) (h:out.length=L.length):(Qha L out x).getD i default=if Qk1 L x i then L.getD i default else out.getD i default:=by
 unfold Qha
 by_cases c:x<512∨512*L.length≤x
 ·rw [if_pos c,if_neg (by rintro ⟨h1,h2,_⟩;omega)]
 ·rw [if_neg c];have hb:x/512<L.length:=by omega
  have hf:=Qgu hb;have hl:((L.drop (x/512)).take (Qfq L (x/512))).length=Qfq L (x/512):=by rw [List.length_take,List.length_drop];omega
  rw [Qto _ _ _ _ _ (by rw [hl,h];exact hf.2),hl]
  by_cases c2:x/512≤i∧i<x/512+Qfq L (x/512)
  ·rw [if_pos c2,if_pos ⟨by omega,by omega,c2.1,c2.2⟩,GD,List.getElem?_take,if_pos (by omega),List.getElem?_drop,GD,show x/512+(i-x/512)=i by omega]
  ·rw [if_neg c2,if_neg (fun hh=>c2 ⟨hh.2.2.1,hh.2.2.2⟩)]
open Classical in
theorem Qw4 (L:List Hd) (live:List Nat) (i:Nat):(Qa2 L live).getD i default=if ∃x∈live,Qk1 L x i then L.getD i default else default:=by
 have go:∀(l:List Nat) (out:List Hd),out.length=L.length→(l.foldl (Qha L) out).getD i default=if ∃x∈l,Qk1 L x i then L.getD i default else out.getD i default:=by
  intro l
  induction l with
  | nil=>intro out _;simp
  | cons x l ih =>
   intro out h;show (l.foldl (Qha L) (Qha L out x)).getD i default=_;rw [ih _ (Qsf L out x h),Jec L out x i h]
   by_cases c1:∃y∈l,Qk1 L y i
   ·rw [if_pos c1,if_pos (by obtain ⟨y,hy,hs⟩:=c1;exact ⟨y,List.mem_cons_of_mem _ hy,hs⟩)]
   ·rw [if_neg c1]
    by_cases c2:Qk1 L x i
    ·rw [if_pos c2,if_pos ⟨x,List.mem_cons_self,c2⟩]
    ·rw [if_neg c2,if_neg (by
      rintro ⟨y,hy,hs⟩;rcases List.mem_cons.1 hy with rfl | hy
      ·exact c2 hs
      ·exact c1 ⟨y,hy,hs⟩)]
 unfold Qa2;rw [go live _ (by simp)]
 congr 1
 rw [GD,List.getElem?_replicate]
 split <;> rfl
structure Qow (S:Dev) (L:List Hd) (ys:List Nat):Prop where
 ok:∀x∈ys,okN S L x
 right:∀b,b<L.length→Qcg (L.getD b default).k (L.getD b default).c (L.getD b default).l=true
 zero:L.getD 0 default=default
section
variable {S:Dev} {L:List Hd} {ys:List Nat}
theorem Qow.room (h:Qow S L ys) {x:Nat} (hx:x∈ys):512≤x∧x<512*L.length∧
  ((Qfq L (x/512)=1∧(L.getD (x/512) default).k=1)∨(Qa4 L (x/512)≠0∧Qfq L (x/512)=Qa4 L (x/512))):=by
 have hk:=h.ok x hx;have hlt:=Ql9 hk;obtain ⟨o,ho⟩:=Option.isSome_iff_exists.1 hk;refine ⟨hlt.1,hlt.2,?_⟩;rcases Qus ho with ⟨k,_,hc,_⟩|⟨m,_,_,hm,hw,_⟩
 ·have h1:=Qof hc;refine .inl ⟨?_,h1⟩;unfold Qfq;have:Qa4 L (x/512)=0:=by
   by_cases c:Qa4 L (x/512)=0
   ·exact c
   ·have:=(Qdt c).2.1;omega
  rw [this];rfl
 ·refine .inr ⟨by omega,?_⟩;unfold Qfq;omega
theorem Qow.kept (h:Qow S L ys) {x:Nat} (hx:x∈ys) {i:Nat} (h1:x/512≤i) (h2:i<x/512+Qfq L (x/512)):(Qa2 L ys).getD i default=L.getD i default:=by
 classical
 rw [Qw4,if_pos ⟨x,hx,(h.room hx).1,(h.room hx).2.1,h1,h2⟩]
theorem Qow.kept0 (h:Qow S L ys) {x:Nat} (hx:x∈ys):(Qa2 L ys).getD (x/512) default=L.getD (x/512) default:=by
 have hr:=h.room hx;have:=(Qgu (L:=L) (b:=x/512) (by omega)).1;exact h.kept hx NR (by omega)
theorem Qow.cases (h:Qow S L ys) (i:Nat):(Qa2 L ys).getD i default=default∨((Qa2 L ys).getD i default=L.getD i default∧∃x∈ys,x/512≤i∧i<x/512+Qfq L (x/512)):=by
 classical
 rw [Qw4]
 by_cases c:∃x∈ys,Qk1 L x i
 ·rw [if_pos c];obtain ⟨x,hx,hs⟩:=c;exact .inr ⟨rfl,x,hx,hs.2.2.1,hs.2.2.2⟩
 ·rw [if_neg c];exact .inl rfl
theorem Qow.two (h:Qow S L ys) {b:Nat} (hk:((Qa2 L ys).getD b default).k=2):∃x∈ys,x/512=b∧Qa4 L b≠0∧Qfq L b=Qa4 L b:=by
 rcases h.cases b with c | ⟨c,x,hx,h1,h2⟩
 ·rw [c] at hk;cases hk
 ·rcases (h.room hx).2.2 with ⟨r1,r2⟩|⟨r1,r2⟩
  ·have hb:b=x/512:=by omega
   rw [c,hb] at hk;omega
  ·by_cases hb:b=x/512
   ·exact ⟨x,hx,hb.symm,by rw [hb];exact r1,by rw [hb];exact r2⟩
   ·have:=(Qdt r1).2.2.2.2 (b-x/512) (by omega) (by omega);rw [show x/512+(b-x/512)=b by omega] at this;rw [c,this] at hk
    cases hk
theorem Qow.three (h:Qow S L ys) {b:Nat} (hk:((Qa2 L ys).getD b default).k=3):∃x∈ys,x/512<b∧b<x/512+Qa4 L (x/512)∧Qa4 L (x/512)≠0:=by
 rcases h.cases b with c | ⟨c,x,hx,h1,h2⟩
 ·rw [c] at hk;cases hk
 ·rcases (h.room hx).2.2 with ⟨r1,r2⟩|⟨r1,r2⟩
  ·have hb:b=x/512:=by omega
   rw [c,hb] at hk;omega
  ·by_cases hb:b=x/512
   ·have:=(Qdt r1).2.1;rw [c,hb] at hk;omega
   ·exact ⟨x,hx,by omega,by omega,r1⟩
theorem Qow.whole (h:Qow S L ys) {x:Nat} (hx:x∈ys) (hw:Qa4 L (x/512)≠0):Qa4 (Qa2 L ys) (x/512)=Qa4 L (x/512):=by
 obtain ⟨f1,f2,f3,f4,f5⟩:=Qdt hw;have hkn:Qfq L (x/512)=Qa4 L (x/512):=by unfold Qfq;omega
 refine Qta (by omega) ?_ (by rw [Qdf];exact f4) (fun i i1 i2=>?_)
 ·rw [h.kept0 hx];have hr:=of_decide_eq_true (h.right (x/512) f1);unfold Qb5 at hr;have h3:(L.getD (x/512) default).c=0:=by omega
  generalize L.getD (x/512) default=y at *;obtain ⟨k,c,l⟩:=y;dsimp only at f2 f3 h3;rw [f2,h3,f3]
 ·rw [h.kept hx (by omega) (by rw [hkn];omega)];exact f5 i i1 i2
theorem Qow.placed (h:Qow S L ys) {T:Dev} (hc:∀j,512≤j→T.cache.getD j 0=S.cache.getD j 0) (hl:T.cache.length=S.cache.length) {x:Nat} (hx:x∈ys):Qax T (Qa2 L ys) (x:Int)=Qax S L (x:Int):=by
 have hr:=h.room hx;have hp:∀i:Nat,Qdr T.cache ((x:Int)+(i:Int))=Qdr S.cache ((x:Int)+(i:Int)):=fun i=>by
  rw [show (x:Int)+(i:Int)=((x+i:Nat):Int) by omega,Qlm,Qlm];exact hc _ (by omega)
 have hh:Qa9 T (x:Int)=Qa9 S (x:Int):=by
  have h0:=hp 0;simp at h0
  unfold Qa9;rw [hl,h0]
 unfold Qax;rw [hh,Qdf]
 by_cases c1:(x:Int)<512∨512*(L.length:Int)≤(x:Int)∨(Qa9 S (x:Int)).code≠0
 ·rw [if_pos c1,if_pos c1]
 ·rw [if_neg c1,if_neg c1]
  by_cases c2:small (Qap (Qa9 S (x:Int)).p (Qa9 S (x:Int)).d)
  ·rw [if_pos c2,if_pos c2];have hq:Qc3 (Qa2 L ys) (ofN (Qap (Qa9 S (x:Int)).p (Qa9 S (x:Int)).d:Nat)) (x:Int).toNat↔Qc3 L (ofN (Qap (Qa9 S (x:Int)).p (Qa9 S (x:Int)).d:Nat)) (x:Int).toNat:=by
    rw [Int.toNat_natCast];unfold Qc3;rw [Qdf,h.kept0 hx]
   by_cases c3:Qc3 L (ofN (Qap (Qa9 S (x:Int)).p (Qa9 S (x:Int)).d:Nat)) (x:Int).toNat
   ·rw [if_pos c3,if_pos (hq.2 c3)]
   ·rw [if_neg c3,if_neg (fun hh=>c3 (hq.1 hh))]
  ·rw [if_neg c2,if_neg c2,Int.toNat_natCast];have hob:Qbm (Qap (Qa9 S (x:Int)).p (Qa9 S (x:Int)).d)=0∨Qbm (Qap (Qa9 S (x:Int)).p (Qa9 S (x:Int)).d)≠0:=by omega
   by_cases c3:Qa4 L (x/512)=0
   ·have hcase:=hr.2.2;rcases hcase with ⟨r1,r2⟩|⟨r1,_⟩
    ·have:Qa4 (Qa2 L ys) (x/512)=0:=by
      by_cases c4:Qa4 (Qa2 L ys) (x/512)=0
      ·exact c4
      ·have:=(Qdt c4).2.1;rw [h.kept0 hx] at this;omega
     rw [this,c3]
    ·exact absurd c3 r1
   ·rw [h.whole hx c3]
theorem Qow.bmOk (h:Qow S L ys) {T:Dev} {B:Nat} (hL:L.length=B) (hcl:Jfy T B) (hw:∀b,1≤b→b<B→T.cache.getD (256+b) 0=Qeq (b:Int) ((Qa2 L ys).getD b default).k ((Qa2 L ys).getD b default).c ((Qa2 L ys).getD b default).l) :
  Qqd B ⟨T,Qa2 L ys,Qg4 (Qd1 (Qa2 L ys)) B B⟩∧Snd (Qa2 L ys):=by
 refine ⟨⟨by rw [Qdf,hL],Qfw _ _ _,hcl,fun b hb=>?_,hw,fun b=>?_,fun b h1 h2 hk=>?_⟩,fun b h1 hk=>?_⟩
 ·rcases h.cases b with c | ⟨c,_⟩
  ·dsimp only;rw [c];exact Qgx
  ·dsimp only;rw [c];exact h.right b (by rw [hL];exact hb)
 ·dsimp only;rw [Qef];unfold Qd1;constructor
  ·rintro ⟨_,h2,h3,h4⟩;exact ⟨h2,h3,by simpa using h4⟩
  ·rintro ⟨h2,h3,h4⟩;exact ⟨h3,h2,h3,by simpa using h4⟩
 ·dsimp only at hk ⊢;obtain ⟨x,hx,hb,hw0,hkn⟩:=h.two hk;obtain ⟨f1,f2,f3,f4,f5⟩:=Qdt hw0;have hkb:(Qa2 L ys).getD b default=L.getD b default:=by rw [← hb];exact h.kept0 hx
  rw [hkb];refine ⟨by omega,fun i i1 i2=>?_⟩;rw [h.kept hx (by omega) (by rw [hb,hkn];omega)];exact f5 i i1 (by omega)
 ·obtain ⟨x,hx,h2,h3,h4⟩:=h.three hk;have hr:=h.room hx;obtain ⟨f1,f2,f3,f4,f5⟩:=Qdt h4;refine ⟨x/512,by omega,h2,?_,?_⟩
  ·rw [h.kept0 hx];exact f2
  ·rw [h.kept0 hx];omega
end
theorem Qie:∀(l:List (Nat × Nat)) (S:Dev),(S.stores l).err=0→(S.stores l).dev.cache=l.foldl (fun c p=>c.set p.1 p.2) S.cache
 | [],S,_=>rfl
 | (i,x) :: l,S,h=>by
  rw [Qb9] at h ⊢
  by_cases he:S.storeE (i:Int)≠0
  ·rw [if_pos he] at h;exact absurd h he
  ·rw [if_neg he] at h ⊢;rw [Qie l _ h];have hc:(S.store (i:Int) x).cache=S.cache.set i x:=by
    have he':S.storeE (i:Int)=0:=by simpa using he
    unfold Dev.storeE at he';unfold Dev.store
    split at he'
    ·simp at he'
    ·rename_i h1
     rw [if_neg h1]
     split at he'
     ·simp at he'
     ·rename_i h2
      rw [if_neg h2];simp only [Dev.put,(Dev.step_rest S).2.1,Int.toNat_natCast]
   rw [hc]
   rfl
theorem Qdx (l:List (Nat × Nat)):∀c:List Nat,(l.foldl (fun c p=>c.set p.1 p.2) c).length=c.length:=by
 induction l with
 | nil=>intro c;rfl
 | cons p l ih=>intro c;show (l.foldl _ (c.set p.1 p.2)).length=_;rw [ih,List.length_set]
theorem Qf7 (G:Nat→Nat) (l:List (Nat × Nat)) (hG:∀p∈l,p.2=G p.1) (j:Nat):∀c:List Nat,j<c.length→(l.foldl (fun c p=>c.set p.1 p.2) c).getD j 0=if j∈l.map Prod.fst then G j else c.getD j 0:=by
 induction l with
 | nil=>intro c _;simp
 | cons p l ih =>
  intro c hj;show (l.foldl (fun c p=>c.set p.1 p.2) (c.set p.1 p.2)).getD j 0=_;rw [ih (fun q hq=>hG q (List.mem_cons_of_mem _ hq)) _ (by rw [List.length_set];exact hj)]
  by_cases c1:j∈l.map Prod.fst
  ·rw [if_pos c1,if_pos (by simp at c1 ⊢;exact .inr c1)]
  ·rw [if_neg c1]
   by_cases c2:j=p.1
   ·subst c2;rw [if_pos (by simp),Qs2 _ _ _ _ hj,if_pos rfl];exact hG p List.mem_cons_self
   ·rw [if_neg (by
     rw [List.map_cons,List.mem_cons];rintro (h | h)
     ·exact c2 h
     ·exact c1 h)]
    rw [GD,List.getElem?_set_ne (fun h=>c2 h.symm),← GD]
theorem Qmw {was now:List Hd} {B j:Nat} : j∈(Qer was now 1 B).map Prod.fst↔∃b,1≤b∧b<B∧j=256+b∧was.getD b default≠now.getD b default:=by
 unfold Qer;simp only [List.mem_map,List.mem_filter,List.mem_range',decide_eq_true_eq]
 constructor
 ·rintro ⟨p,⟨b,⟨⟨i,hi,rfl⟩,hne⟩,rfl⟩,rfl⟩;exact ⟨1+1*i,by omega,by omega,rfl,hne⟩
 ·rintro ⟨b,h1,h2,rfl,hne⟩;exact ⟨_,⟨b,⟨⟨b-1,by omega,by omega⟩,hne⟩,rfl⟩,rfl⟩
theorem Qqf {S:Dev} (hi:S.inv) {B:Nat} (hlen:S.cache.length=512*B) (hB:2≤B) (hcl:∀b,1≤b→b<B→S.dirty.getD ((256+b)/8) false=false) {was now:List Hd}
  (hw:∀b,1≤b→b<B→S.cache.getD (256+b) 0=Qeq (b:Int) (was.getD b default).k (was.getD b default).c (was.getD b default).l) (he:(S.rewrite was now B).err=0) :
  Jfy (S.rewrite was now B).dev B∧(S.rewrite was now B).dev.cache.length=S.cache.length∧
  (∀b,1≤b→b<B→(S.rewrite was now B).dev.cache.getD (256+b) 0=Qeq (b:Int) (now.getD b default).k (now.getD b default).c (now.getD b default).l)∧
  (∀j,j<257∨256+B≤j→(S.rewrite was now B).dev.cache.getD j 0=S.cache.getD j 0):=by
 unfold Dev.rewrite at he ⊢
 by_cases hn:Qer was now 1 B=[]
 ·rw [if_pos hn];refine ⟨⟨hi,by rw [hlen];omega,hcl⟩,rfl,fun b h1 h2=>?_,fun j _=>rfl⟩;have hsame:was.getD b default=now.getD b default:=by
   by_cases c:was.getD b default=now.getD b default
   ·exact c
   ·have:256+b∈(Qer was now 1 B).map Prod.fst:=Qmw.2 ⟨b,h1,h2,rfl,c⟩;rw [hn] at this
    cases this
  rw [← hsame];exact hw b h1 h2
 ·rw [if_neg hn] at he ⊢;have hs0:(S.stores (Qer was now 1 B)).err=0:=by
   by_cases c:(S.stores (Qer was now 1 B)).err=0
   ·exact c
   ·unfold Qdi.bind at he;rw [if_pos c] at he;exact absurd he c
  have hbd:(S.stores (Qer was now 1 B)).bind (fun S=>S.persist 257 ((B:Int)-1))=(S.stores (Qer was now 1 B)).dev.persist 257 ((B:Int)-1):=by
   unfold Qdi.bind;rw [if_neg (by rw [hs0];simp)]
  rw [hbd] at he ⊢;have hinv:(S.stores (Qer was now 1 B)).dev.inv:=Qfh hi _ (fun p hp=>by
   unfold Qer at hp;obtain ⟨b,_,rfl⟩:=List.mem_map.1 hp
   exact Qfx _ _ _ _)
  have hca:=Qie _ _ hs0;have hcl2:(S.stores (Qer was now 1 B)).dev.cache.length=S.cache.length:=by rw [hca,Qdx]
  have e1:((B:Int)-1)=((B-1:Nat):Int):=by omega
  have e2:(257:Int)=((257:Nat):Int):=rfl;rw [e1,e2] at he ⊢;obtain ⟨p1,p2,p3,p4,p5⟩:=Dev.persist_clean hinv 257 (B-1) (by omega) he;have hat:∀j,j<S.cache.length→((S.stores (Qer was now 1 B)).dev.persist ((257:Nat):Int) ((B-1:Nat):Int)).dev.cache.getD j 0=if j∈(Qer was now 1 B).map Prod.fst then Qeq ((j-256:Nat):Int) (now.getD (j-256) default).k (now.getD (j-256) default).c (now.getD (j-256) default).l else S.cache.getD j 0:=fun j hj=>by
   rw [p1,hca];exact Qf7 (fun j=>Qeq ((j-256:Nat):Int) (now.getD (j-256) default).k (now.getD (j-256) default).c (now.getD (j-256) default).l) _ (fun p hp=>by
    unfold Qer at hp;obtain ⟨b,_,rfl⟩:=List.mem_map.1 hp;dsimp only
    rw [show 256+b-256=b by omega]) j _ hj
  refine ⟨⟨Dev.persist_inv hinv _ _,by rw [p1,hcl2,hlen];omega,fun b h1 h2=>p4 (256+b) (by omega) (by omega)⟩,by rw [p1,hcl2],fun b h1 h2=>?_,fun j hj=>?_⟩
  ·have:=hat (256+b) (by rw [hlen];omega);rw [this]
   by_cases c:was.getD b default=now.getD b default
   ·rw [if_neg (fun hh=>by
     obtain ⟨b',_,_,e,hne⟩:=Qmw.1 hh;obtain rfl:b=b':=by omega
     exact hne c),← c]
    exact hw b h1 h2
   ·rw [if_pos (Qmw.2 ⟨b,h1,h2,rfl,c⟩),show 256+b-256=b by omega]
  ·by_cases hjl:j<S.cache.length
   ·have:=hat j hjl;rw [this,if_neg (fun hh=>by
     obtain ⟨b',_,_,e,_⟩:=Qmw.1 hh
     omega)]
   ·have h3:((S.stores (Qer was now 1 B)).dev.persist ((257:Nat):Int) ((B-1:Nat):Int)).dev.cache.length=S.cache.length:=by rw [p1,hcl2]
    rw [Qf8 (by rw [h3];omega),Qf8 (by omega)]
theorem Qfi {S:Dev} (h:Qbx S=0):(Qbo S).2.2=0∧Qe3 (Qaw S) (Qbo S).1∧(Qa5 S).2.2.2=true∧Qmi (okN S (Qay S)) (Qcn S) (Qe7 S):=by
 unfold Qbx at h
 by_cases c1:(Qbo S).2.2≠0
 ·rw [if_pos c1] at h;simp at h
 ·rw [if_neg c1] at h
  by_cases c2:¬Qe3 (Qaw S) (Qbo S).1
  ·rw [if_pos c2] at h;simp at h
  ·rw [if_neg c2] at h
   by_cases c3:(Qa5 S).2.2.2=false
   ·rw [if_pos c3] at h;simp at h
   ·rw [if_neg c3] at h
    by_cases c4:¬Qmi (okN S (Qay S)) (Qcn S) (Qe7 S)
    ·rw [if_pos c4] at h;simp at h
    ·exact ⟨by simpa using c1,Classical.not_not.1 c2,by simpa using c3,Classical.not_not.1 c4⟩
theorem Qkv (S:Dev) (b:Nat):Qaw S b=S.cache.getD (256+b) 0:=by
 unfold Qaw;rw [show (256:Int)+(b:Int)=((256+b:Nat):Int) by omega,Qlm]
theorem Jg7 {f:Nat→Nat} {B:Nat} {b:Nat} (h1:1≤b) (h2:b<B):(hds f B).getD b default=⟨(Qge b (f b)).k,(Qge b (f b)).c,(Qge b (f b)).l⟩:=by
 rw [Qp3 _ h2];unfold hdF;rw [if_neg (show ¬b=0 by omega)]
theorem Jd1 {x:Nat} {i:Int} {d:Dec} {z:Hd} (hz:z=⟨d.k,d.c,d.l⟩) (h:Qeq i d.k d.c d.l=x∧Qcg d.k d.c d.l=true):x=Qeq i z.k z.c z.l∧Qcg z.k z.c z.l=true:=by
 have e1:z.k=d.k:=by rw [hz]
 have e2:z.c=d.c:=by rw [hz]
 have e3:z.l=d.l:=by rw [hz]
 rw [e1,e2,e3];exact ⟨h.1.symm,h.2⟩
theorem Qri {f:Nat→Nat} {B:Nat} (h:Qe3 f B) {b:Nat} (h1:1≤b) (h2:b<B):f b=Qeq (b:Int) ((hds f B).getD b default).k ((hds f B).getD b default).c ((hds f B).getD b default).l∧Qcg ((hds f B).getD b default).k ((hds f B).getD b default).c ((hds f B).getD b default).l=true :=
 Jd1 (Jg7 h1 h2) (Qye (h b h1 h2))
theorem Qr5 {S:Dev} (h:Qbx S=0) {ys:List Nat} (hy:∀x∈ys,okN S (Qay S) x):Qow S (Qay S) ys:=by
 obtain ⟨h1,h2,_,_⟩:=Qfi h;have hs:=Qij h1;refine ⟨hy,fun b hb=>?_,?_⟩
 ·unfold Qay at hb ⊢;rw [Qbs] at hb
  by_cases c:b=0
  ·subst c;rw [Qp3 _ hb];unfold hdF;rw [if_pos rfl];exact Qgx
  ·exact (Qri h2 (by omega) hb).2
 ·unfold Qay;rw [Qp3 _ (by omega)];unfold hdF;rw [if_pos rfl]
  rfl
theorem Qt0 {S T:Dev} {n:Nat} {L K:List Hd} {ys:List Nat} (hn:n=(Qbo S).1) (hL0:L=Qay S) (hK:K=Qa2 L ys) (hT:T=(S.rewrite L K n).dev) (hi:S.inv) (hcl:∀l,S.dirty.getD l false=false) (h:Qbx S=0) (hy:∀x∈ys,okN S L x) (hnd:ys.Nodup) (he:(S.rewrite L K n).err=0) :
  Qqd n (Qog T n)∧Qe3 (Qaw T) n∧Qc9 (hds (Qaw T) n) n 1=0∧T.cache.length=512*n∧
  Qcl T (Qog T n).list (List.replicate T.cache.length false) (ys.map (fun x:Nat=>(x:Int)))=(Qdu (List.replicate T.cache.length false) ys,0)∧
  (∀b,1≤b→(hds (Qaw T) n).getD b default=K.getD b default):=by
 obtain ⟨h1,h2,_,_⟩:=Qfi h;obtain ⟨s1,s2,s3⟩:=Qij h1;rw [← hn] at h2 s1 s2 s3;have hlv:Qow S L ys:=by rw [hL0] at hy ⊢;exact Qr5 h hy
 have hL:L.length=n:=by rw [hL0,hn];unfold Qay;exact Qbs _ _
 have hw:∀b,1≤b→b<n→S.cache.getD (256+b) 0=Qeq (b:Int) (L.getD b default).k (L.getD b default).c (L.getD b default).l:=fun b b1 b2=>by
  rw [← Qkv,hL0];unfold Qay;rw [← hn];exact (Qri h2 b1 b2).1
 obtain ⟨r1,r2,r3,r4⟩:=Qqf hi s3.symm s1 (fun b _ _=>hcl _) hw he;rw [← hT] at r1 r2 r3 r4;rw [hK] at r3;obtain ⟨bm,hb,hs,hdev,hlist⟩:∃bm:Bm,Qqd n bm∧Snd bm.list∧bm.dev=T∧bm.list=Qa2 L ys:=by
  obtain ⟨b1,b2⟩:=hlv.bmOk hL r1 r3;exact ⟨_,b1,b2,rfl,rfl⟩
 have q1:=Qso hb;have q2:=Qrm hb;have q3:=Qyr hb hs;have hlk:=Qz0 hb;rw [hdev] at q1 q2 q3 hlk;rw [hlist] at q2 hlk;have hTl:T.cache.length=512*n:=by rw [r2,s3]
 have hpl:∀x∈ys,(Qax T (Qog T n).list (x:Int)).isSome=true:=fun x hx=>by
  rw [hlk.placed T (x:Int),hlv.placed (T:=T) (fun j hj=>r4 j (.inr (by omega))) r2 hx];exact hy x hx
 have hnu:=Qop (S:=T) (L:=(Qog T n).list) ys (List.replicate T.cache.length false) (fun x hx=>⟨hpl x hx,by
  have hr:=hlv.room hx;rw [List.length_replicate,hTl,← hL];exact hr.2.1,by
  rw [GD,List.getElem?_replicate];split <;> rfl⟩) hnd []
 rw [List.append_nil] at hnu;have hend:Qcl T (Qog T n).list (Qdu (List.replicate T.cache.length false) ys) []=(Qdu (List.replicate T.cache.length false) ys,0):=by
  unfold Qcl;rfl
 rw [hend] at hnu;rw [hK];exact ⟨q1,q2.1,q3,hTl,hnu,q2.2⟩
end
end Go.Proofs.YtpohaahihdhleaaGreat
