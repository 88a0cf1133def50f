/- Parts of the proof of one statement of the seat. -/
import Derived.Test.YtpohaahihdhleaaGreatRO15
import Derived.Deep.DeepCutAuto
set_option linter.unusedVariables false
set_option maxHeartbeats 16000000
set_option maxRecDepth 100000
open Go.RowKit
namespace Go.Proofs.YtpohaahihdhleaaGreat
section
open Go.Maps
def Qlu (S : Dev) (F : Qb0) (w : World) : Ending → World → Prop := fun e w' => Qam F.list w w' ∧
  ((Qbx S ≠ 0 ∧ e = .returned (.tuple #[.agg stZ, .int .i64 (Qbx S)]) ∧ Qa7 w' F S) ∨
   (Qbx S = 0 ∧ ∃ ys : List Nat, ys.Pairwise (· < ·) ∧ (∀ x, x ∈ ys ↔ Rch (okN S (Qay S)) (Qcn S) (Qe7 S) x) ∧
     (((S.rewrite (Qay S) (Qa2 (Qay S) ys) (Qbo S).1).err ≠ 0 ∧ e = .returned (.tuple #[.agg stZ, .int .i64 (S.rewrite (Qay S) (Qa2 (Qay S) ys) (Qbo S).1).err]) ∧ Qa7 w' F (S.rewrite (Qay S) (Qa2 (Qay S) ys) (Qbo S).1).dev) ∨
      ((S.rewrite (Qay S) (Qa2 (Qay S) ys) (Qbo S).1).err = 0 ∧ ∃ (A : AF) (nn g : Nat) (lv : Value), e = .returned (.tuple #[stV (Qbo S).1 (Qbo S).2.1 (Qeb A) (.pointer (some ⟨g, 0, none⟩)) lv, .int .i64 0]) ∧ A.X.F = F ∧ nn ≤ 1000000 ∧
        Qfy w' A nn (Qbo S).1 ⟨Qog (S.rewrite (Qay S) (Qa2 (Qay S) ys) (Qbo S).1).dev (Qbo S).1, Qdu (List.replicate (S.rewrite (Qay S) (Qa2 (Qay S) ys) (Qbo S).1).dev.cache.length false) ys, Qc5 (Qdu (List.replicate (S.rewrite (Qay S) (Qa2 (Qay S) ys) (Qbo S).1).dev.cache.length false) ys) (Qog (S.rewrite (Qay S) (Qa2 (Qay S) ys) (Qbo S).1).dev (Qbo S).1).list ((Qbo S).1 - 1)⟩ ∧
        Qdb w' g F (Qa5 S).1 (Qa5 S).2.1 (Qa5 S).2.2.1 ∧ Qcs w' lv ys ∧ (∀ k ∈ A.list, k ∈ F.list ∨ w.heap.size ≤ k) ∧ (∀ b, Qbc lv = some b → w.heap.size ≤ b) ∧ w.heap.size ≤ g))))
theorem Qpe {w:World} {F:Qb0} {S:Dev} (h:Qa7 w F S) (hi:S.inv) (hcl:∀l,S.dirty.getD l false=false) {N:Nat} (hN:N≤800000000) (ho:S.ok N) (hs2:S.cache.length≤102400) :
  Calls Tryz.prog 22 #[Qei F] w (Qlu S F w):=by
 obtain ⟨Post,hPo⟩:∃P,P=Qlu S F w:=⟨_,rfl⟩
 have HPo:=LH hPo;rw [← hPo];clear hPo;have HD:=LH h;have HI:=LH hi;have HCl:=LH hcl;have HO:=LH ho;have HB0:=LH h.mem;have hsm:=h.small;have HLk:=LH (fun w' (hb:Below w.heap.size w w')=>Jeg (h.below hb));have HM:=LH (Mem.one w #[.int .i64 0,.int .u64 0,.int .i64 0,.pointer none,.pointer none,.slice none 0 0] 49);clear h hi hcl ho;go_enter Tryz.func22,Tryz.ntmps22;go_upto_region 1 with fail;obtain ⟨q1,hq1⟩:∃q,q=w.heap.size:=⟨_,rfl⟩
 rw [← hq1] at HM ⊢;have HQ1:=LH hq1;generalize w.alloc _=w1 at *;clear hq1;have HM1:Hid (Mem w w1 [⟨q1,49,[.int .i64 0,.int .u64 0,.int .i64 0,.pointer none,.pointer none,.slice none 0 0],true⟩]):=LH (by simpa using HM.out);clear HM;go_wp2_with fail;refine (HLk.out w1 HM1.out.below).mono ?_;rintro e w2 ⟨hb2,⟨hlk,g,lg,lc,lv,ys,rfl,hrt,hg,hrow,hlg,hlc,hlv,hso,hys,hrw⟩|⟨hlk,rfl⟩⟩
 case inr =>
  have HM2:=LH (((HM1.out.later hb2).alloc #[.int .i64 0,.int .u64 0,.int .i64 0,.pointer none,.pointer none,.slice none 0 0] 49).r);have HB2:Hid (Below w.heap.size w (w2.alloc (.cells #[.int .i64 0,.int .u64 0,.int .i64 0,.pointer none,.pointer none,.slice none 0 0] 49))):=LH (((HM1.out.later hb2).alloc #[.int .i64 0,.int .u64 0,.int .i64 0,.pointer none,.pointer none,.slice none 0 0] 49).below);obtain ⟨le,hle⟩:∃le,le=Qbx S:=⟨_,rfl⟩
  rw [← hle] at hlk ⊢;have he':(le != 0)=true:=by simpa using hlk
  have HLe:=LH hle;have HNe:=LH hlk;rw [show stZ=#[.int .i64 0,.int .u64 0,.int .i64 0,.pointer none,.pointer none,.slice none 0 0] from rfl];clear hb2 hlk hle HLk;go_upto_region 2 with fail;generalize w2.alloc _=w3 at *;go_wp2_with (refine Qgh Qoa HM2.out 0 rfl rfl rfl rfl rfl rfl rfl rfl ?_;intro w6 h6 ht6;have H6:=LH h6;have HT6:=LH ht6;clear h6 ht6)
  refine bodyPost_ret (Qac (p:=2) (u:=3) rfl _ _ _ _ _ _ _ rfl (H6.out.exact 0 rfl) Tryz.underlying49 rfl (by kernel_rfl)) rfl ?_;rw [HPo.out];refine ⟨(Qam.ofBelow HB2.out).own HT6.out (fun k hk=>.inl (by simp at hk;subst hk;rw [HQ1.out];exact Nat.le_refl _)),.inl ⟨by rw [← HLe.out];exact HNe.out,by rw [← HLe.out];rfl,(HD.out.below HB2.out).keep (fun k hk=>HT6.out.block k (Nat.lt_of_lt_of_le (HB0.out k hk) HB2.out.size) (by simp;rw [HQ1.out];exact Nat.ne_of_lt (HB0.out k hk)))⟩⟩
 obtain ⟨n,hn⟩:∃n,n=(Qbo S).1:=⟨_,rfl⟩
 obtain ⟨id,hid⟩:∃id,id=(Qbo S).2.1:=⟨_,rfl⟩
 obtain ⟨h0,_,_,_⟩:=Qfi hlk;have hsz:=Qij h0;obtain ⟨L,hL⟩:∃L,L=Qay S:=⟨_,rfl⟩
 have hLl:L.length=n:=by rw [hL,hn];unfold Qay;exact Qbs _ _
 rw [← hn] at hsz hlc ⊢;rw [← hid];rw [← hL] at hrow hys;obtain ⟨va,vc,hv,hvc,_⟩:=hlv.cells;obtain ⟨vl,hvl⟩:∃l,l=ys.length:=⟨_,rfl⟩
 rw [← hvl] at hv;subst hv;have HM2:=LH ((HM1.out.later hb2).alloc #[.int .i64 (n:Int),Qad id,.int .i64 (n:Int),.pointer none,.pointer (some ⟨g,0,none⟩),.slice va vl vc] 49);have hba:=Qaf w2 (.cells #[.int .i64 (n:Int),Qad id,.int .i64 (n:Int),.pointer none,.pointer (some ⟨g,0,none⟩),.slice va vl vc] 49);have HRow:=LH (hrow.below hba);have HCv:=LH (hvc.below hba NR);have HRt:=LH (hrt.below hba NR);have HLv:=LH (hlv.keep (fun b hb=>hba.block b (hlv.lt b hb)));have HYs:=LH hys;have HSo:=LH hso;have hnd:ys.Nodup:=hso.imp (fun h=>Nat.ne_of_lt h);have hyl:ys.length≤512*n:=by
  refine Qgr _ _ (fun x hx=>?_) (Qhr hnd);have:=(Ql9 ((hys x).1 hx).ok').2;rw [hLl] at this;exact this
 have HGs:Hid (w.heap.size≤g∧w.heap.size≤lg∧(∀b,Qbc (.slice va vl vc)=some b→w.heap.size≤b)∧w1.heap.size≤g∧w1.heap.size≤lg):=LH ⟨Nat.le_trans HM1.out.below.size hg,Nat.le_trans HM1.out.below.size hlg,fun b hb=>Nat.le_trans HM1.out.below.size (hrw b hb),hg,hlg⟩;have HLt2:Hid (g<w2.heap.size∧∀b,Qbc (.slice va vl vc)=some b→b<w2.heap.size):=LH ⟨Qbu hrt,fun b hb=>hlv.lt b hb⟩;have HLt1:Hid (q1<w1.heap.size∧∀b,Qbc (.slice va vl vc)=some b→w1.heap.size≤b):=LH ⟨HM1.out.glt 0 rfl,hrw⟩;have HNd:=LH hnd;have HVl:=LH hvl;have HNn:=LH hn;have HId:=LH hid;have HLL:=LH hL;have HLn:=LH hLl;have HLz:=LH hlk;have HSz:=LH hsz;have hn2:=hsz.1;have hn256:=hsz.2.1;have hvl9:vl≤1000000:=by rw [hvl];omega
 have hlc2:=hlc;clear hb2 hrow hvc hrt hlv hys hso hg hlg hrw hnd hyl hvl hn hid hL hLl hlk hsz hba h0 HLk hlc;unfold stV;go_upto_region 4 with fail;obtain ⟨q2,hq2⟩:∃q,q=w2.heap.size:=⟨_,rfl⟩
 rw [← hq2] at HM2 HLt2 ⊢;generalize w2.alloc _=w3 at *;clear hq2;have HM3:Hid (Mem w w3 [⟨q1,49,[.int .i64 0,.int .u64 0,.int .i64 0,.pointer none,.pointer none,.slice none 0 0],true⟩,⟨q2,49,[.int .i64 (n:Int),Qad id,.int .i64 (n:Int),.pointer none,.pointer (some ⟨g,0,none⟩),.slice va vl vc],true⟩]):=LH (by simpa using HM2.out);clear HM2 HM1;have c2:=HM3.out.cell 1 2 rfl rfl;have c5:=HM3.out.cell 1 5 rfl rfl;have r2:=fun x=>Qab c2 x
 have r5:=fun x=>Qab c5 x
 clear c2 c5;refine Qai (C:=fun w'=>∃x:Qbi (w3),w'=x.val) [.fl [0,1,2,3,4,5,6,7,8],.sq [9] true,.sq [10,11] false] (by kernel_rfl) (by kernel_rfl) (by intro c a d v w h;cases d <;> exact h) ?_;simp only [Qdj,Qa3,List.getElem?_cons_succ,List.getElem?_cons_zero]
 have hC1:=Qaj (w3);refine Qak hC1 ?_
 repeat (first|go_big_quiet_step (fail)|quiet_step (fail))
 refine wpQuiet_nil ?_;have hbd:=Qae hC1;have HM4:=LH (HM3.out.later hbd);have HRow4:=LH (HRow.out.below hbd);have HCv4:=LH (HCv.out.below hbd NR);have HRt4:=LH (HRt.out.below hbd NR);have HLv4:=LH (HLv.out.keep (fun b hb=>hbd.block b (HLv.out.lt b hb)));generalize w3.drew=w4 at *;clear r2 r5 hbd HRow HCv HRt HLv HM3;refine Qah (fun K hK=>?_);go_wp2_with fail;refine (Jem HLn.out (by omega) (by omega) HRow4.out hlc2 va vl vc ys HVl.out.symm HCv4.out hvl9 (fun x hx=>by
  have:=(Ql9 ((HYs.out x).1 hx).ok').2;rw [HLn.out] at this
  omega)).mono ?_
 rintro e w5 ⟨kg,kc,rfl,hkg,hkc,hkrow,hb5⟩;rw [HLn.out] at hkc ⊢;have hC2:=Qan hC1 hb5;have HM5:=LH (HM4.out.later hb5);have HRow5:=LH (HRow4.out.below hb5);have HRt5:=LH (HRt4.out.below hb5 NR);have HLv5:=LH (HLv4.out.keep (fun b hb=>hb5.block b (HLv4.out.lt b hb)));have HCv5:=LH (HCv4.out.below hb5 NR);have HK:=LH hkrow;have HKg:Hid (w.heap.size≤kg):=LH (Nat.le_trans HM4.out.below.size hkg);clear hb5 hkrow hkg HM4 HRow4 HRt4 HLv4 HCv4;go_wp2_with fail;refine hK _ _ (fun _=>hC2) ?_;clear hK K;clear hC1 hC2;refine Qal ?_;go_wp2_with fail;have HFq:Hid (∀k,w.heap.size≤k→k∉F.list):=LH (fun k hk hm=>by have:=HB0.out k hm;omega);refine (Quw (HD.out.below HM5.out.below) (by omega:N≤900000000) HO.out (was:=L) (now:=Qa2 L ys) HLn.out (by rw [Qdf];exact HLn.out) (by omega) (by omega) HRow5.out HK.out (HFq.out lg HGs.out.2.1) (HFq.out kg HKg.out)).mono ?_;rintro e w6 ⟨rfl,hd6,ht6⟩;have HM6:=LH (HM5.out.r.touch ht6 (fun k hk=>HB0.out k hk));have HT6:Hid (Qam F.list w w6):=LH ((Qam.ofBelow HM5.out.below).trans ht6);have HD6:=LH hd6;have HRt6:Hid (Qdb w6 g F (Qa5 S).1 (Qa5 S).2.1 (Qa5 S).2.2.1):=LH ((ht6.block g (Qbu HRt5.out) (HFq.out g HGs.out.1)).trans HRt5.out);have HLv6:=LH (HLv5.out.keep (fun b hb=>ht6.block b (HLv5.out.lt b hb) (HFq.out b (HGs.out.2.2.1 b hb))));obtain ⟨va',vc',hv',hvc',_⟩:=HLv6.out.cells;injection hv' with hv1 hv2 hv3
 subst hv1 hv3;have HCv6:=LH hvc';clear hd6 ht6 HM5 HRow5 HRt5 HLv5 HCv5 HK hvc' hv2;obtain ⟨⟨T,er⟩,hR⟩:∃R,R=S.rewrite L (Qa2 L ys) n:=⟨_,rfl⟩
 have HR:=LH hR;rw [← hR] at HD6 ⊢;dsimp only at HD6 ⊢;clear hR
 by_cases he:er=0
 case neg =>
  have he':(er != 0)=true:=by simpa using he
  have HNe:=LH he;have HT6o:=LH HT6.out;clear he;go_wp2_with (refine Qgh Qoa HM6.out 0 rfl rfl rfl rfl rfl rfl rfl rfl ?_;intro w6 h6 ht6;have H6:=LH h6;have HT6':=LH ht6;clear h6 ht6)
  refine bodyPost_ret (Qac (p:=2) (u:=3) rfl _ _ _ _ _ _ _ rfl (H6.out.exact 0 rfl) Tryz.underlying49 rfl (by kernel_rfl)) rfl ?_;rw [HPo.out];refine ⟨⟨HT6'.out.os.trans HT6o.out.os,HT6'.out.tape.trans HT6o.out.tape,HT6'.out.output.trans HT6o.out.output,Nat.le_trans HT6o.out.size HT6'.out.size,fun k h1 h2=>(HT6'.out.block k (Nat.lt_of_lt_of_le h1 HT6o.out.size) (by simp;rw [HQ1.out];exact Nat.ne_of_lt h1)).trans (HT6o.out.block k h1 h2)⟩,.inr ⟨HLz.out,ys,HSo.out,by rw [← HLL.out];exact HYs.out,.inl ⟨by rw [← HLL.out,← HNn.out,← HR.out];exact HNe.out,by rw [← HLL.out,← HNn.out,← HR.out];rfl,?_⟩⟩⟩;rw [← HLL.out,← HNn.out,← HR.out];exact HD6.out.keep (fun k hk=>HT6'.out.block k (Nat.lt_of_lt_of_le (HB0.out k hk) HT6o.out.size) (by simp;rw [HQ1.out];exact Nat.ne_of_lt (HB0.out k hk)))
 subst he;obtain ⟨o1,o2,o3,o4,o5,_⟩:=Qt0 (T:=T) (K:=Qa2 L ys) HNn.out HLL.out rfl (by rw [← HR.out]) HI.out HCl.out HLz.out (fun x hx=>((HYs.out x).1 hx).ok') HNd.out (by rw [← HR.out]);have HO1:=LH o1;have HO2:=LH o2;have HO3:=LH o3;have HO4:=LH o4;have HO5:=LH o5;clear o1 o2 o3 o4 o5;have c2:=HM6.out.cell 1 2 rfl rfl;go_wp2_with fail;refine (Jcb HD6.out n (by omega) (by omega)).mono ?_;rintro e w7 ⟨hb7,⟨_,_,X,nn,rfl,hXF,hman,hnn,hXl⟩|⟨_,hbad,rfl⟩|⟨hbad,rfl⟩⟩
 case inr.inl=>exact absurd HO3.out hbad
 case inr.inr=>exact absurd HO2.out hbad
 have HM7:=LH (HM6.out.later hb7);have HT7:Hid (Qam F.list w w7):=LH (HT6.out.trans (Qam.ofBelow hb7));have HRt7:=LH (HRt6.out.below hb7 NR);have HLv7:=LH (HLv6.out.keep (fun b hb=>hb7.block b (HLv6.out.lt b hb)));have HCv7:Hid (Qaq w7 va ((ys.map (fun x:Nat=>(x:Int))).map (Value.int .i64))):=LH (by rw [List.map_map];exact HCv6.out.below hb7 NR);have HMan:=LH hman;have HXl:=LH hXl;have HXF:=LH hXF;have HNN:=LH hnn;have HS67:Hid (w6.heap.size≤w7.heap.size):=LH hb7.size;clear hb7 hman hXl hXF hnn c2 HD6 HRt6 HLv6 HCv6;have c5:=HM7.out.cell 1 5 rfl rfl;have hAn:=Jdf HMan.out HO1.out (by omega) (by have:=HSz.out.2.2;omega) HO4.out va vl vc (ys.map (fun x:Nat=>(x:Int))) (by rw [List.length_map];exact HVl.out.symm) HCv7.out hvl9;rw [HXF.out] at hAn;have HAn:=LH hAn;clear hAn;go_wp2_with fail;refine HAn.out.mono ?_;rintro e w8 ⟨hb8,⟨_,A,rfl,hAX,hal,hAl⟩|⟨hbad,rfl⟩⟩
 case inr=>exact absurd (congrArg Prod.snd HO5.out) hbad
 have HM8:=LH (HM7.out.later hb8);have HT8:Hid (Qam F.list w w8):=LH (HT7.out.trans (Qam.ofBelow hb8));have HRt8:=LH (HRt7.out.below hb8 NR);have HLv8:=LH (HLv7.out.keep (fun b hb=>hb8.block b (HLv7.out.lt b hb)));have hal2:Qfy w8 A nn n ⟨Qog T n,Qdu (List.replicate T.cache.length false) ys,Qc5 (Qdu (List.replicate T.cache.length false) ys) (Qog T n).list (n-1)⟩:=by
  have h5:=HO5.out;have:=hal;rw [show (Qog T n).dev=T from rfl,h5] at this;exact this
 have HAl:=LH hal2;have HAX:=LH hAX;have HAm:Hid (∀k∈A.list,k∈F.list∨(w.heap.size≤k∧k≠q1∧k≠q2)):=LH (fun k hk=>by
  have hq1:=HM6.out.glt 0 rfl;have hq2:=HM6.out.glt 1 rfl;have h67:=HS67.out;have hws:=HT6.out.size;rcases hAl k hk with c | c
  ·rcases HXl.out k c with c | c
   ·exact .inl c
   ·exact .inr ⟨by omega,by omega,by omega⟩
  ·exact .inr ⟨by omega,by omega,by omega⟩)
 have HAm2:Hid (∀k,k∈F.list→k≠q1∧k≠q2):=LH (fun k hk=>by
  have h1:=HB0.out k hk;have h2:=HM8.out.gbase 0 rfl;have h3:=HM8.out.gbase 1 rfl
  exact ⟨by omega,by omega⟩)
 clear hb8 hal hal2 hAX hAl c5 HM7 HT7 HRt7 HLv7 HM6 HT6 HAn HMan HXl;have c3:=HM8.out.cell 1 3 rfl rfl;have k3:=HM8.out.frozen 1 3 rfl;have HM9:Hid (Qjn w.heap.size (w8.setCell ⟨q2,3,none⟩ (Qeb A)) [⟨q1,49,[.int .i64 0,.int .u64 0,.int .i64 0,.pointer none,.pointer none,.slice none 0 0],true⟩,⟨q2,49,[.int .i64 (n:Int),Qad id,.int .i64 (n:Int),Qeb A,.pointer (some ⟨g,0,none⟩),.slice va vl vc],true⟩]):=LH (by
  have:=HM8.out.set 1 3 (Qeb A) rfl (by simp)
  simpa using this)
 go_wp2_with (first | (refine Qra Qoa HM9.out 1 rfl rfl rfl rfl rfl ?_) | (refine Qgh Qoa HM9.out 0 rfl rfl rfl rfl rfl rfl rfl rfl ?_;intro w9 h9 ht9;have H9:=LH h9;have HT9:=LH ht9;clear h9 ht9))
 refine bodyPost_ret (Qac (p:=2) (u:=3) rfl _ _ _ _ _ _ _ rfl (H9.out.exact 0 rfl) Tryz.underlying49 rfl (by kernel_rfl)) rfl ?_;rw [HPo.out];have hblk:∀k,k<w8.heap.size→k≠q1→k≠q2→w9.heap[k]?=w8.heap[k]?:=fun k h1 h2 h3=>(HT9.out.block k (by simp [World.setCell];exact h1) (by simpa using h2)).trans (heap_setCell_other w8 _ _ _ h3)
 have hq1g:=HM8.out.gbase 0 rfl;have hq2g:=HM8.out.gbase 1 rfl;refine ⟨⟨?_,?_,?_,?_,?_⟩,.inr ⟨HLz.out,ys,HSo.out,by rw [← HLL.out];exact HYs.out,.inr ⟨by rw [← HLL.out,← HNn.out,← HR.out],A,nn,g,.slice va vl vc,?_,(by rw [HAX.out];exact HXF.out),HNN.out,?_,?_,?_,?_,HGs.out.2.2.1,HGs.out.1⟩⟩⟩
 ·exact HT9.out.os.trans HT8.out.os
 ·exact HT9.out.tape.trans HT8.out.tape
 ·exact HT9.out.output.trans HT8.out.output
 ·have h1:=HT9.out.size;have h2:=HT8.out.size;simp [World.setCell] at h1
  omega
 ·intro k h1 h2;exact (hblk k (Nat.lt_of_lt_of_le h1 HT8.out.size) (by omega) (by omega)).trans (HT8.out.block k h1 h2)
 ·rw [← HNn.out,← HId.out]
  rfl
 ·rw [← HLL.out,← HNn.out,← HR.out];refine HAl.out.keep (fun k hk=>?_);rcases HAm.out k hk with c | ⟨_,c1,c2⟩
  ·exact hblk k (HAl.out.mem k hk) (HAm2.out k c).1 (HAm2.out k c).2
  ·exact hblk k (HAl.out.mem k hk) c1 c2
 ·have h1:=HLt1.out.1;have h2:=HLt2.out.1;have h3:=HGs.out.2.2.2.1;exact (hblk g (Qbu HRt8.out) (by omega) (by omega)).trans HRt8.out
 ·refine HLv8.out.keep (fun b hb=>?_);have h1:=HLt1.out.1;have h2:=HLt2.out.2 b hb;have h3:=HLt1.out.2 b hb;exact hblk b (HLv8.out.lt b hb) (by omega) (by omega)
 ·intro k hk;rcases HAm.out k hk with c | ⟨c,_⟩
  ·exact .inl c
  ·exact .inr c
end
section
theorem Jhh : (Tryz.prog.fieldsOf 44) = #[{ name := "Blocks", type := 3, offset := 0, embedded := false, tag := "", pkgPath := "", byteOffset := 0 }] := by kernel_rfl
theorem Jhd:Tryz.prog.underlying 44=some (.struct (Tryz.prog.fieldsOf 44)):=by kernel_rfl
theorem Jh7:Tryz.prog.stoodInHeld 44=false:=by kernel_rfl
theorem Jha:Tryz.prog.eqGuardType Tryz.prog.depth 44=false:=by kernel_rfl
theorem Ji4:Tryz.prog.eqGuardType Tryz.prog.depth 24=false:=by kernel_rfl
theorem Qz5 (w:World) (a:Int):(Op.equalIn 10000 44 (.agg #[.int .i64 a]) (.agg #[.int .i64 a])).run Tryz.prog w=.ok true w:=by
 rw [show (10000:Nat)=9999+1 from rfl,run_equalIn_agg w 9999 44 _ _ Jhd Jh7,Jhh];simp [Op.eqFields,go_sem,Tryz.underlying3,part]
theorem Jdr:Tryz.prog.cellsOf 3=1:=by kernel_rfl
theorem Jgi:(Tryz.prog.info? 3).isSome=true:=by kernel_rfl
theorem Jfi (w:World) (xs:List Int) (hx:xs.length=8):(Op.equalIn 10000 24 (.agg (xs.map (Value.int .i64)).toArray) (.agg (xs.map (Value.int .i64)).toArray)).run Tryz.prog w=.ok true w:=by
 obtain ⟨i,hi⟩:=Option.isSome_iff_exists.1 Jgi;rw [show (10000:Nat)=9999+1 from rfl,run_equalIn_array w 9999 _ _ Tryz.underlying24 hi,Jdr,show (9999:Nat)=9998+1 from rfl];obtain ⟨b,hb,hiff⟩:=Qde Tryz.underlying3 9998 w xs xs (List.range 8) (fun i hi=>by simp at hi;omega);rw [hb,hiff.2 (fun _ _=>rfl)]
structure Jbl (E:Array Value) (n id ep:Nat) (rs:List Int) (ls lv:Value):Prop where
 size:E.size=30
 one:E.toList.all (·.oneCell')=true
 c0:E.toList[0]?=some (.int .i64 (n:Int))
 c1:E.toList[1]?=some (Qad id)
 c2:E.toList[2]?=some ls
 c11:E.toList[11]?=some (Qad ep)
 c12:∀j v,(rs.map (Value.int .i64))[j]?=some v→E.toList[12+j]?=some v
 c29:E.toList[29]?=some lv
theorem Jdn {w:World} {n id g ep k vc vd:Nat} {F:Qb0} {rs:List Int} {i:Int} {ap:Option Addr} {ls:Value} {va vb:Option Addr} {ys:List Nat} {E:Array Value} (hE:Jbl E n id ep rs ls (.slice vb k vd)) (hk:ys.length=k) (hk9:k≤1000000)
  (ha:Qaq w va (ys.map vi)) (hb:Qaq w vb (ys.map vi)) (hr:Qdb w g F ep rs i) (hrl:rs.length=8) :
  Calls Tryz.prog 15 #[.agg #[.int .i64 (n:Int),Qad id,.int .i64 (n:Int),.pointer ap,.pointer (some ⟨g,0,none⟩),.slice va k vc],.agg E] w (Qjt (.bool true) w):=by
 have HP:Hid (∀w',Below w.heap.size w w'→Qjt (.bool true) w (.returned (.bool true)) w'):=LH (fun w' h=>⟨rfl,h⟩);generalize Qjt (.bool true) w=Post at *;have HMx:=LH ((Mem.one w #[.int .i64 (n:Int),Qad id,.int .i64 (n:Int),.pointer ap,.pointer (some ⟨g,0,none⟩),.slice va k vc] 49).alloc E 59);have HE:=LH hE;have HA:=LH ha;have HB:=LH hb;have HR:=LH hr;have HK:=LH hk;have hsz:=hE.size;have hone:=hE.one;clear hE ha hb hr hk;go_enter Tryz.func15,Tryz.ntmps15;go_upto_region 1 with fail;obtain ⟨q2,hq2⟩:∃q,q=w.heap.size:=⟨_,rfl⟩
 obtain ⟨q3,hq3⟩:∃q,q=w.heap.size+1:=⟨_,rfl⟩
 have HM:Hid (Mem w ((w.alloc (.cells #[.int .i64 (n:Int),Qad id,.int .i64 (n:Int),.pointer ap,.pointer (some ⟨g,0,none⟩),.slice va k vc] 49)).alloc (.cells E 59)) [⟨q2,49,[.int .i64 (n:Int),Qad id,.int .i64 (n:Int),.pointer ap,.pointer (some ⟨g,0,none⟩),.slice va k vc],true⟩,⟨q3,59,E.toList,true⟩]):=LH (by
  rw [hq2,hq3]
  simpa using HMx.out)
 rw [← hq3,← hq2];generalize (w.alloc _).alloc _=w2 at *;clear hq2 hq3 HMx;have s0:=HM.out.cell 0 0 rfl rfl;have s1:=HM.out.cell 0 1 rfl rfl;have s2:=HM.out.cell 0 2 rfl rfl;have s4:=HM.out.cell 0 4 rfl rfl;have s5:=HM.out.cell 0 5 rfl rfl;have e0:=HM.out.cell 1 0 rfl HE.out.c0;have e1:=HM.out.cell 1 1 rfl HE.out.c1;have e11:=HM.out.cell 1 11 rfl HE.out.c11;have e29:=HM.out.cell 1 29 rfl HE.out.c29;have rs0:=fun x=>Qab s0 x
 have rs1:=fun x=>Qab s1 x
 have rs2:=fun x=>Qab s2 x
 have rs4:=fun x=>Qab s4 x
 have rs5:=fun x=>Qab s5 x
 have re0:=fun x=>Qab e0 x
 have re1:=fun x=>Qab e1 x
 have re11:=fun x=>Qab e11 x
 have re29:=fun x=>Qab e29 x
 have hld:∀w',(∃x:Qbi w2,w'=x.val)→∀(i:Nat) (v:Value),(rs.map (Value.int .i64)).toArray.toList[i]?=some v→w'.cell? ⟨q3,12+i,none⟩=some v:=by
  rintro w' ⟨x,rfl⟩ i v hi;exact Qab (HM.out.cell 1 (12+i) rfl (HE.out.c12 i v (by simpa using hi))) x
 have hsz8:(rs.map (Value.int .i64)).toArray.size=8:=by simpa using hrl
 have hgd:=Jha;have hgd2:=Ji4;have heq:=fun w'=>Qz5 w' (n:Int)
 have heq2:=fun w'=>Jfi w' rs hrl
 clear s0 s1 s2 s4 s5 e0 e1 e11 e29;refine Qai (C:=fun w'=>∃x:Qbi (w2),w'=x.val) [.fl [0,1,2,3,4],.sq [5,6] false,.fl [7,8,9,10,11],.sq [12,13,14] false,.fl [15,16,17,18,19],.sq [20,21,22] false,.fl [23,24,25,26],.sq [27,28,29,30,31,32,33,34] false,.fl [35,36,38,39,40,41],.sq [37] true,.sq [42,43,44] false,.fl [45,46,48,49,50,51],.sq [47] true,.sq [52,53,54] false] (by kernel_rfl) (by kernel_rfl) (by intro c a d v w h;cases d <;> exact h) ?_;simp only [Qdj,Qa3,List.getElem?_cons_succ,List.getElem?_cons_zero]
 have hC1:=Qaj (w2);refine Qak hC1 ?_
 repeat (first|go_big_quiet_step (fail)|quiet_step (fail))
 refine wpQuiet_nil ?_;refine Qah (fun K hK=>?_);go_wp2_with fail;go_wp2_with fail;refine hK _ _ (fun h=>nomatch h) ?_;clear hK K;refine Qak hC1 ?_
 repeat (first|go_big_quiet_step (fail)|quiet_step (fail))
 refine wpQuiet_nil ?_;refine Qah (fun K hK=>?_);go_wp2_with fail;go_wp2_with fail;refine hK _ _ (fun h=>nomatch h) ?_;clear hK K;refine Qak hC1 ?_
 repeat (first|go_big_quiet_step (fail)|quiet_step (fail))
 refine wpQuiet_nil ?_;refine Qah (fun K hK=>?_);go_wp2_with fail;go_wp2_with fail;refine hK _ _ (fun h=>nomatch h) ?_;clear hK K;refine Qak hC1 ?_
 repeat (first|go_big_quiet_step (fail)|quiet_step (fail))
 refine wpQuiet_nil ?_;have HBd:Hid (Below w.heap.size w w2.drew):=LH (HM.out.below.trans ((Qae hC1).mono HM.out.below.size));generalize w2.drew=wd at *;refine Qah (fun K hK=>?_);go_wp2_with fail;refine (Qlo va vb k vc vd ys HK.out (HA.out.below HBd.out NR) (HB.out.below HBd.out NR) (by omega)).mono ?_;rintro e w3 ⟨rfl,hb3⟩;have hC2:=Qan hC1 hb3;have HB3:Hid (Below w.heap.size w w3):=LH (HBd.out.trans (hb3.mono HBd.out.size));have c4:w3.cell? ⟨q2,4,none⟩=some (.pointer (some ⟨g,0,none⟩)):=by
  obtain ⟨x,hx⟩:=hC2;rw [hx];exact rs4 x
 clear hb3;go_wp2_with fail;refine hK _ _ (fun h=>nomatch h) ?_;clear hK K;refine Qak hC2 ?_
 repeat (first | (refine Qk2 Jcp (rs.map (Value.int .i64)).toArray hld hsz8 (by rfl) rfl rfl ?_) | go_big_quiet_step (fail) | quiet_step (fail))
 refine wpQuiet_nil ?_;refine Qah (fun K hK=>?_);go_wp2_with fail;refine (Qj6 (HR.out.below HB3.out NR) hrl).mono ?_;rintro e w4 ⟨rfl,hb4⟩;unfold Jg6;have hC3:=Qan hC2 hb4;have HB4:Hid (Below w.heap.size w w4):=LH (HB3.out.trans (hb4.mono HB3.out.size));clear hb4;go_wp2_with fail;refine hK _ _ (fun _=>hC3) ?_;clear hK K;refine Qah (fun K hK=>?_);go_wp2_with fail;go_wp2_with fail;refine hK _ _ (fun h=>nomatch h) ?_;clear hK K;refine Qak hC3 ?_
 repeat (first|go_big_quiet_step (fail)|quiet_step (fail))
 refine wpQuiet_nil ?_;refine Qah (fun K hK=>?_);go_wp2_with fail;refine (Qux (HR.out.below HB4.out NR)).mono ?_;rintro e w5 ⟨rfl,rfl⟩;go_wp2_with fail;refine hK _ _ (fun _=>hC3) ?_;clear hK K;have HFin:=LH (HP.out _ HB4.out);clear hC1 hC2 hC3;refine Qal ?_;go_wp2_with fail;exact HFin.out
structure ThV where
 pos:Nat
 p:Nat
 d:Nat
 ta:Option Addr
 tc:Nat
 tgt:List Int
instance:Inhabited ThV:=⟨⟨0,0,0,none,0,[]⟩⟩
def ThV.cs (t:ThV):List Value:=[.int .u16 (t.pos:Int),.int .u16 (t.p:Int),.int .u16 (t.d:Int),.slice t.ta t.tgt.length t.tc]
theorem ThV.len (t:ThV):t.cs.length=4:=rfl
structure ThV.ok (w:World) (t:ThV):Prop where
 pos:t.pos<65536
 p:t.p<65536
 d:t.d<65536
 tgt:Qaq w t.ta (t.tgt.map (Value.int .i64))
 len:t.tgt.length≤maxLen
theorem ThV.ok.below {w w':World} {t:ThV} (h:t.ok w) (hb:Below w.heap.size w w'):t.ok w':=⟨h.pos,h.p,h.d,h.tgt.below hb NR,h.len⟩
structure Img where
 ha:Option Addr
 nh:Nat
 hc:Nat
 L:List Hd
 ta:Option Addr
 nt:Nat
 tc:Nat
 T:List ThV
 r0:Int
 r1:Int
 r2:Int
 r3:Int
 r4:Int
 r5:Int
 r6:Int
 r7:Int
 e0:Nat
 e1:Nat
 ua:Option Addr
 nu:Nat
 uc:Nat
 U:List Nat
def Img.cs (I:Img):Array Value:=#[.slice I.ha I.nh I.hc,.slice I.ta I.nt I.tc,.int .i64 I.r0,.int .i64 I.r1,.int .i64 I.r2,.int .i64 I.r3,.int .i64 I.r4,.int .i64 I.r5,.int .i64 I.r6,.int .i64 I.r7,.int .u8 (I.e0:Int),.int .u8 (I.e1:Int),.slice I.ua I.nu I.uc]
structure Img.In (w:World) (I:Img):Prop where
 hl:I.L.length=I.nh
 tl:I.T.length=I.nt
 ul:I.U.length=I.nu
 hcs:Qaq w I.ha (Qbt I.L)
 tcs:Qaq w I.ta (Qrh ThV.cs I.T)
 tok:∀t∈I.T,t.ok w
 ucs:Qaq w I.ua (I.U.map (fun n:Nat=>Value.int .u16 (n:Int)))
 ub:∀u∈I.U,u<65536
 eb:I.e0<256∧I.e1<256
 hm:I.nh≤maxLen
 tm:I.nt≤maxLen
 um:I.nu≤maxLen
theorem Img.In.below {w w':World} {I:Img} (h:I.In w) (hb:Below w.heap.size w w'):I.In w' :=
 ⟨h.hl,h.tl,h.ul,h.hcs.below hb NR,h.tcs.below hb NR,fun t ht=>(h.tok t ht).below hb,h.ucs.below hb NR,h.ub,h.eb,h.hm,h.tm,h.um⟩
theorem Img.In.thing {w:World} {I:Img} (h:I.In w) {j:Nat} (hj:j<I.nt):∃b off,I.ta=some ⟨b,off,none⟩∧b<w.heap.size∧(I.T.getD j default).ok w∧
  ∀i v,(I.T.getD j default).cs[i]?=some v→w.cell? ⟨b,off+j*4+i,none⟩=some v:=by
 obtain ⟨b,off,e,hb,hc⟩:=Qpf ThV.len (by decide) (default:ThV) h.tcs (by rw [h.tl];exact hj);refine ⟨b,off,e,hb,h.tok _ ?_,hc⟩;rw [GD,GE (by rw [h.tl];exact hj)];exact List.getElem_mem _
theorem Img.form (I:Img):∃(ha:Option Addr) (nh hc:Nat) (ta:Option Addr) (nt tc:Nat) (r0 r1 r2 r3 r4 r5 r6 r7:Int) (E0 E1:Nat) (ua:Option Addr) (nu uc:Nat),
  I.cs=#[.slice ha nh hc,.slice ta nt tc,.int .i64 r0,.int .i64 r1,.int .i64 r2,.int .i64 r3,.int .i64 r4,.int .i64 r5,.int .i64 r6,.int .i64 r7,.int .u8 (E0:Int),.int .u8 (E1:Int),.slice ua nu uc]∧nh=I.nh∧nt=I.nt∧nu=I.nu∧ta=I.ta :=
 ⟨_,_,_,_,_,_,_,_,_,_,_,_,_,_,_,_,_,_,_,rfl,rfl,rfl,rfl,rfl⟩
structure Img.small (I:Img):Prop where
 h1:1≤I.nh
 h7:I.nh≤7
 t40:I.nt≤40
 u8:I.nu≤8
 tgt:∀t∈I.T,t.tgt.length≤63
def Qvy (I:Img) (w:World):Ending→World→Prop:=fun e w'=>Below w.heap.size w w'∧∃b:Bool,e=.returned (.bool b)∧(b=true→I.small)
theorem Jbx {w:World} {I:Img} (h:I.In w):Calls Tryz.prog 8 #[.agg I.cs] w (Qvy I w):=by
 have HP:Hid (∀w',Below w.heap.size w w'→∀b:Bool,(b=true→I.small)→Qvy I w (.returned (.bool b)) w'):=LH (fun w' h b hb=>⟨h,b,rfl,hb⟩);generalize Qvy I w=Post at *;have HI:=LH h;have hm:=h.hm;have tm:=h.tm;have um:=h.um;unfold maxLen at hm tm um;obtain ⟨ha,nh,hc,ta,nt,tc,r0,r1,r2,r3,r4,r5,r6,r7,E0,E1,ua,nu,uc,hcs,f1,f2,f3,f4⟩:=I.form;rw [← f1] at hm;rw [← f2] at tm;rw [← f3] at um;rw [hcs];have F1:=LH f1;have F2:=LH f2;have F3:=LH f3;have F4:=LH f4;have HM:=LH (Mem.one w #[.slice ha nh hc,.slice ta nt tc,.int .i64 r0,.int .i64 r1,.int .i64 r2,.int .i64 r3,.int .i64 r4,.int .i64 r5,.int .i64 r6,.int .i64 r7,.int .u8 (E0:Int),.int .u8 (E1:Int),.slice ua nu uc] 28);have HB0:=LH HM.out.below;clear hcs f1 f2 f3 f4 h;go_enter Tryz.func8,Tryz.ntmps8;go_upto_region 1 with fail;obtain ⟨q,hq⟩:∃q,q=w.heap.size:=⟨_,rfl⟩
 rw [← hq] at HM ⊢;generalize w.alloc _=w1 at *;have c0:=HM.out.cell 0 0 rfl rfl;have c1:=HM.out.cell 0 1 rfl rfl;have c12:=HM.out.cell 0 12 rfl rfl;clear hq HM
 by_cases h1:nh<1
 ·have h1':(nh:Int)<1:=by omega
  have HF:=LH (HP.out w1 HB0.out false (fun h=>by cases h));clear h1;go_wp2_with fail;exact HF.out
 by_cases h2:7<nh
 ·have h1':decide ((nh:Int)<1)=false:=by simp;omega
  have h2':(7:Int)<(nh:Int):=by omega
  have HF:=LH (HP.out w1 HB0.out false (fun h=>by cases h));clear h1 h2;go_wp2_with fail;exact HF.out
 have h1':decide ((nh:Int)<1)=false:=by simp;omega
 have h2':decide ((7:Int)<(nh:Int))=false:=by simp;omega
 have h1n:1≤nh:=by omega
 have h2n:nh≤7:=by omega
 clear h1 h2
 by_cases h3:40<nt
 ·have h3':(40:Int)<(nt:Int):=by omega
  have HF:=LH (HP.out w1 HB0.out false (fun h=>by cases h));clear h3;go_wp2_with fail;exact HF.out
 have h3':decide ((40:Int)<(nt:Int))=false:=by simp;omega
 have h3n:nt≤40:=by omega
 clear h3
 by_cases h4:8<nu
 ·have h4':(8:Int)<(nu:Int):=by omega
  have HF:=LH (HP.out w1 HB0.out false (fun h=>by cases h));clear h4;go_wp2_with fail;exact HF.out
 have h4':decide ((8:Int)<(nu:Int))=false:=by simp;omega
 have h4n:nu≤8:=by omega
 clear h4
 go_upto_if 25 with fail
 go_wp2_with fail
 go_loopw [3] (fun iv wr=>∃k:Nat,k≤nt∧iv=.int .i64 (k:Int)∧wr=w1∧Hid (∀j,j<k→(I.T.getD j default).tgt.length≤63)) (fun iv _=>nt-(intOf iv).toNat)
 case atStart=>exact ⟨0,Nat.zero_le _,rfl,rfl,LH (fun j hj=>by omega)⟩
 case round =>
  obtain ⟨k,hk,rfl,rfl,HS⟩:=hrel
  by_cases hlt:k<nt
  ·have hlt':(k:Int)<(nt:Int):=by omega
   obtain ⟨b,off,he,hb,hok,hcell⟩:=(HI.out.below HB0.out).thing (j:=k) (by rw [← F2.out];exact hlt);rw [← F4.out] at he;subst he;obtain ⟨u,hu⟩:∃u,u=I.T.getD k default:=⟨_,rfl⟩
   rw [← hu] at hok hcell;have e3:wr.cell? ⟨b,off+k*4+3,none⟩=some (.slice u.ta u.tgt.length u.tc):=hcell 3 _ rfl;have hlm:=hok.len;unfold maxLen at hlm;obtain ⟨m,hm⟩:∃m,m=u.tgt.length:=⟨_,rfl⟩
   rw [← hm] at e3 hlm;have HMm:Hid ((I.T.getD k default).tgt.length=m):=LH (by rw [hm,hu]);have HKn:=LH (show k<nt from hlt);clear hu hm hcell hok hlt
   by_cases hbig:63<m
   ·have hb':(63:Int)<(m:Int):=by omega
    have HF:=LH (HP.out wr HB0.out false (fun h=>by cases h));clear hbig;go_wp2_with fail;exact HF.out
   ·have hb':decide ((63:Int)<(m:Int))=false:=by simp;omega
    go_wp2_with fail;refine ⟨⟨k+1,by have:=HKn.out;omega,Qb2 (by omega),(by first | rfl | trivial),LH (fun j hj=>by
     rcases Nat.lt_or_ge j k with c | c
     ·exact HS.out j c
     ·obtain rfl:j=k:=by omega
      rw [HMm.out];omega)⟩,?_⟩
    have:=HKn.out;simp [intOf];omega
  ·obtain rfl:k=nt:=by omega
   have hlt':decide ((k:Int)<(k:Int))=false:=by simp
   have HSm:Hid I.small:=LH (by
    refine ⟨by rw [← F1.out];exact h1n,by rw [← F1.out];exact h2n,by rw [← F2.out];exact h3n,by rw [← F3.out];exact h4n,fun t ht=>?_⟩;obtain ⟨j,hj,rfl⟩:=List.mem_iff_getElem.1 ht;have hlen:I.T.length=k:=by rw [HI.out.tl,F2.out]
    have:=HS.out j (by rw [← hlen];exact hj);rw [GD,GE hj] at this
    exact this)
   have HF:=LH (HP.out wr HB0.out true (fun _=>HSm.out));clear hlt;go_wp2_with fail;exact HF.out
def Qqk (w:World):Ending→World→Prop:=fun e w'=>Below w.heap.size w w'∧∃n:Nat,n<65536∧e=.returned (.int .i64 (n:Int))
theorem Qpj {w:World} {I:Img} (h:I.In w) (i:Int):Calls Tryz.prog 40 #[.agg I.cs,.int .i64 i] w (Qqk w):=by
 have HP:Hid (∀w',Below w.heap.size w w'→∀n:Nat,n<65536→Qqk w (.returned (.int .i64 (n:Int))) w'):=LH (fun w' h n hn=>⟨h,n,hn,rfl⟩);generalize Qqk w=Post at *;have HI:=LH h;have tm:=h.tm;unfold maxLen at tm;obtain ⟨ha,nh,hc,ta,nt,tc,r0,r1,r2,r3,r4,r5,r6,r7,E0,E1,ua,nu,uc,hcs,f1,f2,f3,f4⟩:=I.form;rw [← f2] at tm;rw [hcs];have F2:=LH f2;have F4:=LH f4;have HM:=LH (Mem.one w #[.slice ha nh hc,.slice ta nt tc,.int .i64 r0,.int .i64 r1,.int .i64 r2,.int .i64 r3,.int .i64 r4,.int .i64 r5,.int .i64 r6,.int .i64 r7,.int .u8 (E0:Int),.int .u8 (E1:Int),.slice ua nu uc] 28);have HB0:=LH HM.out.below;clear hcs f1 f2 f3 f4 h;go_enter Tryz.func40,Tryz.ntmps40;go_upto_region 1 with fail;obtain ⟨q,hq⟩:∃q,q=w.heap.size:=⟨_,rfl⟩
 rw [← hq] at HM ⊢;generalize w.alloc _=w1 at *;have c1:=HM.out.cell 0 1 rfl rfl;clear hq HM
 by_cases h1:i<0
 ·have HF:=LH (HP.out w1 HB0.out 0 (by omega));go_wp2_with fail;exact HF.out
 obtain ⟨j,rfl⟩:=Int.eq_ofNat_of_zero_le (show 0≤i by omega);have h1':decide ((j:Int)<0)=false:=by simp
 clear h1
 by_cases h2:nt≤j
 ·have h2':(nt:Int)≤(j:Int):=by omega
  have HF:=LH (HP.out w1 HB0.out 0 (by omega));clear h2;go_wp2_with fail;exact HF.out
 have h2':decide ((nt:Int)≤(j:Int))=false:=by simp;omega
 have h3':(j:Int)<(nt:Int):=by omega
 obtain ⟨b,off,he,hb,hok,hcell⟩:=(HI.out.below HB0.out).thing (j:=j) (by rw [← F2.out];omega);rw [← F4.out] at he;subst he;obtain ⟨u,hu⟩:∃u,u=I.T.getD j default:=⟨_,rfl⟩
 rw [← hu] at hok hcell;have e0:w1.cell? ⟨b,off+j*4,none⟩=some (.int .u16 (u.pos:Int)):=hcell 0 _ rfl;have hp:=hok.pos;generalize u.pos=x at *;have HF:=LH (HP.out w1 HB0.out x hp);clear hu hcell hok h2;go_wp2_with fail;exact HF.out
def Quc (N:Nat) (ws:List Nat):Prop:=ws.length=N∧∀z∈ws,z<18446744073709551616
theorem Quc.zero (N:Nat):Quc N (List.replicate N 0):=⟨List.length_replicate,fun z hz=>by rw [List.mem_replicate] at hz;omega⟩
theorem Quc.set {N:Nat} {ws:List Nat} (h:Quc N ws) (z:Nat) {x:Nat} (hx:x<18446744073709551616):Quc N (ws.set z x):=⟨by rw [List.length_set];exact h.1,fun y hy=>by
 rcases List.mem_or_eq_of_mem_set hy with c | c
 ·exact h.2 y c
 ·rw [c];exact hx⟩
theorem Quc.put {N:Nat} {ws:List Nat} (h:Quc N ws) {o:Nat} {cs:List Nat} (ho:o+cs.length≤N) (hc:∀z∈cs,z<18446744073709551616):Quc N (splice ws o cs):=⟨by rw [Qhg _ _ _ (by rw [h.1];exact ho)];exact h.1,Qfp o h.2 hc⟩
theorem Jf2 {α:Type} {l:List α} (h:l.length=16):∃a0 a1 a2 a3 a4 a5 a6 a7 b0 b1 b2 b3 b4 b5 b6 b7,l=[a0,a1,a2,a3,a4,a5,a6,a7,b0,b1,b2,b3,b4,b5,b6,b7]:=by
 match l,h with
 | [a0,a1,a2,a3,a4,a5,a6,a7,b0,b1,b2,b3,b4,b5,b6,b7],_=>exact ⟨_,_,_,_,_,_,_,_,_,_,_,_,_,_,_,_,rfl⟩
theorem Jfd {α:Type} {l:List α} (h:l.length=8):∃a0 a1 a2 a3 a4 a5 a6 a7,l=[a0,a1,a2,a3,a4,a5,a6,a7]:=by
 match l,h with
 | [a0,a1,a2,a3,a4,a5,a6,a7],_=>exact ⟨_,_,_,_,_,_,_,_,rfl⟩
theorem Mem.word {w W:World} {x:Ent} {g T:Nat} {ws:List Nat} {R:List Ent} (h:Mem w W (x :: ⟨g,T,ws.map Qad,false⟩ :: R)) {z:Nat} (hz:z<ws.length) (y:Nat) :
  Mem w (W.setCell ⟨g,z,none⟩ (Qad y)) (x :: ⟨g,T,(ws.set z y).map Qad,false⟩ :: R):=by
 rw [List.map_set];exact h.set 1 z (Qad y) rfl (by rw [List.length_map];exact hz)
theorem Mem.drop2 {w W : World} {x y : Ent} {R : List Ent} (h : Mem w W (x :: y :: R)) : Mem w W [x, y] :=
 ⟨h.below, fun z hz => h.rows z (by simp at hz ⊢; rcases hz with c | c <;> simp [c]), fun z hz => h.base z (by simp at hz ⊢; rcases hz with c | c <;> simp [c]), by
  have := h.nd;simp at this ⊢
  exact this.1.1⟩
theorem Jdw:Agg Tryz.prog 28 #[.slice none 0 0,.slice none 0 0,.int .i64 0,.int .i64 0,.int .i64 0,.int .i64 0,.int .i64 0,.int .i64 0,.int .i64 0,.int .i64 0,.int .u8 0,.int .u8 0,.slice none 0 0]:=⟨⟨_,Tryz.underlying28,rfl⟩,by kernel_rfl⟩
def Qup (I:Img) (w:World):Ending→World→Prop:=fun e w'=>Below w.heap.size w w'∧∃(g:Nat) (ws:List Nat),e=.returned (.slice (some ⟨g,0,none⟩) (512*(1+I.nh)) (512*(1+I.nh)))∧Quc (512*(1+I.nh)) ws∧w.heap.size≤g∧Qa6 w' g 40 (ws.map Qad)
theorem Qug {w:World} {I:Img} (h:I.In w) (hs:I.small):Calls Tryz.prog 9 #[.agg I.cs] w (Qup I w):=by
 have HP:Hid (∀w',Below w.heap.size w w'→∀g ws,Quc (512*(1+I.nh)) ws→w.heap.size≤g→Qa6 w' g 40 (ws.map Qad)→Qup I w (.returned (.slice (some ⟨g,0,none⟩) (512*(1+I.nh)) (512*(1+I.nh)))) w'):=LH (fun w' h g ws h1 h2 h3=>⟨h,g,ws,rfl,h1,h2,h3⟩);generalize Qup I w=Post at *;have HI:=LH h;have HS:=LH hs;have hm:=hs.h7;have hm1:=hs.h1;have tm:=hs.t40;have um:=hs.u8;obtain ⟨ha,nh,hc,ta,nt,tc,r0,r1,r2,r3,r4,r5,r6,r7,E0,E1,ua,nu,uc,hcs,f1,f2,f3,f4⟩:=I.form;rw [← f1] at hm hm1;rw [← f2] at tm;rw [← f3] at um;rw [← f1] at HP;rw [hcs];have F1:=LH f1;have F2:=LH f2;have F3:=LH f3;have F4:=LH f4;have HCs:=LH hcs;have HM:=LH (Mem.one w #[.slice ha nh hc,.slice ta nt tc,.int .i64 r0,.int .i64 r1,.int .i64 r2,.int .i64 r3,.int .i64 r4,.int .i64 r5,.int .i64 r6,.int .i64 r7,.int .u8 (E0:Int),.int .u8 (E1:Int),.slice ua nu uc] 28);clear hcs f1 f2 f3 f4 h hs;go_enter Tryz.func9,Tryz.ntmps9;go_upto_region 1 with fail;obtain ⟨q,hq⟩:∃q,q=w.heap.size:=⟨_,rfl⟩
 rw [← hq] at HM ⊢;generalize w.alloc _=w1 at *;have c0:=HM.out.cell 0 0 rfl rfl;have HM1:Hid (Mem w w1 [⟨q,28,I.cs.toList,true⟩]):=LH (by rw [HCs.out];simpa using HM.out);have HC:Hid (∀ {w':World} {R:List Ent},Mem w w' (⟨q,28,I.cs.toList,true⟩ :: R)→w'.cell? ⟨q,0,none⟩=some (.slice ha nh hc)∧w'.cell? ⟨q,1,none⟩=some (.slice ta nt tc)∧w'.cell? ⟨q,12,none⟩=some (.slice ua nu uc)) :=
  LH (fun h=>⟨h.cell 0 0 rfl (by rw [HCs.out];rfl),h.cell 0 1 rfl (by rw [HCs.out];rfl),h.cell 0 12 rfl (by rw [HCs.out];rfl)⟩)
 clear hq HM;obtain ⟨B,hB⟩:∃B,B=1+nh:=⟨_,rfl⟩
 have hBI:(1:Int)+(nh:Int)=(B:Int):=by omega
 have hB2:2≤B:=by omega
 have hB8:B≤8:=by omega
 obtain ⟨N,hN⟩:∃N,N=512*B:=⟨_,rfl⟩
 have hNI:(512:Int)*(B:Int)=(N:Int):=by omega
 have hN5:N≤4096:=by omega
 have hN1:1024≤N:=by omega
 rw [← hB,← hN] at HP;have HBn:=LH hB;have HNe:=LH hN;clear hB hN;go_upto_region 2 with fail;clear c0;go_upto_region 3 with (at_make;refine Qc1 Qyy w1.heap.size N rfl rfl rfl (by omega) (by decide) NR rfl rfl rfl rfl ?_;intro w4 hown hgrow;have HO:=LH hown;have HG:=LH hgrow;clear hown hgrow)
 have hr0:=Qd6 HO.out;obtain ⟨g,hg⟩:∃g,g=w1.heap.size:=⟨_,rfl⟩
 rw [← hg] at hr0 ⊢;have HM4:Hid (Mem w w4 [⟨q,28,I.cs.toList,true⟩,⟨g,40,(List.replicate N 0).map Qad,false⟩]):=LH (HM1.out.row (Qbq HG.out NR) (by rw [List.map_replicate];show Qa6 w4 g 40 (List.replicate N (.int .u64 0));simpa using hr0) (by rw [hg];exact Nat.le_refl _));have HW4:=LH (Quc.zero N);have HGb:Hid (w.heap.size≤g):=LH (HM4.out.gbase 1 rfl);clear hr0 hg HO HG HM1;generalize List.replicate N 0=ws at *;go_wp2_with fail;refine (Qlv B 7 (by omega) (by omega) w4).mono ?_;rintro e w5 ⟨rfl,hb5⟩;have HM5:=LH (HM4.out.later hb5);obtain ⟨x0,x1,x2,x3,x4,x5,x6,x7,hx⟩:=Jfd (l:=Qgn B 7) rfl;have HX:Hid (∀z∈[x0,x1,x2,x3,x4,x5,x6,x7],z<18446744073709551616):=LH (fun z hz=>by
  rw [← hx] at hz;obtain ⟨k,hk,rfl⟩:=List.mem_iff_getElem.1 hz;have:=Qni (n:=B) (id:=7) (by omega) (by omega) k;rw [GD,GE hk] at this
  exact this)
 rw [hx,show Qgb [x0,x1,x2,x3,x4,x5,x6,x7]=.agg #[Qad x0,Qad x1,Qad x2,Qad x3,Qad x4,Qad x5,Qad x6,Qad x7] from rfl];clear hb5 hx HM4;have HM6:=LH (HM5.out.alloc #[Qad x0,Qad x1,Qad x2,Qad x3,Qad x4,Qad x5,Qad x6,Qad x7] 101);go_upto_region 4 with fail;obtain ⟨q5,hq5⟩:∃q,q=w5.heap.size:=⟨_,rfl⟩
 rw [← hq5] at HM6 ⊢;generalize w5.alloc _=w6 at *;have HM7:Hid (Mem w w6 [⟨q,28,I.cs.toList,true⟩,⟨g,40,ws.map Qad,false⟩,⟨q5,101,[x0,x1,x2,x3,x4,x5,x6,x7].map Qad,true⟩]):=LH HM6.out;clear hq5 HM6 HM5;have HSrc:Hid (∀j v,([x0,x1,x2,x3,x4,x5,x6,x7].map Qad)[j]?=some v→w6.cell? ⟨q5,0+j,none⟩=some v):=LH (fun j v hj=>by rw [Nat.zero_add];exact HM7.out.cell 2 j rfl hj);have HLen:Hid (([x0,x1,x2,x3,x4,x5,x6,x7].map Qad).length=Nat.min 8 N*1):=LH (by rw [show Nat.min 8 N=8 from Nat.min_eq_left (by omega)];rfl);have HFit:Hid (0+([x0,x1,x2,x3,x4,x5,x6,x7].map Qad).length≤(ws.map Qad).length):=LH (by rw [List.length_map,List.length_map,HW4.out.1];simp;omega);go_upto_region 5 with (refine Qfa rfl rfl (Tryz.underlying31) (size:=1) (by kernel_rfl) rfl rfl (HM7.out.at 1 rfl) ([x0,x1,x2,x3,x4,x5,x6,x7].map Qad) HLen.out HSrc.out HFit.out (Qd9 _) ?_;intro w7 h7 ht7;have H7:=LH h7;have HT7:=LH ht7;clear h7 ht7)
 have HM8:Hid (Mem w w7 [⟨q,28,I.cs.toList,true⟩,⟨g,40,(splice ws 0 [x0,x1,x2,x3,x4,x5,x6,x7]).map Qad,false⟩]):=LH (by
  have:=HM7.out.upd 1 (y:=⟨g,40,(splice ws 0 [x0,x1,x2,x3,x4,x5,x6,x7]).map Qad,false⟩) rfl rfl HT7.out (by
   rw [← Qfj];exact Qmk.of H7.out)
  exact Mem.drop2 this)
 have HW8:=LH (HW4.out.put (o:=0) (cs:=[x0,x1,x2,x3,x4,x5,x6,x7]) (by simp;omega) HX.out);generalize splice ws 0 [x0,x1,x2,x3,x4,x5,x6,x7]=ws1 at *;clear HW4 HM7 HSrc HLen HFit H7 HT7 HX;go_wp2_with fail
 go_loopw [6] (fun iv wr=>∃(k:Nat) (ws:List Nat),1≤k∧k≤B∧iv=.int .i64 (k:Int)∧Hid (Quc N ws)∧Hid (Mem w wr [⟨q,28,I.cs.toList,true⟩,⟨g,40,ws.map Qad,false⟩])) (fun iv _=>B-(intOf iv).toNat)
 case atStart=>exact ⟨1,ws1,Nat.le_refl _,by omega,rfl,HW8,HM8⟩
 case round =>
  clear HM8 HW8;obtain ⟨k,ws,hk1,hk,rfl,HW,HMr⟩:=hrel
  by_cases hlt:k<B
  ·have hlt':(k:Int)<(B:Int):=by omega
   obtain ⟨j,hj⟩:∃j,j=k-1:=⟨_,rfl⟩
   have hjI:(k:Int)-1=(j:Int):=by omega
   have hjn:j<nh:=by have:=HBn.out;omega
   have hjn':(j:Int)<(nh:Int):=by omega
   obtain ⟨hk0,hc0,hl0,he⟩:=Qe5 I.L j;obtain ⟨b1,o1,hae,d0,d1,d2⟩:=Qcq (HI.out.below HMr.out.below).hcs (by rw [HI.out.hl,← F1.out];exact hjn) he;have hHa:ha=some ⟨b1,o1,none⟩:=by
    rw [← hae];have:=congrArg (fun x:Array Value=>x[0]?) HCs.out;simp [Img.cs] at this
    exact this.1.symm
   subst hHa;obtain ⟨z,hz⟩:∃z,z=256+k:=⟨_,rfl⟩
   have hzI:(256:Int)+(k:Int)=(z:Int):=by omega
   have hzN:(z:Int)<(N:Int):=by have:=HNe.out;omega
   have HZl:Hid (z<ws.length):=LH (by rw [HW.out.1];omega);have c0:=(HC.out HMr.out).1;clear he hz hj hae hlt;go_wp2_with fail;refine (Jar ⟨hk0,hc0,hl0⟩ _).mono ?_;rintro e w5 ⟨rfl,hb5⟩;unfold Hd.val;dsimp only;have HM5:=LH (HMr.out.later hb5);clear hb5 d0 d1 d2 c0;go_wp2_with fail;refine (Qji (k:Int) hk0 hc0 hl0 (by omega) (by omega) _).mono ?_;rintro e w6 ⟨rfl,hb6⟩;have HM6:=LH (HM5.out.later hb6);obtain ⟨u,hu⟩:∃u,(ws.map Qad)[z]?=some u:=⟨_,GE (by rw [List.length_map];exact HZl.out)⟩
   have e0:w6.cell? ⟨g,z,none⟩=some u:=HM6.out.cell 1 z rfl hu;have e1:w6.frozen? ⟨g,z,none⟩=false:=HM6.out.frozen 1 z rfl;have HX:=LH (Qfx (k:Int) hk0 hc0 hl0);generalize Qeq (k:Int) hk0 hc0 hl0=x at *;have HM7:=LH (HM6.out.word HZl.out x);have HW7:=LH (HW.out.set z HX.out);clear hb6 hu;go_wp2_with fail;exact ⟨⟨k+1,ws.set z x,by omega,by omega,Qb2 (by omega),HW7,HM7⟩,by simp [intOf];omega⟩
  ·obtain rfl:k=B:=by omega
   have hlt':decide ((k:Int)<(k:Int))=false:=by simp
   clear hlt hk;go_wp2_with fail
   go_loopw [7] (fun iv wr=>∃(i:Nat) (ws:List Nat),i≤nt∧iv=.int .i64 (i:Int)∧Hid (Quc N ws)∧Hid (Mem w wr [⟨q,28,I.cs.toList,true⟩,⟨g,40,ws.map Qad,false⟩])) (fun iv _=>nt-(intOf iv).toNat)
   case atStart=>exact ⟨0,ws,Nat.zero_le _,rfl,HW,HMr⟩
   case round =>
    clear HMr HW;obtain ⟨i,ws,hi,rfl,HW,HMr⟩:=hrel
    by_cases hin:i<nt
    case neg =>
     obtain rfl:i=nt:=by omega
     have hlt2:decide ((i:Int)<(i:Int))=false:=by simp
     have c1:=(HC.out HMr.out).2.1;clear hin hi;go_wp2_with fail
     go_loopw [12] (fun iv wr=>∃(s:Nat) (ws:List Nat),s≤2∧iv=.int .i64 (s:Int)∧Hid (Quc N ws)∧Hid (Mem w wr [⟨q,28,I.cs.toList,true⟩,⟨g,40,ws.map Qad,false⟩])) (fun iv _=>2-(intOf iv).toNat)
     case atStart=>exact ⟨0,ws,by omega,rfl,HW,HMr⟩
     case round =>
      clear HMr HW c1;obtain ⟨s,ws,hs,rfl,HW,HMr⟩:=hrel
      by_cases hs2:s<2
      case neg =>
       have hs2':decide ((s:Int)<2)=false:=by simp;omega
       clear hs2 hs;go_wp2_with fail
       go_loopw [16] (fun iv wr=>∃(k:Nat) (ws:List Nat),k≤nu∧iv=.int .i64 (k:Int)∧Hid (Quc N ws)∧Hid (Mem w wr [⟨q,28,I.cs.toList,true⟩,⟨g,40,ws.map Qad,false⟩])) (fun iv _=>nu-(intOf iv).toNat)
       case atStart=>exact ⟨0,ws,Nat.zero_le _,rfl,HW,HMr⟩
       case round =>
        clear HMr HW;obtain ⟨k,ws,hk,rfl,HW,HMr⟩:=hrel;have c12:=(HC.out HMr.out).2.2
        by_cases hkn:k<nu
        case neg =>
         obtain rfl:k=nu:=by omega
         have hkn':decide ((k:Int)<(k:Int))=false:=by simp
         have HF:=LH (HP.out wr HMr.out.below g ws HW.out HGb.out (HMr.out.at 1 rfl));clear hkn hk;go_wp2_with fail;exact HF.out
        have hkn':(k:Int)<(nu:Int):=by omega
        obtain ⟨b1,o1,hae,_,hcell⟩:=(HI.out.ucs.below HMr.out.below NR).at (by rw [List.length_map,HI.out.ul,← F3.out];omega);have hUa:I.ua=ua:=by
         have:=congrArg (fun x:Array Value=>x[12]?) HCs.out;simp [Img.cs] at this
         exact this.1
        rw [hUa] at hae;subst hae;have hkl:k<I.U.length:=by rw [HI.out.ul,← F3.out];exact hkn
        have d0:=hcell k (.int .u16 ((I.U[k]:Nat):Int)) (by rw [List.getElem?_map,GE hkl];rfl);have hxb:I.U[k]<65536:=HI.out.ub _ (List.getElem_mem _);generalize I.U[k]=x at *;obtain ⟨z,hz⟩:∃z,z=x % N:=⟨_,rfl⟩
        have hzm:Int.tmod (x:Int) (N:Int)=(z:Int):=by rw [hz];exact (Int.ofNat_tmod x N).symm
        have hzN:z<N:=by rw [hz];exact Nat.mod_lt _ (by omega)
        have hzN':(z:Int)<(N:Int):=by omega
        have hN0:((N:Int) == 0)=false:=by rw [beq_eq_false_iff_ne];omega
        have HZl:Hid (z<ws.length):=LH (by rw [HW.out.1];exact hzN);have hWz:ws.getD z 0<18446744073709551616:=by
         rw [GD,GE HZl.out];exact HW.out.2 _ (List.getElem_mem _)
        have e0:wr.cell? ⟨g,z,none⟩=some (Qad (ws.getD z 0)):=HMr.out.cell 1 z rfl (by
         rw [List.getElem?_map,GE HZl.out,GD,GE HZl.out];rfl)
        have e1:wr.frozen? ⟨g,z,none⟩=false:=HMr.out.frozen 1 z rfl;generalize ws.getD z 0=old at *;have hkm:Int.tmod (k:Int) 64=(k:Int):=by rw [Int.tmod_eq_emod_of_nonneg (by omega)];omega
        have hp64:2 ^ k<18446744073709551616:=Nat.pow_lt_pow_right (a:=2) (m:=k) (n:=64) (by decide) (by omega);have hsh:bits BinOp.xor IntKind.u64 (old:Int) (IntKind.u64.wrap (2 ^ k))=((old ^^^ 2 ^ k:Nat):Int):=by
         have e:((2:Int) ^ k)=((2 ^ k:Nat):Int):=by rw [Int.natCast_pow];rfl
         have h64:∀P:Nat,P<18446744073709551616→IntKind.u64.wrap (P:Int)=(P:Int):=fun P h=>IntWalk.u64_in _ (by omega)
         rw [e,h64 _ hp64,u64_xor_nat _ _ hWz hp64]
        have HXl:Hid (old ^^^ 2 ^ k<18446744073709551616):=LH (Nat.xor_lt_two_pow (n:=64) hWz hp64);generalize old ^^^ 2 ^ k=X at *;have HM5:=LH (HMr.out.word HZl.out X);have HW5:=LH (HW.out.set z HXl.out);clear hUa hcell hkl hz hzN hp64 hWz hkn;go_wp2_with fail;exact ⟨⟨k+1,ws.set z X,by omega,Qb2 (by omega),HW5,HM5⟩,by simp [intOf];omega⟩
      have hs2':(s:Int)<2:=by omega
      obtain ⟨ep,hep,hec⟩:∃ep:Nat,ep<256∧I.cs.toList[10+s]?=some (.int .u8 (ep:Int)):=by
       have he:=HI.out.eb
       match s,hs2 with
       | 0,_=>exact ⟨_,he.1,rfl⟩
       | 1,_=>exact ⟨_,he.2,rfl⟩
      have c10:=HMr.out.cell 0 (10+s) rfl hec;have hcv:IntKind.u64.wrap (ep:Int)=(ep:Int):=IntWalk.u64_in _ (by omega);have HMs:=LH (HMr.out.alloc #[.int .u64 (ep:Int),.int .i64 0,.int .i64 0,.int .i64 0,.int .i64 0,.int .i64 0,.int .i64 0,.int .i64 0,.int .i64 0] 55);clear hec;go_upto_region 25 with fail;obtain ⟨qs,hqs⟩:∃q,q=wr.heap.size:=⟨_,rfl⟩
      rw [← hqs] at HMs ⊢;generalize wr.alloc _=w5 at *;have HM5:Hid (Mem w w5 [⟨q,28,I.cs.toList,true⟩,⟨g,40,ws.map Qad,false⟩,⟨qs,55,Qad ep :: (List.replicate 8 (0:Int)).map (Value.int .i64),true⟩]):=LH HMs.out;have HL5:Hid ((List.replicate 8 (0:Int)).length=8):=LH rfl;generalize List.replicate 8 (0:Int)=rs at *;clear hqs HMs c10 hcv HMr;go_wp2_with fail
      go_loopw [14] (fun kv wr=>∃(k:Nat) (rs:List Int),k≤8∧kv=.int .i64 (k:Int)∧Hid (rs.length=8)∧Hid (Mem w wr [⟨q,28,I.cs.toList,true⟩,⟨g,40,ws.map Qad,false⟩,⟨qs,55,Qad ep :: rs.map (Value.int .i64),true⟩])) (fun kv _=>8-(intOf kv).toNat)
      case atStart=>exact ⟨0,rs,by omega,rfl,HL5,HM5⟩
      case round =>
       clear HM5 HL5;obtain ⟨k,rs,hk,rfl,HL,HMr⟩:=hrel
       by_cases hk8:k<8
       case pos =>
        have hk8':(k:Int)<8:=by omega
        obtain ⟨y,hy⟩:∃y:Int,I.cs.toList[2+k]?=some (.int .i64 y):=by
         match k,hk8 with
         | 0,_=>exact ⟨_,rfl⟩
         | 1,_=>exact ⟨_,rfl⟩
         | 2,_=>exact ⟨_,rfl⟩
         | 3,_=>exact ⟨_,rfl⟩
         | 4,_=>exact ⟨_,rfl⟩
         | 5,_=>exact ⟨_,rfl⟩
         | 6,_=>exact ⟨_,rfl⟩
         | 7,_=>exact ⟨_,rfl⟩
        have y0:=HMr.out.cell 0 (2+k) rfl hy;have ry:=fun x=>Qab y0 x
        have hld:∀w',(∃x:Qbi wr,w'=x.val)→∀(i:Nat) (v:Value),I.cs.toList[i]?=some v→w'.cell? ⟨q,0+i,none⟩=some v:=by
         rintro w' ⟨x,rfl⟩ i v hi;rw [Nat.zero_add];exact Qab (HMr.out.cell 0 i rfl hi) x
        clear hy;go_upto_region 28 with fail;refine Qai (C:=fun w'=>∃x:Qbi (wr),w'=x.val) [.fl [0,1,2,3,4,5,7],.sq [6] true,.sq [8,9] false] (by kernel_rfl) (by kernel_rfl) (by intro c a d v w h;cases d <;> exact h) ?_;simp only [Qdj,Qa3,List.getElem?_cons_succ,List.getElem?_cons_zero]
        have hC1:=Qaj (wr);refine Qak hC1 ?_
        repeat (first | (refine Qbf Jdw I.cs hld rfl rfl rfl rfl ?_) | go_big_quiet_step (fail) | quiet_step (fail))
        refine wpQuiet_nil ?_;have hbd:=Qae hC1;have HMd:=LH (HMr.out.later hbd);generalize wr.drew=wd at *;clear hbd ry hld y0 HMr;refine Qah (fun K hK=>?_);go_wp2_with fail;refine (Qpj (HI.out.below HMd.out.below) y).mono ?_;rintro e w11 ⟨hb11,n,hn,rfl⟩;have hC2:=Qan hC1 hb11;have HM11:=LH (HMd.out.later hb11);clear hb11;go_wp2_with fail;refine hK _ _ (fun _=>hC2) ?_;clear hK K;obtain ⟨u,hu⟩:∃u,(Qad ep :: rs.map (Value.int .i64))[1+k]?=some u:=⟨_,GE (by rw [List.length_cons,List.length_map,HL.out];omega)⟩
        have e0:w11.cell? ⟨qs,1+k,none⟩=some u:=HM11.out.cell 2 (1+k) rfl hu;have e1:w11.frozen? ⟨qs,1+k,none⟩=false:=HM11.out.frozen 2 (1+k) rfl;have HM12:Hid (Mem w (w11.setCell ⟨qs,1+k,none⟩ (.int .i64 (n:Int))) [⟨q,28,I.cs.toList,true⟩,⟨g,40,ws.map Qad,false⟩,⟨qs,55,Qad ep :: (rs.set k (n:Int)).map (Value.int .i64),true⟩]):=LH (by
         have:=HM11.out.set 2 (1+k) (.int .i64 (n:Int)) rfl (by rw [List.length_cons,List.length_map,HL.out];omega);rw [List.map_set];have e:(Qad ep :: rs.map (Value.int .i64)).set (1+k) (.int .i64 (n:Int))=Qad ep :: (rs.map (Value.int .i64)).set k (.int .i64 (n:Int)):=by rw [Nat.add_comm];rfl
         rw [e] at this
         exact this)
        have HL12:Hid ((rs.set k (n:Int)).length=8):=LH (by rw [List.length_set];exact HL.out);clear hu hC1 hC2 HMd HM11;refine Qal ?_;go_wp2_with fail;exact ⟨⟨k+1,rs.set k (n:Int),by omega,Qb2 (by omega),HL12,HM12⟩,by simp [intOf];omega⟩
       have hk8':decide ((k:Int)<8)=false:=by simp;omega
       have hll:(Qad ep :: rs.map (Value.int .i64)).length=9:=by rw [List.length_cons,List.length_map,HL.out]
       clear hk8 hk;go_wp2_with (refine Qag Qek HMr.out 2 rfl rfl rfl rfl hll ?_)
       rw [show Value.agg (Qad ep :: rs.map (Value.int .i64)).toArray=Qbg ep rs from rfl];refine (Qkf ep rs HL.out (by omega) wr).mono ?_;rintro e w6 ⟨rfl,hb6⟩;have HM6:=LH (HMr.out.later hb6).drop2;obtain ⟨a0,a1,a2,a3,a4,a5,a6,a7,b0,b1,b2,b3,b4,b5,b6,b7,hx⟩:=Jf2 (l:=Qdl ep rs) (Qfu ep rs);have HX:Hid (∀z∈[a0,a1,a2,a3,a4,a5,a6,a7,b0,b1,b2,b3,b4,b5,b6,b7],z<18446744073709551616):=LH (fun z hz=>by
        rw [← hx] at hz;obtain ⟨k,hk,rfl⟩:=List.mem_iff_getElem.1 hz;have:=Qkj (ep:=ep) (rs:=rs) (by omega) k;rw [GD,GE hk] at this
        exact this)
       rw [hx,show Qgb [a0,a1,a2,a3,a4,a5,a6,a7,b0,b1,b2,b3,b4,b5,b6,b7]=.agg #[Qad a0,Qad a1,Qad a2,Qad a3,Qad a4,Qad a5,Qad a6,Qad a7,Qad b0,Qad b1,Qad b2,Qad b3,Qad b4,Qad b5,Qad b6,Qad b7] from rfl];clear hb6 hx HMr hll HL;have HMx:=LH (HM6.out.alloc #[Qad a0,Qad a1,Qad a2,Qad a3,Qad a4,Qad a5,Qad a6,Qad a7,Qad b0,Qad b1,Qad b2,Qad b3,Qad b4,Qad b5,Qad b6,Qad b7] 113);go_upto_region 30 with fail;obtain ⟨qx,hqx⟩:∃q,q=w6.heap.size:=⟨_,rfl⟩
       rw [← hqx] at HMx ⊢;generalize w6.alloc _=w7 at *;have HM7:Hid (Mem w w7 [⟨q,28,I.cs.toList,true⟩,⟨g,40,ws.map Qad,false⟩,⟨qx,113,[a0,a1,a2,a3,a4,a5,a6,a7,b0,b1,b2,b3,b4,b5,b6,b7].map Qad,true⟩]):=LH HMx.out;clear hqx HMx HM6;obtain ⟨s6,hs6⟩:∃x,x=64*s:=⟨_,rfl⟩
       have hs6I:(64:Int)*(s:Int)=(s6:Int):=by omega
       obtain ⟨sl,hsl⟩:∃x,x=64+s6:=⟨_,rfl⟩
       have hslI:(64:Int)+(s6:Int)=(sl:Int):=by omega
       have hslN:sl≤128:=by omega
       have hslL:sl≤N:=by omega
       have hslE:¬N=sl:=by omega
       obtain ⟨rl,hrl⟩:∃x,x=N-sl:=⟨_,rfl⟩
       have hrl16:16≤rl:=by omega
       clear hs6 hsl;refine Qai (C:=fun w'=>∃x:Qbi (w7),w'=x.val) [.fl [0,1,2,3,4,5],.sq [6] false] (by kernel_rfl) (by kernel_rfl) (by intro c a d v w h;cases d <;> exact h) ?_;simp only [Qdj,Qa3,List.getElem?_cons_succ,List.getElem?_cons_zero]
       have hC1:=Qaj (w7);refine Qak hC1 ?_
       repeat (first | (refine Qj3 Qyy (ad:=some ⟨g,0,none⟩) (n:=N) (cap:=N) sl rfl hslL NR rfl rfl rfl rfl ?_) | go_big_quiet_step (fail) | quiet_step (fail))
       refine wpQuiet_nil ?_;have hbd:=Qae hC1;have HMd:=LH (HM7.out.later hbd);generalize w7.drew=wd at *;clear hbd HM7 hC1
       try simp only [← hrl]
       have HSrc:Hid (∀j v,([a0,a1,a2,a3,a4,a5,a6,a7,b0,b1,b2,b3,b4,b5,b6,b7].map Qad)[j]?=some v→wd.cell? ⟨qx,0+j,none⟩=some v):=LH (fun j v hj=>by rw [Nat.zero_add];exact HMd.out.cell 2 j rfl hj);have HLen:Hid (([a0,a1,a2,a3,a4,a5,a6,a7,b0,b1,b2,b3,b4,b5,b6,b7].map Qad).length=Nat.min 16 rl*1):=LH (by rw [show Nat.min 16 rl=16 from Nat.min_eq_left hrl16];rfl);have HFit:Hid (sl+([a0,a1,a2,a3,a4,a5,a6,a7,b0,b1,b2,b3,b4,b5,b6,b7].map Qad).length≤(ws.map Qad).length):=LH (by rw [List.length_map,List.length_map,HW.out.1];simp;omega);refine Qal ?_;go_wp2_with (refine Qfa rfl rfl (Tryz.underlying31) (size:=1) (by kernel_rfl) rfl rfl (HMd.out.at 1 rfl) ([a0,a1,a2,a3,a4,a5,a6,a7,b0,b1,b2,b3,b4,b5,b6,b7].map Qad) HLen.out HSrc.out HFit.out (Qd9 _) ?_;intro w8 h8 ht8;have H8:=LH h8;have HT8:=LH ht8;clear h8 ht8)
       have HM9:Hid (Mem w w8 [⟨q,28,I.cs.toList,true⟩,⟨g,40,(splice ws sl [a0,a1,a2,a3,a4,a5,a6,a7,b0,b1,b2,b3,b4,b5,b6,b7]).map Qad,false⟩]):=LH (by
        have:=HMd.out.upd 1 (y:=⟨g,40,(splice ws sl [a0,a1,a2,a3,a4,a5,a6,a7,b0,b1,b2,b3,b4,b5,b6,b7]).map Qad,false⟩) rfl rfl HT8.out (by
         rw [← Qfj];exact Qmk.of H8.out)
        exact Mem.drop2 this)
       have HW9:=LH (HW.out.put (o:=sl) (cs:=[a0,a1,a2,a3,a4,a5,a6,a7,b0,b1,b2,b3,b4,b5,b6,b7]) (by simp;omega) HX.out);exact ⟨⟨s+1,_,by omega,Qb2 (by omega),HW9,HM9⟩,by simp [intOf];omega⟩
    have hin':(i:Int)<(nt:Int):=by omega
    have c1:=(HC.out HMr.out).2.1;obtain ⟨b1,o1,hae,_,hok,hcell⟩:=(HI.out.below HMr.out.below).thing (j:=i) (by rw [← F2.out];exact hin);rw [← F4.out] at hae;subst hae;obtain ⟨u,hu⟩:∃u,u=I.T.getD i default:=⟨_,rfl⟩
    have HTo:Hid (u.tgt.length≤63):=LH (HS.out.tgt u (by rw [hu,GD,GE (by rw [HI.out.tl,← F2.out];exact hin)];exact List.getElem_mem _));rw [← hu] at hok hcell;have HOk:=LH hok;have HTh:Hid (Qaq w u.ta (u.tgt.map (Value.int .i64))):=LH (by
     obtain ⟨_,_,_,_,hok0,_⟩:=HI.out.thing (j:=i) (by rw [← F2.out];exact hin);rw [← hu] at hok0
     exact hok0.tgt)
    clear hu hok;obtain ⟨po,p,d,ua1,uc1,ul⟩:=u;have d0:wr.cell? ⟨b1,o1+i*4,none⟩=some (.int .u16 (po:Int)):=hcell 0 _ rfl;have d1:wr.cell? ⟨b1,o1+i*4+1,none⟩=some (.int .u16 (p:Int)):=hcell 1 _ rfl;have d2:wr.cell? ⟨b1,o1+i*4+2,none⟩=some (.int .u16 (d:Int)):=hcell 2 _ rfl;have d3:wr.cell? ⟨b1,o1+i*4+3,none⟩=some (.slice ua1 ul.length uc1):=hcell 3 _ rfl;have hpo:po<65536:=HOk.out.pos;have hpp:p<65536:=HOk.out.p;have hpd:d<65536:=HOk.out.d;obtain ⟨m,hm⟩:∃m,m=ul.length:=⟨_,rfl⟩
    have hm63:m≤63:=by rw [hm];exact HTo.out
    rw [← hm] at d3;have HMe:=LH hm;have HTk0:Hid (Qaq w ua1 (ul.map (Value.int .i64))):=HTh;clear hcell hm HTo hin HTh;have HMa:=LH (HMr.out.alloc #[.int .u16 (po:Int),.int .u16 (p:Int),.int .u16 (d:Int),.slice ua1 m uc1] 100);go_upto_region 13 with fail;obtain ⟨qa,hqa⟩:∃q,q=wr.heap.size:=⟨_,rfl⟩
    rw [← hqa] at HMa ⊢;generalize wr.alloc _=w5 at *;have HM5:Hid (Mem w w5 [⟨q,28,I.cs.toList,true⟩,⟨g,40,ws.map Qad,false⟩,⟨qa,100,[.int .u16 (po:Int),.int .u16 (p:Int),.int .u16 (d:Int),.slice ua1 m uc1],true⟩]):=LH HMa.out;have e0:=HM5.out.cell 2 0 rfl rfl;have e1:=HM5.out.cell 2 1 rfl rfl;have e2:=HM5.out.cell 2 2 rfl rfl;clear hqa HMa d0 d1 d2 d3 c1 HOk HMr;have HMb:=LH (HM5.out.alloc #[.int .i64 (p:Int),.int .i64 (d:Int)] 109);go_upto_region 15 with fail;obtain ⟨qb,hqb⟩:∃q,q=w5.heap.size:=⟨_,rfl⟩
    rw [← hqb] at HMb ⊢;generalize w5.alloc _=w6 at *;have HM6:Hid (Mem w w6 [⟨q,28,I.cs.toList,true⟩,⟨g,40,ws.map Qad,false⟩,⟨qa,100,[.int .u16 (po:Int),.int .u16 (p:Int),.int .u16 (d:Int),.slice ua1 m uc1],true⟩,⟨qb,109,[.int .i64 (p:Int),.int .i64 (d:Int)],true⟩]):=LH HMb.out;clear hqb HMb e0 e1 e2 HM5
    by_cases hb1:po<512
    ·have hb1':(po:Int)<512:=by omega
     have HF:=LH (HM6.out.drop2);clear hb1;go_wp2_with fail;exact ⟨⟨i+1,ws,by omega,Qb2 (by omega),HW,HF⟩,by simp [intOf];omega⟩
    have hb1':decide ((po:Int)<512)=false:=by simp;omega
    by_cases hb2:N≤po
    ·have hb2':(N:Int)≤(po:Int):=by omega
     have HF:=LH (HM6.out.drop2);clear hb1 hb2;go_wp2_with fail;exact ⟨⟨i+1,ws,by omega,Qb2 (by omega),HW,HF⟩,by simp [intOf];omega⟩
    have hb2':decide ((N:Int)≤(po:Int))=false:=by simp;omega
    have b0:=HM6.out.cell 3 0 rfl rfl;have b1':=HM6.out.cell 3 1 rfl rfl;have HSz:=LH (fun w=>Qim (p:Int) (d:Int) w);have hob:vob (p:Int) (d:Int)=.agg #[.int .i64 (p:Int),.int .i64 (d:Int)]:=rfl;rw [hob] at HSz;have HZi:Hid (Qap (p:Int) (d:Int)≠0→(Qap (p:Int) (d:Int):Int)=1+p+d):=LH (fun h=>Qyg h);have hsz:=Qll (p:Int) (d:Int);generalize Qap (p:Int) (d:Int)=sz at *;clear hob;go_wp2_with fail;refine (HSz.out w6).mono ?_;rintro e w7 ⟨rfl,hb7⟩;have HM7:=LH (HM6.out.later hb7);clear hb7 b0 b1' HM6
    by_cases hz0:sz=0
    ·subst hz0;have HF:=LH (HM7.out.drop2);clear hb1 hb2;go_wp2_with fail;exact ⟨⟨i+1,ws,by omega,Qb2 (by omega),HW,HF⟩,by simp [intOf];omega⟩
    have hz0':((sz:Int) == 0)=false:=by simp;omega
    have b0:=HM7.out.cell 3 0 rfl rfl;have b1':=HM7.out.cell 3 1 rfl rfl;go_wp2_with fail;refine (HSz.out w7).mono ?_;rintro e w8 ⟨rfl,hb8⟩;have HM8:=LH (HM7.out.later hb8);clear hb8 b0 b1' HM7 HSz;have hsum:(1:Int)+p+d=(sz:Int):=(HZi.out hz0).symm;clear HZi;obtain ⟨rm,hrm⟩:∃rm,rm=N-po:=⟨_,rfl⟩
    have hrI:(N:Int)-(po:Int)=(rm:Int):=by omega
    by_cases hz1:rm<sz
    ·have hz1':(rm:Int)<(sz:Int):=by omega
     have HF:=LH (HM8.out.drop2);clear hb1 hb2 hrm hsum;go_wp2_with fail;exact ⟨⟨i+1,ws,by omega,Qb2 (by omega),HW,HF⟩,by simp [intOf];omega⟩
    have hz1':decide ((rm:Int)<(sz:Int))=false:=by simp;omega
    have HGeo:Hid (po+1+p+d≤N∧po<N):=LH (by omega);clear hb1 hb2 hrm hsum hz0;have HEn:=LH (fun w=>Qic (p:Int) (d:Int) (po:Int) w);rw [show vob (p:Int) (d:Int)=.agg #[.int .i64 (p:Int),.int .i64 (d:Int)] from rfl] at HEn;have HX:=LH (Qwq (po:Int) (p:Int) (d:Int));generalize Qfc (po:Int) (p:Int) (d:Int)=x at *;have hpN':(po:Int)<(N:Int):=by have:=HGeo.out.2;omega
    have b0:=HM8.out.cell 3 0 rfl rfl;have b1':=HM8.out.cell 3 1 rfl rfl;go_wp2_with fail;refine (HEn.out w8).mono ?_;rintro e w9 ⟨rfl,hb9⟩;have HM9:=LH (HM8.out.later hb9);have HZl:Hid (po<ws.length):=LH (by rw [HW.out.1];exact HGeo.out.2);obtain ⟨u,hu⟩:∃u,(ws.map Qad)[po]?=some u:=⟨_,GE (by rw [List.length_map];exact HZl.out)⟩
    have e0:w9.cell? ⟨g,po,none⟩=some u:=HM9.out.cell 1 po rfl hu;have e1:w9.frozen? ⟨g,po,none⟩=false:=HM9.out.frozen 1 po rfl;have HM10:=LH (HM9.out.word HZl.out x);have HW10:=LH (HW.out.set po HX.out);clear hb9 hu b0 b1' HM8 HEn HX hz1;go_wp2_with fail
    go_loopw [11] (fun kv wr=>∃(k:Nat) (ws:List Nat),k≤m∧kv=.int .i64 (k:Int)∧Hid (Quc N ws)∧Hid (Mem w wr [⟨q,28,I.cs.toList,true⟩,⟨g,40,ws.map Qad,false⟩,⟨qa,100,[.int .u16 (po:Int),.int .u16 (p:Int),.int .u16 (d:Int),.slice ua1 m uc1],true⟩,⟨qb,109,[.int .i64 (p:Int),.int .i64 (d:Int)],true⟩])) (fun kv _=>m-(intOf kv).toNat)
    case atStart=>exact ⟨0,_,Nat.zero_le _,rfl,HW10,HM10⟩
    case round =>
     clear HM10 HW10 e0 e1 HM9 HW HZl;obtain ⟨k,ws,hk,rfl,HW,HMr⟩:=hrel;have b0:=HMr.out.cell 3 0 rfl rfl;have c3:=HMr.out.cell 2 3 rfl rfl
     by_cases hkp:k<p
     case neg =>
      have hkp':decide ((k:Int)<(p:Int))=false:=by simp;omega
      have HF:=LH (HMr.out.drop2);go_wp2_with fail;exact ⟨⟨i+1,ws,by omega,Qb2 (by omega),HW,HF⟩,by simp [intOf];omega⟩
     have hkp':(k:Int)<(p:Int):=by omega
     by_cases hkm:k<m
     case neg =>
      have hkm':decide ((k:Int)<(m:Int))=false:=by simp;omega
      have HF:=LH (HMr.out.drop2);go_wp2_with fail;exact ⟨⟨i+1,ws,by omega,Qb2 (by omega),HW,HF⟩,by simp [intOf];omega⟩
     have hkm':(k:Int)<(m:Int):=by omega
     have hkl:k<ul.length:=by rw [← HMe.out];exact hkm
     obtain ⟨y,hy⟩:∃y,(ul.map (Value.int .i64))[k]?=some (Value.int .i64 y):=⟨ul[k],by rw [List.getElem?_map,GE hkl];rfl⟩
     obtain ⟨b2,o2,hae2,_,hct⟩:=(HTk0.out.below HMr.out.below NR).at (by rw [List.length_map];omega);subst hae2;have y0:=hct k _ hy;have r3:=fun x=>Qab c3 x
     have ry:=fun x=>Qab y0 x
     have hld:∀w',(∃x:Qbi wr,w'=x.val)→∀(i:Nat) (v:Value),I.cs.toList[i]?=some v→w'.cell? ⟨q,0+i,none⟩=some v:=by
      rintro w' ⟨x,rfl⟩ i v hi;rw [Nat.zero_add];exact Qab (HMr.out.cell 0 i rfl hi) x
     obtain ⟨po1,hpo1⟩:∃k,k=po+1:=⟨_,rfl⟩
     have hpo1I:(po:Int)+1=(po1:Int):=by omega
     obtain ⟨z,hz⟩:∃z,z=po1+k:=⟨_,rfl⟩
     have hzI:(po1:Int)+(k:Int)=(z:Int):=by omega
     have hzN:z<N:=by have:=HGeo.out.1;omega
     have hzN':(z:Int)<(N:Int):=by omega
     have HZl:Hid (z<ws.length):=LH (by rw [HW.out.1];exact hzN);have hzb:z≤4096:=by omega
     have hpo1b:po1≤4096:=by omega
     clear hz hpo1 hct hy hkl hkp hzN;go_upto_region 20 with fail;refine Qai (C:=fun w'=>∃x:Qbi (wr),w'=x.val) [.fl [0,1,2,3,4,5,6,7,8,9,10],.sq [11] true,.fl [12],.sq [13,14] false] (by kernel_rfl) (by kernel_rfl) (by intro c a d v w h;cases d <;> exact h) ?_;simp only [Qdj,Qa3,List.getElem?_cons_succ,List.getElem?_cons_zero]
     have hC1:=Qaj (wr);refine Qak hC1 ?_
     repeat (first | (refine Qbf Jdw I.cs hld rfl rfl rfl rfl ?_) | go_big_quiet_step (fail) | quiet_step (fail))
     refine wpQuiet_nil ?_;have hbd:=Qae hC1;have HMd:=LH (HMr.out.later hbd);generalize wr.drew=wd at *;clear hbd r3 ry hld c3 b0 y0 HMr;refine Qah (fun K hK=>?_);go_wp2_with fail;refine (Qpj (HI.out.below HMd.out.below) y).mono ?_;rintro e w11 ⟨hb11,n,hn,rfl⟩;have hC2:=Qan hC1 hb11;have HM11:=LH (HMd.out.later hb11);clear hb11;go_wp2_with fail;refine hK _ _ (fun _=>hC2) ?_;clear hK K;have hcv:IntKind.u64.wrap (n:Int)=(n:Int):=IntWalk.u64_in _ (by omega);refine Qak hC2 ?_
     repeat (first|go_big_quiet_step (fail)|quiet_step (fail))
     refine wpQuiet_nil ?_;obtain ⟨u,hu⟩:∃u,(ws.map Qad)[z]?=some u:=⟨_,GE (by rw [List.length_map];exact HZl.out)⟩
     have e0:w11.cell? ⟨g,z,none⟩=some u:=HM11.out.cell 1 z rfl hu;have e1:w11.frozen? ⟨g,z,none⟩=false:=HM11.out.frozen 1 z rfl;have HM12:=LH (HM11.out.word HZl.out n);have HW12:=LH (HW.out.set z (x:=n) (by omega));clear hu hC1 hC2 HMd;refine Qal ?_;go_wp2_with fail;exact ⟨⟨k+1,ws.set z n,by omega,Qb2 (by omega),HW12,HM12⟩,by simp [intOf];omega⟩
theorem Dev.store_lasting (S:Dev) (i:Int) (x:Nat):(S.store i x).lasting=S.lasting:=by
 unfold Dev.store
 split
 ·rfl
 ·split
  ·exact S.step_rest.1
  ·exact S.step_rest.1
theorem Qgm:∀(l:List (Nat × Nat)) (S:Dev),(S.stores l).dev.lasting=S.lasting
 | [],_=>rfl
 | (i,x) :: l,S=>by
  rw [Qb9]
  split
  ·exact S.store_lasting _ _
  ·rw [Qgm l];exact S.store_lasting _ _
theorem Dev.flush_lasting (S:Dev) (j:Int):(S.flush j).lasting=S.lasting:=by
 unfold Dev.flush
 split
 ·rfl
 ·split
  ·exact S.step_rest.1
  ·unfold Dev.hold
   split
   ·exact S.step_rest.1
   ·exact S.step_rest.1
theorem Qee (S:Dev) (a:Nat):∀m,(S.flushRun a m).dev.lasting=S.lasting
 | 0=>rfl
 | m+1=>by
  unfold Dev.flushRun
  split
  ·exact Qee S a m
  ·exact (Dev.flush_lasting _ _).trans (Qee S a m)
theorem Qjz {S:Dev} (h:S.fenceE≠0):S.fence.lasting=S.lasting:=by
 unfold Dev.fenceE at h
 by_cases c:S.stop=true
 ·unfold Dev.fence;rw [if_pos c];exact S.step_rest.1
 ·rw [if_neg c] at h;exact absurd rfl h
theorem Qnz {S:Dev} {p n:Int} (h:(S.persist p n).err≠0):(S.persist p n).dev.lasting=S.lasting:=by
 unfold Dev.persist at h ⊢
 by_cases c1:p<0∨n<0∨(S.cache.length:Int)<p∨(S.cache.length:Int)-p<n
 ·rw [if_pos c1]
 rw [if_neg c1] at h ⊢
 by_cases c2:0<n
 ·rw [if_pos c2] at h ⊢;unfold Dev.persistN at h ⊢
  by_cases c3:(S.flushRun (p/8).toNat ((p+n-1)/8-p/8+1).toNat).err≠0
  ·rw [if_pos c3];exact Qee _ _ _
  ·rw [if_neg c3] at h ⊢;exact (Qjz h).trans (Qee _ _ _)
 ·rw [if_neg c2] at h ⊢;exact Qjz h
theorem Dev.store_dirty {S:Dev} (i x:Nat) {k:Nat} (h:(S.store (i:Int) x).dirty.getD k false=true):S.dirty.getD k false=true∨i/8=k:=by
 unfold Dev.store at h
 split at h
 ·exact .inl h
 ·split at h
  ·rw [S.step_rest.2.2.2.1] at h;exact .inl h
  ·simp only [Dev.put,S.step_rest.2.2.2.1,Int.toNat_natCast] at h
   by_cases c:i/8=k
   ·exact .inr c
   ·rw [GD,List.getElem?_set_ne c,← GD] at h;exact .inl h
theorem Ql0:∀(l:List (Nat × Nat)) (S:Dev) {k:Nat} (_:(S.stores l).dev.dirty.getD k false=true),S.dirty.getD k false=true∨∃q∈l,q.1/8=k
 | [],S,k,h=>.inl h
 | (i,x) :: l,S,k,h=>by
  rw [Qb9] at h
  by_cases c:S.storeE (i:Int)≠0
  ·rw [if_pos c] at h;rcases Dev.store_dirty i x h with h | h
   ·exact .inl h
   ·exact .inr ⟨(i,x),List.mem_cons_self,h⟩
  ·rw [if_neg c] at h;rcases Ql0 l _ h with h | ⟨q,hq,e⟩
   ·rcases Dev.store_dirty i x h with h | h
    ·exact .inl h
    ·exact .inr ⟨(i,x),List.mem_cons_self,h⟩
   ·exact .inr ⟨q,List.mem_cons_of_mem _ hq,e⟩
def Clr (S:Dev):Prop:=S.inv∧∀l,S.dirty.getD l false=false
theorem Clr.same {S:Dev} (h:Clr S):S.lasting=S.cache:=by
 apply List.ext_getElem h.1.wf.lenL
 intro i h1 h2;have:=h.1.sound i (h.2 _);rw [GD,GE h1,GD,GE h2] at this;exact this
def Dev.lay (S:Dev) (l:List (Nat × Nat)) (p n:Nat):Qdi:=(S.stores l).bind (fun S=>S.persist (p:Int) (n:Int))
theorem Qob {S:Dev} (h:Clr S) {l:List (Nat × Nat)} (hl:∀p∈l,p.2<18446744073709551616) {p n:Nat} (hn:0<n) (hk:∀q∈l,p≤q.1∧q.1<p+n) :
  ((S.lay l p n).err=0→Clr (S.lay l p n).dev∧(S.lay l p n).dev.cache=l.foldl (fun c p=>c.set p.1 p.2) S.cache)∧((S.lay l p n).err≠0→(S.lay l p n).dev.lasting=S.lasting):=by
 unfold Dev.lay Qdi.bind
 by_cases hs:(S.stores l).err≠0
 ·rw [if_pos hs];exact ⟨fun e=>absurd e hs,fun _=>Qgm l S⟩
 ·rw [if_neg hs];have hs0:(S.stores l).err=0:=by simpa using hs
  have hinv:=Qfh h.1 l hl;have hsl:=Qgm l S;have hsc:=Qie l S hs0;have hsd:∀k,(S.stores l).dev.dirty.getD k false=true→∃q∈l,q.1/8=k:=fun k hk=>by
   rcases Ql0 l S hk with c | c
   ·rw [h.2] at c;cases c
   ·exact c
  generalize (S.stores l).dev=T at *;refine ⟨fun e=>?_,fun e=>(Qnz e).trans hsl⟩;obtain ⟨p1,p2,p3,p4,p5⟩:=Dev.persist_clean hinv p n hn e;refine ⟨⟨Dev.persist_inv hinv _ _,fun k=>?_⟩,p1.trans hsc⟩
  cases c:T.dirty.getD k false
  ·exact p5 k c
  ·obtain ⟨q,hq,rfl⟩:=hsd k c;exact p4 q.1 (hk q hq).1 (hk q hq).2
theorem Dev.live.stores {S:Dev} (h:S.live):∀(l:List (Nat × Nat)) (_:∀q∈l,q.1<S.cache.length),(S.stores l).err=0∧(S.stores l).dev.live∧(S.stores l).dev.cache.length=S.cache.length∧(S.stores l).dev.dirty.length=S.dirty.length:=by
 intro l
 induction l generalizing S with
 | nil=>intro _;exact ⟨rfl,h,rfl,rfl⟩
 | cons p l ih =>
  intro hk;obtain ⟨i,x⟩:=p;have hs:=h.store_ok i x (hk _ List.mem_cons_self);have hcl:(S.store (i:Int) x).cache.length=S.cache.length:=by rw [hs.2,List.length_set]
  have hdl:(S.store (i:Int) x).dirty.length=S.dirty.length:=by
   unfold Dev.store
   split
   ·rfl
   ·split
    ·rw [S.step_rest.2.2.2.1]
    ·simp [Dev.put,S.step_rest.2.2.2.1]
  have h1:=ih (h.store (i:Int) x) (fun q hq=>by rw [hcl];exact hk q (List.mem_cons_of_mem _ hq));rw [Qb9,if_neg (by rw [hs.1];simp)];exact ⟨h1.1,h1.2.1,h1.2.2.1.trans hcl,h1.2.2.2.trans hdl⟩
theorem Qqw {S:Dev} (h:S.live) (hd:S.cache.length=8*S.dirty.length) {l:List (Nat × Nat)} {p n:Nat} (hk:∀q∈l,q.1<S.cache.length) (hn:0<n) (hp:p+n≤S.cache.length):(S.lay l p n).err=0∧(S.lay l p n).dev.live:=by
 obtain ⟨h1,h2,h3,h4⟩:=h.stores l hk;unfold Dev.lay Qdi.bind;rw [if_neg (by rw [h1];simp)];exact ⟨(h2.persist p n hn (by rw [h3,h4];exact hd) (by rw [h3];exact hp)).1,h2.persist_live p n hn (by rw [h3,h4];exact hd) (by rw [h3];exact hp)⟩
theorem Qhq {a:Nat} {g:Nat→Nat} {k n j:Nat} : j∈(upL a g k n).map Prod.fst↔a+k≤j∧j<a+n:=by
 unfold upL;simp only [List.map_map,List.mem_map,List.mem_range',Function.comp]
 constructor
 ·rintro ⟨b,⟨i,hi,rfl⟩,rfl⟩;omega
 ·rintro ⟨h1,h2⟩;exact ⟨j-a,⟨j-a-k,by omega,by omega⟩,by omega⟩
theorem Qh2 {g:Nat→Nat} {j:Nat} : j∈(Qh3 64 g).map Prod.fst↔64≤j∧j<80:=by
 rw [show (Qh3 64 g).map Prod.fst=[65,66,67,68,69,70,71,73,74,75,76,77,78,79,64,72] from rfl];simp only [List.mem_cons,List.not_mem_nil,or_false]
 omega
theorem Qh6 {l:List (Nat × Nat)} {q:Nat × Nat} (h:q∈l):q.1∈l.map Prod.fst:=List.mem_map_of_mem h
theorem Qzo {a:Nat} {g:Nat→Nat} {k n:Nat} : ∀p∈upL a g k n,p.2=g (p.1-a):=fun p hp=>by
 obtain ⟨j,_,rfl⟩:=List.mem_map.1 hp;simp
theorem Jbz {a:Nat} {g:Nat→Nat} : ∀p∈Qh3 a g,p.2=g (p.1-a):=fun p hp=>by
 rcases List.mem_append.1 hp with hp | hp
 ·obtain ⟨j,_,rfl⟩:=List.mem_map.1 hp;simp
 ·simp only [List.mem_cons,List.not_mem_nil,or_false] at hp
  rcases hp with rfl | rfl
  ·simp
  ·simp
def Qrp (n id j:Nat):Nat:=if j<8 then (Qgn n id).getD j 0 else if 64≤j∧j<80 then (Qdl 1 [0,0,0,0,0,0,0,0]).getD (j-64) 0 else if 257≤j∧j<256+n then Qeq ((j-256:Nat):Int) 0 0 0 else 0
theorem Dev.format_is {S:Dev} {n id:Nat} (hn:2≤n) (hn2:n≤256) (hlen:S.cache.length=512*n) (hd:S.cache.length=8*S.dirty.length):S.format id =
  (S.lay (upL 256 (fun b=>Qeq (b:Int) 0 0 0) 1 n) 257 (n-1)).bind (fun T=>(T.lay (Qh3 64 (fun k=>(Qdl 1 [0,0,0,0,0,0,0,0]).getD k 0)) 64 16).bind (fun U=>U.writeSuper n id)):=by
 unfold Dev.format;rw [show S.cache.length/512=n by omega,if_pos ⟨hn,hn2,by omega⟩];unfold Dev.fmtG Dev.lay;rw [show ((257:Nat):Int)=257 from rfl,show ((n-1:Nat):Int)=(n:Int)-1 by omega]
 rfl
theorem Qki {S:Dev} {n id:Nat} (hn:2≤n) (hn2:n≤256) (hlen:S.cache.length=512*n):S.writeSuper n id=S.lay (upL 0 (fun k=>(Qgn n id).getD k 0) 0 8) 0 8:=by
 unfold Dev.writeSuper;rw [if_pos ⟨hn,hn2,by omega⟩]
 rfl
theorem Qwc (k:Nat):(Qdl 1 [0,0,0,0,0,0,0,0]).getD k 0<18446744073709551616:=Qkj (by decide) k
theorem Quz {S:Dev} (h:Clr S) {n id:Nat} (hn:2≤n) (hn2:n≤256) (hid:id<18446744073709551616) (hz:S.cache=List.replicate (512*n) 0) :
  ((S.format id).err=0→Clr (S.format id).dev∧(S.format id).dev.cache.length=512*n∧∀j,(S.format id).dev.cache.getD j 0=Qrp n id j)∧
  ((S.format id).err≠0→(S.format id).dev.lasting.length=512*n∧∀j,j<8→(S.format id).dev.lasting.getD j 0=0):=by
 have hlen:S.cache.length=512*n:=by rw [hz,List.length_replicate]
 have hz0:∀j,S.cache.getD j 0=0:=fun j=>by
  rw [hz,GD,List.getElem?_replicate]
  split <;> rfl
 rw [Dev.format_is hn hn2 hlen h.1.wf.lenD];have a:=Qob h (l:=upL 256 (fun b=>Qeq (b:Int) 0 0 0) 1 n) (Qm6 _ _ _ _ (fun j=>Qfx _ _ _ _)) (p:=257) (n:=n-1) (by omega) (fun q hq=>by have:=Qhq.1 (Qh6 hq);omega);have hS:S.lasting=S.cache:=h.same;unfold Qdi.bind;generalize hD1:S.lay (upL 256 (fun b=>Qeq (b:Int) 0 0 0) 1 n) 257 (n-1)=D1 at *
 by_cases c1:D1.err≠0
 ·rw [if_pos c1];refine ⟨fun e=>absurd e c1,fun _=>?_⟩;rw [a.2 c1,hS];exact ⟨hlen,fun j _=>hz0 j⟩
 rw [if_neg c1]
 try dsimp only
 obtain ⟨h1,e1⟩:=a.1 (by simpa using c1);have l1:D1.dev.cache.length=512*n:=by rw [e1,Qdx,hlen]
 have v1:∀j,j<512*n→D1.dev.cache.getD j 0=if 257≤j∧j<256+n then Qeq ((j-256:Nat):Int) 0 0 0 else 0:=fun j hj=>by
  rw [e1,Qf7 (fun j=>Qeq ((j-256:Nat):Int) 0 0 0) _ Qzo j _ (by omega),hz0]
  by_cases c:257≤j∧j<256+n
  ·rw [if_pos c,if_pos (Qhq.2 (by omega))]
  ·rw [if_neg c,if_neg (fun hh=>c (by have:=Qhq.1 hh;omega))]
 clear hD1 a c1 e1;have b:=Qob h1 (l:=Qh3 64 (fun k=>(Qdl 1 [0,0,0,0,0,0,0,0]).getD k 0)) (Qms _ _ Qwc) (p:=64) (n:=16) (by omega) (fun q hq=>by have:=Qh2.1 (Qh6 hq);omega);have hS1:=h1.same;generalize hD2:D1.dev.lay (Qh3 64 (fun k=>(Qdl 1 [0,0,0,0,0,0,0,0]).getD k 0)) 64 16=D2 at *
 by_cases c2:D2.err≠0
 ·rw [if_pos c2];refine ⟨fun e=>absurd e c2,fun _=>?_⟩;rw [b.2 c2,hS1];exact ⟨l1,fun j hj=>by rw [v1 j (by omega),if_neg (by omega)]⟩
 rw [if_neg c2]
 try dsimp only
 obtain ⟨h2,e2⟩:=b.1 (by simpa using c2);have l2:D2.dev.cache.length=512*n:=by rw [e2,Qdx,l1]
 have v2:∀j,j<512*n→D2.dev.cache.getD j 0=if 64≤j∧j<80 then (Qdl 1 [0,0,0,0,0,0,0,0]).getD (j-64) 0 else if 257≤j∧j<256+n then Qeq ((j-256:Nat):Int) 0 0 0 else 0:=fun j hj=>by
  rw [e2,Qf7 (fun j=>(Qdl 1 [0,0,0,0,0,0,0,0]).getD (j-64) 0) _ Jbz j _ (by omega),v1 j hj]
  by_cases c:64≤j∧j<80
  ·rw [if_pos c,if_pos (Qh2.2 c)]
  ·rw [if_neg c,if_neg (fun hh=>c (Qh2.1 hh))]
 clear hD2 b c2 e2 v1;rw [Qki hn hn2 l2];have c:=Qob h2 (l:=upL 0 (fun k=>(Qgn n id).getD k 0) 0 8) (Qm6 _ _ _ _ (fun j=>Qni (by omega) hid j)) (p:=0) (n:=8) (by omega) (fun q hq=>by have:=Qhq.1 (Qh6 hq);omega);have hS2:=h2.same;generalize hD3:D2.dev.lay (upL 0 (fun k=>(Qgn n id).getD k 0) 0 8) 0 8=D3 at *;refine ⟨fun e=>?_,fun e=>?_⟩
 ·obtain ⟨h3,e3⟩:=c.1 e;have l3:D3.dev.cache.length=512*n:=by rw [e3,Qdx,l2]
  refine ⟨h3,l3,fun j=>?_⟩
  by_cases hj:j<512*n
  ·rw [e3,Qf7 (fun j=>(Qgn n id).getD (j-0) 0) _ Qzo j _ (by omega),v2 j hj];unfold Qrp
   by_cases c:j<8
   ·rw [if_pos c,if_pos (Qhq.2 (by omega))];rfl
   ·rw [if_neg c,if_neg (fun hh=>c (by have:=Qhq.1 hh;omega))]
  ·rw [Qf8 (by omega)];unfold Qrp;rw [if_neg (by omega),if_neg (by omega),if_neg (by omega)]
 ·rw [c.2 e,hS2];exact ⟨l2,fun j hj=>by rw [v2 j (by omega),if_neg (by omega),if_neg (by omega)]⟩
theorem Qvx {S:Dev} (h:Clr S) (hv:S.live) {n id:Nat} (hn:2≤n) (hn2:n≤256) (hid:id<18446744073709551616) (hlen:S.cache.length=512*n):(S.format id).err=0:=by
 rw [Dev.format_is hn hn2 hlen h.1.wf.lenD];have a:=Qob h (l:=upL 256 (fun b=>Qeq (b:Int) 0 0 0) 1 n) (Qm6 _ _ _ _ (fun j=>Qfx _ _ _ _)) (p:=257) (n:=n-1) (by omega) (fun q hq=>by have:=Qhq.1 (Qh6 hq);omega);have a':=Qqw hv h.1.wf.lenD (l:=upL 256 (fun b=>Qeq (b:Int) 0 0 0) 1 n) (p:=257) (n:=n-1) (fun q hq=>by have:=Qhq.1 (Qh6 hq);omega) (by omega) (by omega);unfold Qdi.bind;generalize S.lay (upL 256 (fun b=>Qeq (b:Int) 0 0 0) 1 n) 257 (n-1)=D1 at *;rw [if_neg (by rw [a'.1];simp)]
 try dsimp only
 obtain ⟨h1,e1⟩:=a.1 a'.1;have l1:D1.dev.cache.length=512*n:=by rw [e1,Qdx,hlen]
 have b:=Qob h1 (l:=Qh3 64 (fun k=>(Qdl 1 [0,0,0,0,0,0,0,0]).getD k 0)) (Qms _ _ Qwc) (p:=64) (n:=16) (by omega) (fun q hq=>by have:=Qh2.1 (Qh6 hq);omega);have b':=Qqw a'.2 h1.1.wf.lenD (l:=Qh3 64 (fun k=>(Qdl 1 [0,0,0,0,0,0,0,0]).getD k 0)) (p:=64) (n:=16) (fun q hq=>by have:=Qh2.1 (Qh6 hq);omega) (by omega) (by omega);generalize D1.dev.lay (Qh3 64 (fun k=>(Qdl 1 [0,0,0,0,0,0,0,0]).getD k 0)) 64 16=D2 at *;rw [if_neg (by rw [b'.1];simp)]
 try dsimp only
 obtain ⟨h2,e2⟩:=b.1 b'.1;have l2:D2.dev.cache.length=512*n:=by rw [e2,Qdx,l1]
 rw [Qki hn hn2 l2];exact (Qqw b'.2 h2.1.wf.lenD (l:=upL 0 (fun k=>(Qgn n id).getD k 0) 0 8) (p:=0) (n:=8) (fun q hq=>by have:=Qhq.1 (Qh6 hq);omega) (by omega) (by omega)).1
theorem Qla {T:Dev} {n id:Nat} (hT:∀j,T.cache.getD j 0=Qrp n id j) (a m:Nat):Qas T a m=(List.range m).map (fun k=>Qrp n id (a+k)):=by
 unfold Qas;exact List.map_congr_left (fun k _=>by rw [Qlm,hT])
theorem Jgc (n id:Nat):Qid (Qgn n id)=if 2≤n∧n≤256 then (n,id,0) else (0,0,26):=by
 unfold Qid;rw [if_neg (by simp [Qgn]),if_neg (by simp [Qgn,Qjv])]
 by_cases h:2≤n∧n≤256
 ·rw [if_pos h,if_pos ⟨h.1,h.2,rfl⟩];rfl
 ·rw [if_neg h,if_neg (fun hh=>h ⟨hh.1,hh.2.1⟩)]
theorem Qyi:Qff (Qdv (Qdl 1 [0,0,0,0,0,0,0,0])) (Qdv (List.replicate 16 0))=(1,[0,0,0,0,0,0,0,0],0,true):=by kernel_rfl
theorem Qvj {T:Dev} {n id:Nat} (hT:∀j,T.cache.getD j 0=Qrp n id j) (hn:2≤n) (hn2:n≤256) (hlen:T.cache.length=512*n):Qbo T=(n,id,0):=by
 unfold Qbo;have:Qas T 0 8=Qgn n id:=by rw [Qla hT];rfl
 have hs:Qid (Qgn n id)=(n,id,0):=by rw [Jgc,if_pos ⟨hn,hn2⟩]
 rw [this,hs,if_neg];rintro (h | h)
 ·exact h rfl
 ·exact h hlen.symm
theorem Qt5 {T:Dev} {n id:Nat} (hT:∀j,T.cache.getD j 0=Qrp n id j):Qa5 T=(1,[0,0,0,0,0,0,0,0],0,true):=by
 unfold Qa5;have h1:Qas T 64 16=Qdl 1 [0,0,0,0,0,0,0,0]:=by
  rw [Qla hT]
  apply List.ext_getElem (by rw [Qfu];simp)
  intro i h1 h2;have hi:i<16:=by simpa using h1
  rw [List.getElem_map,List.getElem_range];unfold Qrp;rw [if_neg (by omega),if_pos (by omega),Nat.add_sub_cancel_left,GD,GE h2]
  rfl
 have h2:Qas T 128 16=List.replicate 16 0:=by
  rw [Qla hT]
  apply List.ext_getElem (by simp)
  intro i h1 h2;have hi:i<16:=by simpa using h1
  rw [List.getElem_map,List.getElem_range,List.getElem_replicate];unfold Qrp;rw [if_neg (by omega),if_neg (by omega),if_neg (by omega)]
 rw [h1,h2];exact Qyi
theorem Qw5 {T:Dev} {n id:Nat} (hT:∀j,T.cache.getD j 0=Qrp n id j) {b:Nat} (h1:1≤b) (h2:b<n):Qaw T b=Qeq (b:Int) 0 0 0:=by
 rw [Qkv,hT];unfold Qrp;rw [if_neg (by omega),if_neg (by omega),if_pos (by omega),Nat.add_sub_cancel_left]
theorem Qrw {T:Dev} {n id:Nat} (hT:∀j,T.cache.getD j 0=Qrp n id j):hds (Qaw T) n=List.replicate n default:=by
 unfold hds
 apply List.ext_getElem (by simp)
 intro b h1 h2;have hb:b<n:=by simpa using h1
 rw [List.getElem_replicate,List.getElem_map,List.getElem_range];unfold hdF
 split
 ·rfl
 ·rw [Qw5 hT (by omega) hb,Qq3 _ _ _ _ Qgx];rfl
theorem Jfg {ok:Nat→Prop} {P:Nat→List Nat} {f:List Nat} (h0:¬ok 0) (hf:∀x∈f,x=0) {y:Nat} (h:Rch ok P f y):False:=by
 induction h with
 | base h hx=>exact h0 (hf _ h ▸ hx)
 | step _ _ _ ih=>exact ih
theorem Qn9 {T:Dev} {n id:Nat} (hT:∀j,T.cache.getD j 0=Qrp n id j):∀x∈Qe7 T,x=0:=by
 unfold Qe7;rw [Qt5 hT];intro x hx;simp at hx
 exact hx
theorem Jdo {T:Dev} {n id:Nat} (hT:∀j,T.cache.getD j 0=Qrp n id j) (hn:2≤n) (hn2:n≤256) (hlen:T.cache.length=512*n):Qbx T=0:=by
 have hs:=Qvj hT hn hn2 hlen;unfold Qbx;rw [hs,if_neg (by simp),if_neg,if_neg,if_neg]
 ·rw [Classical.not_not];rintro x hx (h | ⟨y,hy,_⟩)
  ·exact absurd (Qn9 hT x h) hx
  ·exact (Jfg (Qhm _ _) (Qn9 hT) hy).elim
 ·rw [Qt5 hT];simp
 ·rw [Classical.not_not];intro b h1 h2;rw [Qw5 hT h1 h2,Qq3 _ _ _ _ Qgx]
theorem Jen {T:Dev} {n id:Nat} (hT:∀j,T.cache.getD j 0=Qrp n id j) {ys:List Nat} (h:∀x,x∈ys↔Rch (okN T (Qay T)) (Qcn T) (Qe7 T) x):ys=[] :=
 List.eq_nil_iff_forall_not_mem.2 (fun x hx=>Jfg (Qhm _ _) (Qn9 hT) ((h x).1 hx))
theorem Qun {T:Dev} {n id:Nat} (hT:∀j,T.cache.getD j 0=Qrp n id j) (hn:2≤n) (hn2:n≤256) (hlen:T.cache.length=512*n):T.rewrite (Qay T) (Qa2 (Qay T) []) n=⟨T,0⟩:=by
 have hL:Qay T=List.replicate n default:=by unfold Qay;rw [Qvj hT hn hn2 hlen];exact Qrw hT
 unfold Dev.rewrite;rw [if_pos];unfold Qer;rw [List.filter_eq_nil_iff.2,List.map_nil];intro b _;rw [hL];unfold Qa2;simp
theorem Jcu {n:Nat} (h2:2≤n) (h5:n≤5):Qfe (Qhv (Qg4 (Qd1 (List.replicate n default)) n n))=n-1:=by
 have:n=2∨n=3∨n=4∨n=5:=by omega
 rcases this with rfl | rfl | rfl | rfl <;> decide
theorem Qyp {S:Dev} (h:S.inv) {N:Nat} (ho:S.ok N) (id:Nat) (hid:id<18446744073709551616):(S.format id).dev.ok (N+900000):=by
 unfold Dev.format
 split
 ·rename_i hc
  have h1:=Jbc h ho (S.cache.length/512) (by omega);have i1:=Qw7 h (S.cache.length/512);refine Qdi.bind_okN h1 (by omega) ?_;have h2:=Qls i1 h1 64 1 [0,0,0,0,0,0,0,0] (by omega);have i2:=Qqt i1 64 1 [0,0,0,0,0,0,0,0] (by omega);exact Qdi.bind_okN h2 (by omega) ((Qrf i2 h2 _ id hid).mono (by omega))
 ·exact ho.mono (by omega)
theorem Clr.arm {S:Dev} (h:Clr S) (n:Int):Clr (S.arm n):=⟨⟨⟨h.1.wf.lenL,h.1.wf.lenF,h.1.wf.lenP,h.1.wf.lenD,h.1.wf.small,h.1.wf.u64L,h.1.wf.u64C,h.1.wf.u64F⟩,h.1.sound,h.1.pend⟩,h.2⟩
theorem Qt7 {ws:List Nat} {m:Nat} (h8:ws.length=8*m) (hs:ws.length≤1000000) (hu:∀z∈ws,z<18446744073709551616):Clr (Qa8 ws m) :=
 ⟨Qrz h8 hs hu,fun l=>by unfold Qa8;simp only [GD,List.getElem?_replicate];split <;> rfl⟩
theorem Qlu.fmt {S:Dev} {F:Qb0} {w w':World} {e:Ending} (h:Qlu S F w e w') {n id:Nat} (hT:∀j,S.cache.getD j 0=Qrp n id j) (hn:2≤n) (hn2:n≤5) (hlen:S.cache.length=512*n) :
  Qam F.list w w'∧∃(A:AF) (nn g:Nat) (m:Al) (va:Option Addr) (vc:Nat),e=.returned (.tuple #[stV n id (Qeb A) (.pointer (some ⟨g,0,none⟩)) (.slice va 0 vc),.int .i64 0])∧Qfy w' A nn n m∧Qfe (Qhv m.bm.free)=n-1:=by
 obtain ⟨ht,⟨he,_⟩|⟨_,ys,_,hys,h⟩⟩:=h
 ·exact absurd (Jdo hT hn (by omega) hlen) he
 ·have:=Jen hT hys;subst this;have hs:=Qvj hT hn (by omega) hlen;have hr:=Qun hT hn (by omega) hlen;rw [hs] at h;dsimp only at h;rw [hr] at h;rcases h with ⟨h,_⟩|⟨_,A,nn,g,lv,rfl,_,_,hal,_,hlv,_⟩
  ·exact absurd rfl h
  ·obtain ⟨va,vc,rfl,_⟩:=hlv.cells;refine ⟨ht,A,nn,g,_,va,vc,rfl,hal,?_⟩;show Qfe (Qhv (Qg4 (Qd1 (hds (Qaw S) n)) n n))=n-1;rw [Qrw hT];exact Jcu hn hn2
theorem Jc5 (n:Nat):∀z∈List.replicate n 0,z<18446744073709551616:=fun z hz=>by rw [List.mem_replicate] at hz;omega
def Jgv (n:Nat):Dev:=Qa8 (List.replicate (512*n) 0) (64*n)
theorem Jdx {n:Nat} (h:n≤100):Clr (Jgv n):=Qt7 (by simp;omega) (by simp;omega) (Jc5 _)
theorem Jh1 (n id:Nat) (A:AF) (g:Nat) (va:Option Addr) (vc:Nat):stV n id (Qeb A) (.pointer (some ⟨g,0,none⟩)) (.slice va 0 vc)=.agg #[.int .i64 (n:Int),Qad id,.int .i64 (n:Int),Qeb A,.pointer (some ⟨g,0,none⟩),.slice va 0 vc]:=rfl
theorem Qu2 (w:World):Calls Tryz.prog 7 #[] w (Qjt (.bool true) w):=by
 have HP:Hid (∀w',Below w.heap.size w w'→Qjt (.bool true) w (.returned (.bool true)) w'):=LH (fun w' h=>⟨rfl,h⟩);generalize Qjt (.bool true) w=Post at *;go_enter Tryz.func7,Tryz.ntmps7;go_wp2_with fail;refine (Jgb 1024 _ (by omega)).mono ?_;rintro e w1 ⟨F,rfl,hF,hd,hb1⟩;have HD1:Hid (Qa7 w1 F (Jgv 2)):=LH hd;have HF:=LH hF;have HB1:=LH hb1;have HC1:=LH (Jdx (n:=2) (by omega));have HE:=LH (Quz HC1.out (n:=2) (id:=5) (by omega) (by omega) (by omega) rfl);have he0:((Jgv 2).format 5).err=0:=Qvx (n:=2) HC1.out (Qxs _ _) (by omega) (by omega) (by omega) rfl;have HOk:=LH (Qyp HC1.out.1 (Qqr _ _ 0:(Jgv 2).ok 0) 5 (by omega));have ho0:(Jgv 2).ok 0:=Qqr _ _ _;clear hd hF hb1;generalize Jgv 2=S at *;unfold Qei at *;go_wp2_with fail;refine (Qrx HD1.out HC1.out.1 (N:=0) (by omega) ho0 5 (by omega)).mono ?_;rintro e w2 ⟨rfl,hd2,ht2⟩;rw [he0];obtain ⟨hcl,hlen,hT⟩:=HE.out.1 he0;have HO:=LH (Qpe hd2 hcl.1 hcl.2 (N:=900000) (by omega) (by simpa using HOk.out) (by rw [hlen];omega));obtain ⟨n,hn⟩:∃n,n=2:=⟨_,rfl⟩
 obtain ⟨id,hid⟩:∃n,n=5:=⟨_,rfl⟩
 have HT:Hid (∀j,(S.format 5).dev.cache.getD j 0=Qrp n id j):=LH (by rw [hn,hid];exact hT);have HLn:Hid ((S.format 5).dev.cache.length=512*n):=LH (by rw [hn];exact hlen);have HId:=LH hid;have HNn:=LH hn;have hn2:2≤n:=by omega
 have hn5:n≤5:=by omega
 have HB2:Hid (Below w.heap.size w w2):=LH (HB1.out.trans (ht2.below HB1.out.size (fun k hk=>HF.out k hk)));clear hd2 ht2 hcl hlen hT hid hn;go_wp2_with fail;refine HO.out.mono ?_;intro e w3 h3;obtain ⟨ht3,A,nn,g,m,va,vc,rfl,hal,hsum⟩:=h3.fmt HT.out hn2 hn5 HLn.out;rw [Jh1];have HB3:Hid (Below w.heap.size w w3):=LH (HB2.out.trans (ht3.below HB2.out.size (fun k hk=>HF.out k hk)));have HM:=LH (Mem.one w3 #[.int .i64 (n:Int),Qad id,.int .i64 (n:Int),Qeb A,.pointer (some ⟨g,0,none⟩),.slice va 0 vc] 49);have hbl:=Qaf w3 (.cells #[.int .i64 (n:Int),Qad id,.int .i64 (n:Int),Qeb A,.pointer (some ⟨g,0,none⟩),.slice va 0 vc] 49);have HAl:=LH (hal.below hbl);have HS:Hid (Qfe (Qhv m.bm.free)=1):=LH (by rw [hsum,HNn.out]);have HB4:Hid (Below w.heap.size w (w3.alloc (.cells #[.int .i64 (n:Int),Qad id,.int .i64 (n:Int),Qeb A,.pointer (some ⟨g,0,none⟩),.slice va 0 vc] 49))):=LH (HB3.out.trans (hbl.mono HB3.out.size));clear ht3 hal hsum hbl h3 HB3 HO;go_upto_region 5 with fail;obtain ⟨q,hq⟩:∃q,q=w3.heap.size:=⟨_,rfl⟩
 rw [← hq] at HM ⊢;generalize w3.alloc _=w4 at *;clear hq;have c1:=HM.out.cell 0 1 rfl rfl;have c3:=HM.out.cell 0 3 rfl rfl;have c5:=HM.out.cell 0 5 rfl rfl;have a0:=HAl.out.c0;go_wp2_with fail;refine (Jb4 HAl.out.man (by omega)).mono ?_;rintro e w5 ⟨rfl,hb5⟩;rw [HS.out,show ((1:Nat):Int)=1 from rfl];have d1:=(HM.out.later hb5).cell 0 1 rfl rfl;have hid':((id:Int) == 5)=true:=by rw [HId.out];rfl
 have HFin:=LH (HP.out w5 (HB4.out.trans (hb5.mono HB4.out.size)));clear hb5 c1 c3 c5 a0;go_wp2_with fail;exact HFin.out
theorem Ja5 {x y:List Nat} (hx:x.Pairwise (· < ·)) (hy:y.Pairwise (· < ·)) (h:∀a,a∈x↔a∈y):x=y:=by
 have hp:x.Perm y:=(List.perm_ext_iff_of_nodup (hx.imp (fun h=>Nat.ne_of_lt h)) (hy.imp (fun h=>Nat.ne_of_lt h))).2 h;exact Qnh (hx.imp Nat.le_of_lt) (hy.imp Nat.le_of_lt) (fun a=>hp.count_eq a)
theorem Jby (ws:List Nat) (m:Nat) (hl:ws.length=8*m):Qhw (Qeh ws (8*m)) m=(Qa8 ws m).ref∧Qeh ws (8*m)=ws:=by
 have e:Qeh ws (8*m)=ws:=by unfold Qeh;rw [hl,Nat.sub_self];simp
 refine ⟨?_,e⟩;rw [e];unfold Qhw Dev.ref Qa8;rw [hl];rfl
theorem Qxi {ws:List Nat} {m:Nat} (h:(Qa8 ws m).wf):(Qa8 ws m).fit 0:=by
 have e:Jgp (Qa8 ws m)=Qa8 ws m:=by unfold Jgp Qa8;simp
 have:=Jdu h 0;rw [e] at this;exact this
theorem Jer {n id:Nat} {ls:Value} {D:Array Value} {ep:Nat} {rs:List Int} {i:Int} {lv:Value} (hD:D.size=8) (hD1:D.toList.all (·.oneCell')=true) (hr:rs.length=8) (hls:ls.oneCell'=true) (hlv:lv.oneCell'=true) :
  ∃E,stR n id ls D ep rs i lv=.agg E∧Jbl E n id ep rs ls lv:=by
 obtain ⟨r0,r1,r2,r3,r4,r5,r6,r7,rfl⟩:=Qcb hr;obtain ⟨D⟩:=D;have hD':D.length=8:=by simpa using hD
 obtain ⟨d0,d1,d2,d3,d4,d5,d6,d7,rfl⟩:=Jfd hD';refine ⟨_,rfl,rfl,?_,rfl,rfl,rfl,rfl,?_,rfl⟩
 ·simp at hD1
  have hi:∀(k:IntKind) (x:Int),(Value.int k x).oneCell'=true:=fun _ _=>rfl
  simp [hD1,hls,hlv,hi]
 ·intro j v hv
  match j,hv with
  | 0,hv=>exact hv
  | 1,hv=>exact hv
  | 2,hv=>exact hv
  | 3,hv=>exact hv
  | 4,hv=>exact hv
  | 5,hv=>exact hv
  | 6,hv=>exact hv
  | 7,hv=>exact hv
  | j+8,hv=>simp at hv
theorem Qvt {α:Type} (out s:List α) (b:Nat) (x:α) (h:b+s.length+1≤out.length):splice out b (s ++ [x])=splice (splice out b s) (b+s.length) [x]:=by
 have hl:(out.take b ++ s).length=b+s.length:=by rw [List.length_append,List.length_take];omega
 have h1:(out.take b ++ (s ++ out.drop (b+s.length))).take (b+s.length)=out.take b ++ s:=by
  rw [← List.append_assoc,List.take_left' hl]
 have h2:(out.take b ++ (s ++ out.drop (b+s.length))).drop (b+s.length+1)=out.drop (b+s.length+1):=by
  rw [← List.append_assoc,← List.drop_drop,List.drop_left' hl,List.drop_drop]
 unfold splice;rw [List.length_append,List.length_singleton,h1,h2];simp [Nat.add_assoc]
theorem Qx3 {L:List Hd} {b k:Nat} (h:b+k<L.length):(L.drop b).take (k+1)=(L.drop b).take k ++ [L.getD (b+k) default]:=by
 have hk:k<(L.drop b).length:=by rw [List.length_drop];omega
 rw [List.take_succ_eq_append_getElem hk,List.getElem_drop];simp [h]
def Qm5 (L:List Hd) (xs:List Nat) (w:World):Ending→World→Prop:=fun e w'=>∃g c,e=.returned (.slice (some ⟨g,0,none⟩) L.length c)∧w.heap.size≤g∧L.length≤c∧Qa6 w' g 105 (Qbt (Qa2 L xs))∧Below w.heap.size w w'
theorem Qzy {w:World} {B lg lc:Nat} {L:List Hd} (hlen:L.length=B) (hB1:1≤B) (hB:B≤1000) (hr:Qa6 w lg 105 (Qbt L))
  (va:Option Addr) (vl vc:Nat) (xs:List Nat) (hvl:xs.length=vl) (hv:Qaq w va (xs.map vi)) (hvs:vl≤1000000) (hxb:∀x∈xs,x≤4611686018427387904) :
  Calls Tryz.prog 76 #[.slice (some ⟨lg,0,none⟩) B lc,.slice va vl vc] w (Qm5 L xs w):=by
 have HP:Hid (∀g c w',w.heap.size≤g→B≤c→Qa6 w' g 105 (Qbt (Qa2 L xs))→Below w.heap.size w w'→Qm5 L xs w (.returned (.slice (some ⟨g,0,none⟩) B c)) w'):=LH (fun g c w' h1 h2 h3 h4=>⟨g,c,by rw [hlen],h1,by rw [hlen];exact h2,h3,h4⟩);generalize Qm5 L xs w=Post at *;have HLn:=LH hlen;have HL:=LH hr;have HV:=LH hv;have HVl:=LH hvl;have HXb:=LH hxb;have HRep:Hid (List.replicate (B*3) (Value.int .i64 0)=Qbt (Qa2 L [])):=LH (by
  show _=Qbt (List.replicate L.length default);rw [hlen];clear hlen HP HLn HL hr hB hB1
  induction B with
  | zero=>rfl
  | succ n ih=>rw [Nat.succ_mul,← List.replicate_append_replicate (n:=n*3),List.replicate_succ' (n:=n) (a:=(default:Hd)),Qcv,← ih];rfl)
 clear hlen hr hv hvl hxb;go_enter Tryz.func76,Tryz.ntmps76;go_wp2_with (at_make;refine Qec Jik w.heap.size B (z:=.int .i64 0) (by intro i hi;simp at hi;rcases i with _ | _ | _ | i <;> first | rfl | omega) (by omega) (by omega) (by omega) (by decide) NR rfl rfl rfl rfl ?_;intro w2 hown hgrow;have HOw:=LH hown;have HGr:=LH hgrow;clear hown hgrow)
 have HM2:Hid (Mem w w2 [⟨w.heap.size,105,Qbt (Qa2 L (xs.take 0)),false⟩]):=LH (by
  rw [List.take_zero,← HRep.out];obtain ⟨g',cap',cur,hv',_,hg',_,_,_,ht'⟩:=HOw.out.2.resolve_left (fun ⟨h,_⟩=>by cases h);injection hv' with e1 e2 e3
  injection e1 with e1
  injection e1 with e1 _ _
  subst e1;exact (Mem.start w).row (Qbq HGr.out NR) ⟨cur,hg',cur.toList.drop (B*3),by
   have:cur.toList.take (B*3)=List.replicate (B*3) (Value.int .i64 0):=ht'
   rw [← this,List.take_append_drop]⟩ NR)
 obtain ⟨g,hg⟩:∃g,g=w.heap.size:=⟨_,rfl⟩
 rw [← hg] at HM2 ⊢;clear hg HOw HGr
 go_loopw [6] (fun iv wr=>∃k:Nat,k≤vl∧iv=.int .i64 (k:Int)∧Hid (Mem w wr [⟨g,105,Qbt (Qa2 L (xs.take k)),false⟩])) (fun iv _=>vl-(intOf iv).toNat)
 case atStart=>exact ⟨0,by omega,rfl,HM2⟩
 case round =>
  obtain ⟨k,hk,rfl,HMr⟩:=hrel
  by_cases hlt:k<vl
  case neg =>
   have hltd:decide ((k:Int)<(vl:Int))=false:=by simp;omega
   have hke:k=vl:=by omega
   have HRow:Hid (Qa6 wr g 105 (Qbt (Qa2 L xs))):=LH (by
    have:=HMr.out.at 0 rfl;rw [hke,← HVl.out,List.take_length] at this
    exact this)
   have HGb:=LH (HMr.out.gbase 0 rfl);clear hke;go_wp2_with fail;exact HP.out _ _ _ HGb.out NR HRow.out HMr.out.below
  have hlt':(k:Int)<(vl:Int):=by omega
  obtain ⟨x,hx⟩:∃x,xs[k]?=some x:=⟨_,GE (by rw [HVl.out];exact hlt)⟩
  obtain ⟨b1,o1,q1,_,hcx⟩:=(HV.out.below HMr.out.below NR).at (i:=k) (by rw [List.length_map,HVl.out];exact hlt);have cx:wr.cell? ⟨b1,o1+k,none⟩=some (.int .i64 (x:Int)):=hcx k (vi x) (by rw [List.getElem?_map,hx];rfl);have HTk:Hid (Qa2 L (xs.take (k+1))=Qha L (Qa2 L (xs.take k)) x):=LH (by
   have h1:=(List.getElem?_eq_some_iff.1 hx).1
   rw [List.take_succ_eq_append_getElem h1,(List.getElem?_eq_some_iff.1 hx).2,Qpd])
  have hxx:=HXb.out x (List.mem_of_getElem? hx);subst q1;clear hcx hx;obtain ⟨b,hb⟩:∃b,b=x/512:=⟨_,rfl⟩
  have hbI:(x:Int)/512=(b:Int):=by omega
  have hb9:b≤9007199254740992:=by omega
  by_cases h1:x<512
  ·have HSame:Hid (Mem w wr [⟨g,105,Qbt (Qa2 L (xs.take (k+1))),false⟩]):=LH (by
    rw [HTk.out];unfold Qha;rw [if_pos (.inl h1)]
    exact HMr.out)
   have h1':(x:Int)<512:=by omega
   clear h1 hb;go_wp2_with fail;exact ⟨⟨k+1,by omega,Qb2 (by omega),HSame⟩,by simp [intOf];omega⟩
  have h1':¬(x:Int)<512:=by omega
  by_cases h2:B≤b
  ·have HSame:Hid (Mem w wr [⟨g,105,Qbt (Qa2 L (xs.take (k+1))),false⟩]):=LH (by
    rw [HTk.out];unfold Qha;rw [if_pos (.inr (by rw [HLn.out];omega))]
    exact HMr.out)
   have h2':(B:Int)≤(b:Int):=by omega
   clear h1 h2 hb;go_wp2_with fail;exact ⟨⟨k+1,by omega,Qb2 (by omega),HSame⟩,by simp [intOf];omega⟩
  have h2':¬(B:Int)≤(b:Int):=by omega
  have hb2:b<B:=by omega
  have HK1:Hid (Qha L (Qa2 L (xs.take k)) x=splice (Qa2 L (xs.take k)) b ((L.drop b).take (Qfq L b))):=LH (by unfold Qha;rw [if_neg (by rw [HLn.out];omega),← hb]);have hfit:=Qgu (L:=L) (b:=b) (by rw [HLn.out];exact hb2);rw [HLn.out] at hfit;have hkn:Qfq L b=max 1 (Qa4 L b):=rfl;obtain ⟨m,hm⟩:∃m,m=Qa4 L b:=⟨_,rfl⟩
  obtain ⟨n,hn⟩:∃n,n=Qfq L b:=⟨_,rfl⟩
  rw [← hm,← hn] at hkn;rw [← hn] at hfit HK1;have hmx:(if (1:Int)<(m:Int) then (m:Int) else 1)=(n:Int):=by omega
  have hmx2:(if (m:Int)<(1:Int) then (1:Int) else (m:Int))=(n:Int):=by omega
  have hn9:n≤1000:=by omega
  have HFt:=LH hfit;have HMe:=LH hm;clear h1 h2 hb hfit hkn hn hm;go_wp2_with fail;refine (Qlh (some ⟨lg,0,none⟩) B lc L HLn.out wr ((HL.out.below HMr.out.below).cells) hB b hb2).mono ?_;rintro e w4 ⟨rfl,hb4⟩;rw [← HMe.out];have HM4:Hid (Mem w w4 [⟨g,105,Qbt (splice (Qa2 L (xs.take k)) b ((L.drop b).take 0)),false⟩]):=LH (by
   have:splice (Qa2 L (xs.take k)) b ((L.drop b).take 0)=Qa2 L (xs.take k):=by
    unfold splice;simp
   rw [this];exact HMr.out.later hb4)
  clear hb4 cx;go_wp2_with fail
  go_loopw [9] (fun jv wr=>∃j:Nat,j≤n∧jv=.int .i64 (j:Int)∧Hid (Mem w wr [⟨g,105,Qbt (splice (Qa2 L (xs.take k)) b ((L.drop b).take j)),false⟩])) (fun jv _=>n-(intOf jv).toNat)
  case atStart=>exact ⟨0,by omega,rfl,HM4⟩
  case round =>
   clear HM4 HMr;obtain ⟨j,hj,rfl,HMj⟩:=hrel
   by_cases hlt3:j<n
   ·have hlt3':(j:Int)<(n:Int):=by omega
    have hbj:b+j<B:=by have:=HFt.out.2;omega
    have hsum:(b:Int)+(j:Int)=((b+j:Nat):Int):=by omega
    obtain ⟨e9,he9⟩:∃e,e=b+j:=⟨_,rfl⟩
    rw [← he9] at hsum hbj;obtain ⟨k1,c1,z1,he1⟩:=Qe5 L e9;obtain ⟨bw,ow,qw,x0,x1,x2⟩:=Qcq ((HL.out.below HMj.out.below).cells) (by rw [HLn.out];exact hbj) he1;injection qw with qw
    injection qw with qw1 qw2
    subst qw1 qw2;rw [Nat.zero_add] at x0 x1 x2;have HStp:Hid (Qbt (splice (Qa2 L (xs.take k)) b ((L.drop b).take (j+1)))=splice (Qbt (splice (Qa2 L (xs.take k)) b ((L.drop b).take j))) (e9*3) [.int .i64 k1,.int .i64 c1,.int .i64 z1]):=LH (by
     have hlj:((L.drop b).take j).length=j:=by rw [List.length_take,List.length_drop,HLn.out];omega
     rw [Qx3 (by rw [HLn.out];omega),Qvt _ _ _ _ (by rw [hlj,Qdf,HLn.out];omega),Qn2,hlj,← he9,he1]
     rfl)
    have HFit2:Hid (e9*3+3≤(Qbt (splice (Qa2 L (xs.take k)) b ((L.drop b).take j))).length):=LH (by
     rw [Qca,Qhg _ _ _ (by rw [List.length_take,List.length_drop,Qdf,HLn.out];omega),Qdf,HLn.out];omega)
    clear he9 he1;go_wp2_with (refine Qex Qyw (cs:=#[.int .i64 k1,.int .i64 c1,.int .i64 z1]) (off:=e9*3) (HMj.out.at 0 rfl) rfl HFit2.out (by simp [Value.oneCell']) rfl rfl rfl rfl ?_;intro w6 h6 ht6;have H6:=LH h6;have HT6:=LH ht6;clear h6 ht6)
    have HNew:Hid (Mem w w6 [⟨g,105,Qbt (splice (Qa2 L (xs.take k)) b ((L.drop b).take (j+1))),false⟩]):=LH (by
     have:=HMj.out.upd 0 (y:=⟨g,105,Qbt (splice (Qa2 L (xs.take k)) b ((L.drop b).take (j+1))),false⟩) rfl rfl HT6.out (by
      rw [HStp.out]
      exact Qmk.of H6.out)
     exact this)
    exact ⟨⟨j+1,by omega,Qb2 (by omega),HNew⟩,by simp [intOf];omega⟩
   ·have hltd3:decide ((j:Int)<(n:Int))=false:=by simp;omega
    have hje:j=n:=by omega
    have HNew:Hid (Mem w wr [⟨g,105,Qbt (Qa2 L (xs.take (k+1))),false⟩]):=LH (by
     rw [HTk.out,HK1.out,← hje];exact HMj.out)
    clear hje;go_wp2_with fail;exact ⟨⟨k+1,by omega,Qb2 (by omega),HNew⟩,by simp [intOf];omega⟩
end
end Go.Proofs.YtpohaahihdhleaaGreat
