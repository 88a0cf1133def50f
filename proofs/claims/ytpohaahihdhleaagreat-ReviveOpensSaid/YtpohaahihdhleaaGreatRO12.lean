/- Parts of the proof of one statement of the seat. -/
import Derived.Test.YtpohaahihdhleaaGreatRO11
set_option linter.unusedVariables false
set_option maxHeartbeats 16000000
set_option maxRecDepth 100000
namespace Go.Proofs.YtpohaahihdhleaaGreat
open Go.RowKit
def Qrn (f:Nat→Nat) (i:Nat):List Value:=(List.range 8).map (fun k=>.int .i64 (if k % 4<i then (f k:Int) else 0))
theorem Qcz (f:Nat→Nat) (i:Nat):(Qrn f i).length=8:=by simp [Qrn]
theorem Qmq (f:Nat→Nat) {i:Nat} (hi:i<4):((Qrn f i).set i (.int .i64 (f i:Int))).set (4+i) (.int .i64 (f (4+i):Int))=Qrn f (i+1):=by
 rcases (by omega:i=0∨i=1∨i=2∨i=3) with rfl | rfl | rfl | rfl <;> rfl
theorem Qkp (ws:List Nat) (hl:ws.length=16) (hu:∀z∈ws,z<18446744073709551616) (w:World) :
  Calls Tryz.prog 145 #[Qgb ws] w (SlD (Qdv ws) w):=by
 have HP:Hid (∀(n:Nat) (rs:List Int) (e:Int) w',(n,rs,e)=Qdv ws→Below w.heap.size w w'→SlD (Qdv ws) w (.returned (.tuple #[Qbg n rs,.int .i64 e])) w'):=LH (fun n id e w' h1 h2=>by rw [← h1];exact ⟨rfl,h2⟩);generalize hPo:SlD (Qdv ws) w=Post at *;clear hPo;have hr':∀i,ws.getD i 0<18446744073709551616:=fun i=>by
  rw [GD]
  cases h:ws[i]? with
  | none=>simp
  | some x=>exact hu x (List.mem_of_getElem? h)
 obtain ⟨a0,a1,a2,a3,a4,a5,a6,a7,a8,a9,a10,a11,a12,a13,a14,a15,rfl⟩:=Qcp hl;obtain ⟨rs,hrs⟩:∃rs,rs=Qpa [a0,a1,a2,a3,a4,a5,a6,a7,a8,a9,a10,a11,a12,a13,a14,a15]:=⟨_,rfl⟩
 have HRs:Hid (rs=[Qce a1,Qce a2,Qce a3,Qce a4,Qce a9,Qce a10,Qce a11,Qce a12].map (fun n:Nat=>(n:Int))):=LH hrs;have HBd:Hid (∀k x,[a1,a2,a3,a4,a9,a10,a11,a12][k]?=some x→131071<x→Qda a0 rs=false):=LH (fun k x hk hx=>by
  unfold Qda;rw [Qui (i:=k) (r:=((Qce x:Nat):Int)) (by rw [hrs];rw [show Qpa [a0,a1,a2,a3,a4,a5,a6,a7,a8,a9,a10,a11,a12,a13,a14,a15]=[a1,a2,a3,a4,a9,a10,a11,a12].map (fun n=>((Qce n:Nat):Int)) from rfl,List.getElem?_map,hk];rfl) (by unfold rtI Qce;simp;omega)]
  rfl)
 have HU:=LH hu;have h0:a0<18446744073709551616:=hr' 0;have h1:a1<18446744073709551616:=hr' 1;have h2:a2<18446744073709551616:=hr' 2;have h3:a3<18446744073709551616:=hr' 3;have h4:a4<18446744073709551616:=hr' 4;have h5:a5<18446744073709551616:=hr' 5;have h6:a6<18446744073709551616:=hr' 6;have h7:a7<18446744073709551616:=hr' 7;have h8:a8<18446744073709551616:=hr' 8;have h9:a9<18446744073709551616:=hr' 9;have h10:a10<18446744073709551616:=hr' 10;have h11:a11<18446744073709551616:=hr' 11;have h12:a12<18446744073709551616:=hr' 12;have h13:a13<18446744073709551616:=hr' 13;have h14:a14<18446744073709551616:=hr' 14;have h15:a15<18446744073709551616:=hr' 15;have HD:Hid (Qdv [a0,a1,a2,a3,a4,a5,a6,a7,a8,a9,a10,a11,a12,a13,a14,a15]=if a7≠Qbj [a0,a1,a2,a3,a4,a5,a6] then (0,[0,0,0,0,0,0,0,0],25) else if a15≠Qbj [a8,a9,a10,a11,a12,a13,a14] then (0,[0,0,0,0,0,0,0,0],25) else if Qda a0 rs=true∧Qdl a0 rs=[a0,a1,a2,a3,a4,a5,a6,a7,a8,a9,a10,a11,a12,a13,a14,a15] then (a0,rs,0) else (0,[0,0,0,0,0,0,0,0],26)):=LH (by rw [hrs];rfl);rw [HD.out] at HP;clear hu hl hrs hr' HD;rw [show Qgb [a0,a1,a2,a3,a4,a5,a6,a7,a8,a9,a10,a11,a12,a13,a14,a15]=.agg #[Qad a0,Qad a1,Qad a2,Qad a3,Qad a4,Qad a5,Qad a6,Qad a7,Qad a8,Qad a9,Qad a10,Qad a11,Qad a12,Qad a13,Qad a14,Qad a15] from rfl];have HM:=LH (Mem.two w #[Qad a0,Qad a1,Qad a2,Qad a3,Qad a4,Qad a5,Qad a6,Qad a7,Qad a8,Qad a9,Qad a10,Qad a11,Qad a12,Qad a13,Qad a14,Qad a15] 113 #[.int .u64 0,.int .i64 0,.int .i64 0,.int .i64 0,.int .i64 0,.int .i64 0,.int .i64 0,.int .i64 0,.int .i64 0] 55)
 go_enter Tryz.func145,Tryz.ntmps145;go_upto_region 1 with fail;obtain ⟨q1,hq1⟩:∃q,q=w.heap.size:=⟨_,rfl⟩
 obtain ⟨q2,hq2⟩:∃q,q=w.heap.size+1:=⟨_,rfl⟩
 rw [← hq2,← hq1] at HM ⊢;generalize (w.alloc _).alloc _=w1 at *;clear hq1 hq2;have HM1:Hid (Mem w w1 [⟨q1,113,[a0,a1,a2,a3,a4,a5,a6,a7,a8,a9,a10,a11,a12,a13,a14,a15].map Qad,true⟩,⟨q2,55,[.int .u64 0,.int .i64 0,.int .i64 0,.int .i64 0,.int .i64 0,.int .i64 0,.int .i64 0,.int .i64 0,.int .i64 0],true⟩]):=LH (by simpa using HM.out);clear HM;have d7:=HM1.out.cell 0 7 rfl rfl;have d15:=HM1.out.cell 0 15 rfl rfl;have r7:=fun x=>Qab d7 x
 have r15:=fun x=>Qab d15 x
 clear d7 d15;refine Qai (C:=fun w'=>∃x:Qbi (w1),w'=x.val) [.fl [0,1,2],.sq [3] true,.fl [4],.sq [5,6] false,.fl [7,8,9],.sq [10] true,.fl [11],.sq [12,13] false] (by kernel_rfl) (by kernel_rfl) (by intro c a d v w h;cases d <;> exact h) ?_;simp only [Qdj,Qa3,List.getElem?_cons_succ,List.getElem?_cons_zero]
 have hC1:=Qaj (w1);refine Qak hC1 ?_
 repeat (first|go_big_quiet_step (fail)|quiet_step (fail))
 refine wpQuiet_nil ?_;have HMa:=LH (HM1.out.later (Qae hC1));refine Qah (fun K hK=>?_);go_wp2_with fail;refine (Qdz (some ⟨q1,0,none⟩) 16 [a0,a1,a2,a3,a4,a5,a6] rfl _ (by simpa using (((HMa.out.at 0 rfl).cells).drop 0).take 7) (fun z hz=>HU.out z (List.mem_of_mem_take (List.mem_of_mem_drop (l:=List.take 7 [a0,a1,a2,a3,a4,a5,a6,a7,a8,a9,a10,a11,a12,a13,a14,a15]) (i:=0) (by simpa using hz)))) (by simp)).mono ?_;rintro e w2 ⟨rfl,hb2⟩;have hC2:=Qan hC1 hb2;have HM2:=LH (HM1.out.later (Qae hC2));have hlt0:=Qb6 [a0,a1,a2,a3,a4,a5,a6];obtain ⟨cr0,hcr⟩:∃cr,cr=Qbj [a0,a1,a2,a3,a4,a5,a6]:=⟨_,rfl⟩
 rw [← hcr] at hlt0 ⊢;have HCr0:=LH hcr;clear hb2 hcr;go_wp2_with fail;refine hK _ _ (fun _=>hC2) ?_;clear hK K;refine Qak hC2 ?_
 repeat (first|go_big_quiet_step (fail)|quiet_step (fail))
 refine wpQuiet_nil ?_
 by_cases e7:a7=cr0
 case neg =>
  have e7':((a7:Int) == (cr0:Int))=false:=by rw [beq_eq_false_iff_ne];omega
  have e7'':((a7:Int) != (cr0:Int))=true:=by rw [bne_iff_ne];omega
  have HF:=LH (fun w' h=>HP.out 0 [0,0,0,0,0,0,0,0] 25 w' (by rw [if_pos (by rw [← HCr0.out];exact e7)]) h);clear e7 r7 r15;refine Qah (fun K hK=>?_);go_wp2_with fail;go_wp2_with fail;refine hK _ _ (fun h=>nomatch h) ?_;clear hK K;refine Qak hC2 ?_
  repeat (first|go_big_quiet_step (fail)|quiet_step (fail))
  refine wpQuiet_nil ?_;refine Qah (fun K hK=>?_);go_wp2_with fail;go_wp2_with fail;refine hK _ _ (fun _=>hC2) ?_;clear hK K;refine Qak hC2 ?_
  repeat (first|go_big_quiet_step (fail)|quiet_step (fail))
  refine wpQuiet_nil ?_;clear hC1 hC2;refine Qal ?_;go_wp2_with (refine Qaa Qek HM2.out 1 rfl rfl rfl rfl rfl rfl rfl rfl ?_;intro w6 h6 ht6;have H6:=LH h6;clear h6 ht6)
  refine bodyPost_ret (Qac (p:=2) (u:=3) rfl _ _ _ _ _ _ _ rfl (H6.out.exact 1 rfl) Tryz.underlying55 rfl (by kernel_rfl)) rfl ?_;exact HF.out _ H6.out.below
 have e7':((a7:Int) == (cr0:Int))=true:=by rw [beq_iff_eq,e7]
 have e7'':((a7:Int) != (cr0:Int))=false:=by rw [e7];simp
 have HE7:Hid (a7=Qbj [a0,a1,a2,a3,a4,a5,a6]):=LH (by rw [← HCr0.out];exact e7);clear e7;refine Qah (fun K hK=>?_);go_wp2_with fail;go_wp2_with fail;refine hK _ _ (fun h=>nomatch h) ?_;clear hK K;refine Qak hC2 ?_
 repeat (first|go_big_quiet_step (fail)|quiet_step (fail))
 refine wpQuiet_nil ?_;clear r7 r15 HMa HM2;have HMa:=LH (HM1.out.later (Qae hC2));refine Qah (fun K hK=>?_);go_wp2_with fail;refine (Qdz (some ⟨q1,8,none⟩) 8 [a8,a9,a10,a11,a12,a13,a14] rfl _ (by simpa using (((HMa.out.at 0 rfl).cells).drop 8).take 7) (fun z hz=>HU.out z (List.mem_of_mem_take (List.mem_of_mem_drop (l:=List.take 15 [a0,a1,a2,a3,a4,a5,a6,a7,a8,a9,a10,a11,a12,a13,a14,a15]) (i:=8) (by simpa using hz)))) (by simp)).mono ?_;rintro e w4 ⟨rfl,hb4⟩;have hC3:=Qan hC2 hb4;have HM3:=LH (HM1.out.later (Qae hC3));have hlt8:=Qb6 [a8,a9,a10,a11,a12,a13,a14];obtain ⟨cr8,hcr⟩:∃cr,cr=Qbj [a8,a9,a10,a11,a12,a13,a14]:=⟨_,rfl⟩
 rw [← hcr] at hlt8 ⊢;have HCr8:=LH hcr;clear hb4 hcr;go_wp2_with fail;refine hK _ _ (fun _=>hC3) ?_;clear hK K;refine Qak hC3 ?_
 repeat (first|go_big_quiet_step (fail)|quiet_step (fail))
 refine wpQuiet_nil ?_;clear hC1 hC2 hC3
 by_cases e15:a15=cr8
 case neg =>
  have e15':((a15:Int) == (cr8:Int))=false:=by rw [beq_eq_false_iff_ne];omega
  have e15'':((a15:Int) != (cr8:Int))=true:=by rw [bne_iff_ne];omega
  have HF:=LH (fun w' h=>HP.out 0 [0,0,0,0,0,0,0,0] 25 w' (by rw [if_neg (show ¬(a7≠Qbj [a0,a1,a2,a3,a4,a5,a6]) from fun e=>e HE7.out),if_pos (by rw [← HCr8.out];exact e15)]) h);clear e15;refine Qal ?_;go_wp2_with (refine Qaa Qek HM3.out 1 rfl rfl rfl rfl rfl rfl rfl rfl ?_;intro w6 h6 ht6;have H6:=LH h6;clear h6 ht6)
  refine bodyPost_ret (Qac (p:=2) (u:=3) rfl _ _ _ _ _ _ _ rfl (H6.out.exact 1 rfl) Tryz.underlying55 rfl (by kernel_rfl)) rfl ?_;exact HF.out _ H6.out.below
 have e15':((a15:Int) == (cr8:Int))=true:=by rw [beq_iff_eq,e15]
 have e15'':((a15:Int) != (cr8:Int))=false:=by rw [e15];simp
 have HP2:Hid (∀(n:Nat) (rs':List Int) (e:Int) w',(n,rs',e)=(if Qda a0 rs=true∧Qdl a0 rs=[a0,a1,a2,a3,a4,a5,a6,a7,a8,a9,a10,a11,a12,a13,a14,a15] then (a0,rs,0) else (0,[0,0,0,0,0,0,0,0],26))→Below w.heap.size w w'→Post (.returned (.tuple #[Qbg n rs',.int .i64 e])) w'):=LH (fun n rs' e w' h1 h2=>HP.out n rs' e w' (by rw [if_neg (show ¬(a7≠Qbj [a0,a1,a2,a3,a4,a5,a6]) from fun e=>e HE7.out),if_neg (show ¬(a15≠Qbj [a8,a9,a10,a11,a12,a13,a14]) from fun e=>e (by rw [← HCr8.out];exact e15))];exact h1) h2);clear e15 HP HE7 HCr0 HCr8 hlt0 hlt8 HMa;have HBf:Hid (Qda a0 rs=false→∀w',Below w.heap.size w w'→Post (.returned (.tuple #[Qbg 0 [0,0,0,0,0,0,0,0],.int .i64 26])) w'):=LH (fun hf w' h=>HP2.out _ _ _ w' (by rw [if_neg (fun hh=>by rw [hf] at hh;exact Bool.noConfusion hh.1)]) h);obtain ⟨f,hf⟩:∃f:Nat→Nat,f=fun k=>[Qce a1,Qce a2,Qce a3,Qce a4,Qce a9,Qce a10,Qce a11,Qce a12].getD k 0:=⟨_,rfl⟩
 have f0:f 0=Qce a1:=by rw [hf];rfl
 have f1:f 1=Qce a2:=by rw [hf];rfl
 have f2:f 2=Qce a3:=by rw [hf];rfl
 have f3:f 3=Qce a4:=by rw [hf];rfl
 have f4:f 4=Qce a9:=by rw [hf];rfl
 have f5:f 5=Qce a10:=by rw [hf];rfl
 have f6:f 6=Qce a11:=by rw [hf];rfl
 have f7:f 7=Qce a12:=by rw [hf];rfl
 have HAll:Hid (Qrn f 4=rs.map (Value.int .i64)):=LH (by rw [HRs.out,hf];rfl);have HLr:Hid (rs.length=8):=LH (by rw [HRs.out];rfl);clear hf HRs;have e0:=HM3.out.cell 0 0 rfl rfl;have HM4:Hid (Mem w (w4.alloc (.cells #[Qad a0,.int .i64 0,.int .i64 0,.int .i64 0,.int .i64 0,.int .i64 0,.int .i64 0,.int .i64 0,.int .i64 0] 55)) [⟨q1,113,[a0,a1,a2,a3,a4,a5,a6,a7,a8,a9,a10,a11,a12,a13,a14,a15].map Qad,true⟩,⟨q2,55,[.int .u64 0,.int .i64 0,.int .i64 0,.int .i64 0,.int .i64 0,.int .i64 0,.int .i64 0,.int .i64 0,.int .i64 0],true⟩,⟨w4.heap.size,55,Qad a0 :: Qrn f 0,true⟩]):=LH (HM3.out.alloc #[Qad a0,.int .i64 0,.int .i64 0,.int .i64 0,.int .i64 0,.int .i64 0,.int .i64 0,.int .i64 0,.int .i64 0] 55);refine Qal ?_;go_wp2_with fail;go_upto_region 4 with fail;obtain ⟨q4,hq4⟩:∃q,q=w4.heap.size:=⟨_,rfl⟩
 rw [← hq4] at HM4 ⊢;generalize w4.alloc _=wa at *;clear hq4 e0 HM3 HM1;go_wp2_with fail
 go_loopw [5] (fun iv wr=>∃i:Nat,i≤4∧iv=.int .i64 (i:Int)∧Hid (Mem w wr [⟨q1,113,[a0,a1,a2,a3,a4,a5,a6,a7,a8,a9,a10,a11,a12,a13,a14,a15].map Qad,true⟩,⟨q2,55,[.int .u64 0,.int .i64 0,.int .i64 0,.int .i64 0,.int .i64 0,.int .i64 0,.int .i64 0,.int .i64 0,.int .i64 0],true⟩,⟨q4,55,Qad a0 :: Qrn f i,true⟩])) (fun iv _=>4-(intOf iv).toNat)
 case atStart=>exact ⟨0,by omega,rfl,HM4⟩
 case round =>
  obtain ⟨i,hi,rfl,HM⟩:=hrel;rcases (by omega:i=0∨i=1∨i=2∨i=3∨i=4) with rfl | rfl | rfl | rfl | rfl
  ·rw [show ((0:Nat):Int)=0 from rfl];have c1:=HM.out.cell 0 1 rfl rfl;have c2:=HM.out.cell 0 9 rfl rfl
   by_cases b1:a1≤131071
   case neg =>
    have b1':(131071:Int)<(a1:Int):=by omega
    have HF:=LH (HBf.out (HBd.out 0 a1 rfl (by omega)));clear b1;go_wp2_with (refine Qaa Qek HM.out 1 rfl rfl rfl rfl rfl rfl rfl rfl ?_;intro w6 h6 ht6;have H6:=LH h6;clear h6 ht6)
    refine bodyPost_ret (Qac (p:=2) (u:=3) rfl _ _ _ _ _ _ _ rfl (H6.out.exact 1 rfl) Tryz.underlying55 rfl (by kernel_rfl)) rfl ?_;exact HF.out _ H6.out.below
   have b1':¬(131071:Int)<(a1:Int):=by omega
   by_cases b2:a9≤131071
   case neg =>
    have b2':(131071:Int)<(a9:Int):=by omega
    have HF:=LH (HBf.out (HBd.out 4 a9 rfl (by omega)));clear b2;go_wp2_with (refine Qaa Qek HM.out 1 rfl rfl rfl rfl rfl rfl rfl rfl ?_;intro w6 h6 ht6;have H6:=LH h6;clear h6 ht6)
    refine bodyPost_ret (Qac (p:=2) (u:=3) rfl _ _ _ _ _ _ _ rfl (H6.out.exact 1 rfl) Tryz.underlying55 rfl (by kernel_rfl)) rfl ?_;exact HF.out _ H6.out.below
   have b2':¬(131071:Int)<(a9:Int):=by omega
   have hnd:=HM.out.nd;simp only [List.map_cons,List.map_nil,List.nodup_cons,List.mem_cons,List.not_mem_nil,or_false,not_or] at hnd
   have hq1:q1∉[q4]:=by simp;exact hnd.1.2
   have rc1:=fun x=>Qao (L:=[q4]) c1 hq1 x
   have rc2:=fun x=>Qao (L:=[q4]) c2 hq1 x
   clear hnd hq1 b1 b2;go_upto_region 9 with fail;clear c1 c2;have HT0:Hid (Qam [q4] wr wr.drew):=LH (Qam.ofBelow (Qae (Qaj wr)));have HM5:=LH (HM.out.later (Qae (Qaj wr)));have hC1:=Qa0 HT0.out;refine Qai (C:=fun w'=>∃x:Qjj [q4] wr,w'=x.val) [.fl [0,1,2,3,4,5,6,7,8,9,10,11,12,13,14,16],.sq [15] true,.sq [17,18] false] (by kernel_rfl) (by kernel_rfl) (by intro c a d v w h;cases d <;> exact h) ?_;simp only [Qdj,Qa3,List.getElem?_cons_succ,List.getElem?_cons_zero]
   refine Qak hC1 ?_
   repeat (first|go_big_quiet_step (fail)|quiet_step (fail))
   refine wpQuiet_nil ?_;generalize wr.drew=w5 at *;obtain ⟨u1,hu1⟩:∃u,(Qad a0 :: Qrn f 0)[1]?=some u:=⟨_,GE (by rw [List.length_cons,Qcz];omega)⟩
   have c3:w5.cell? ⟨q4,1,none⟩=some u1:=HM5.out.cell 2 1 rfl hu1;have k3:=HM5.out.frozen 2 1 rfl;have hT1:Qam [q4] wr (w5.setCell ⟨q4,1,none⟩ (.int .i64 (a1:Int))):=HT0.out.trans (Qam.setCell _ (by simp) _);have HT1:=LH hT1;have hC2:=Qa0 hT1;have HM6:=LH (HM5.out.set 2 1 (.int .i64 (a1:Int)) rfl (by rw [List.length_cons,Qcz];omega));obtain ⟨u2,hu2⟩:∃u,((Qad a0 :: Qrn f 0).set 1 (.int .i64 (a1:Int)))[5]?=some u:=⟨_,GE (by rw [List.length_set,List.length_cons,Qcz];omega)⟩
   have c4:=HM6.out.cell 2 5 rfl hu2;have k4:=HM6.out.frozen 2 5 rfl;have HS:Hid (Mem w ((w5.setCell ⟨q4,1,none⟩ (.int .i64 (a1:Int))).setCell ⟨q4,5,none⟩ (.int .i64 (a9:Int))) [⟨q1,113,[a0,a1,a2,a3,a4,a5,a6,a7,a8,a9,a10,a11,a12,a13,a14,a15].map Qad,true⟩,⟨q2,55,[.int .u64 0,.int .i64 0,.int .i64 0,.int .i64 0,.int .i64 0,.int .i64 0,.int .i64 0,.int .i64 0,.int .i64 0],true⟩,⟨q4,55,Qad a0 :: Qrn f 1,true⟩]):=LH (by
    have h2:=HM6.out.set 2 5 (.int .i64 (a9:Int)) rfl (by rw [List.length_set,List.length_cons,Qcz];omega);rw [← Qmq f (by omega:0<4),f0,f4,show Qce a1=a1 from by unfold Qce;omega,show Qce a9=a9 from by unfold Qce;omega]
    exact h2)
   clear hu1 hu2 hT1;refine Qah (fun K hK=>?_);go_wp2_with fail;go_wp2_with fail;refine hK _ _ (fun _=>hC2) ?_;clear hK K;refine Qal ?_;go_wp2_with fail;exact ⟨⟨1,by omega,rfl,HS⟩,by simp [intOf]⟩
  ·rw [show ((1:Nat):Int)=1 from rfl];have c1:=HM.out.cell 0 2 rfl rfl;have c2:=HM.out.cell 0 10 rfl rfl
   by_cases b1:a2≤131071
   case neg =>
    have b1':(131071:Int)<(a2:Int):=by omega
    have HF:=LH (HBf.out (HBd.out 1 a2 rfl (by omega)));clear b1;go_wp2_with (refine Qaa Qek HM.out 1 rfl rfl rfl rfl rfl rfl rfl rfl ?_;intro w6 h6 ht6;have H6:=LH h6;clear h6 ht6)
    refine bodyPost_ret (Qac (p:=2) (u:=3) rfl _ _ _ _ _ _ _ rfl (H6.out.exact 1 rfl) Tryz.underlying55 rfl (by kernel_rfl)) rfl ?_;exact HF.out _ H6.out.below
   have b1':¬(131071:Int)<(a2:Int):=by omega
   by_cases b2:a10≤131071
   case neg =>
    have b2':(131071:Int)<(a10:Int):=by omega
    have HF:=LH (HBf.out (HBd.out 5 a10 rfl (by omega)));clear b2;go_wp2_with (refine Qaa Qek HM.out 1 rfl rfl rfl rfl rfl rfl rfl rfl ?_;intro w6 h6 ht6;have H6:=LH h6;clear h6 ht6)
    refine bodyPost_ret (Qac (p:=2) (u:=3) rfl _ _ _ _ _ _ _ rfl (H6.out.exact 1 rfl) Tryz.underlying55 rfl (by kernel_rfl)) rfl ?_;exact HF.out _ H6.out.below
   have b2':¬(131071:Int)<(a10:Int):=by omega
   have hnd:=HM.out.nd;simp only [List.map_cons,List.map_nil,List.nodup_cons,List.mem_cons,List.not_mem_nil,or_false,not_or] at hnd
   have hq1:q1∉[q4]:=by simp;exact hnd.1.2
   have rc1:=fun x=>Qao (L:=[q4]) c1 hq1 x
   have rc2:=fun x=>Qao (L:=[q4]) c2 hq1 x
   clear hnd hq1 b1 b2;go_upto_region 9 with fail;clear c1 c2;have HT0:Hid (Qam [q4] wr wr.drew):=LH (Qam.ofBelow (Qae (Qaj wr)));have HM5:=LH (HM.out.later (Qae (Qaj wr)));have hC1:=Qa0 HT0.out;refine Qai (C:=fun w'=>∃x:Qjj [q4] wr,w'=x.val) [.fl [0,1,2,3,4,5,6,7,8,9,10,11,12,13,14,16],.sq [15] true,.sq [17,18] false] (by kernel_rfl) (by kernel_rfl) (by intro c a d v w h;cases d <;> exact h) ?_;simp only [Qdj,Qa3,List.getElem?_cons_succ,List.getElem?_cons_zero]
   refine Qak hC1 ?_
   repeat (first|go_big_quiet_step (fail)|quiet_step (fail))
   refine wpQuiet_nil ?_;generalize wr.drew=w5 at *;obtain ⟨u1,hu1⟩:∃u,(Qad a0 :: Qrn f 1)[2]?=some u:=⟨_,GE (by rw [List.length_cons,Qcz];omega)⟩
   have c3:w5.cell? ⟨q4,2,none⟩=some u1:=HM5.out.cell 2 2 rfl hu1;have k3:=HM5.out.frozen 2 2 rfl;have hT1:Qam [q4] wr (w5.setCell ⟨q4,2,none⟩ (.int .i64 (a2:Int))):=HT0.out.trans (Qam.setCell _ (by simp) _);have HT1:=LH hT1;have hC2:=Qa0 hT1;have HM6:=LH (HM5.out.set 2 2 (.int .i64 (a2:Int)) rfl (by rw [List.length_cons,Qcz];omega));obtain ⟨u2,hu2⟩:∃u,((Qad a0 :: Qrn f 1).set 2 (.int .i64 (a2:Int)))[6]?=some u:=⟨_,GE (by rw [List.length_set,List.length_cons,Qcz];omega)⟩
   have c4:=HM6.out.cell 2 6 rfl hu2;have k4:=HM6.out.frozen 2 6 rfl;have HS:Hid (Mem w ((w5.setCell ⟨q4,2,none⟩ (.int .i64 (a2:Int))).setCell ⟨q4,6,none⟩ (.int .i64 (a10:Int))) [⟨q1,113,[a0,a1,a2,a3,a4,a5,a6,a7,a8,a9,a10,a11,a12,a13,a14,a15].map Qad,true⟩,⟨q2,55,[.int .u64 0,.int .i64 0,.int .i64 0,.int .i64 0,.int .i64 0,.int .i64 0,.int .i64 0,.int .i64 0,.int .i64 0],true⟩,⟨q4,55,Qad a0 :: Qrn f 2,true⟩]):=LH (by
    have h2:=HM6.out.set 2 6 (.int .i64 (a10:Int)) rfl (by rw [List.length_set,List.length_cons,Qcz];omega);rw [← Qmq f (by omega:1<4),f1,f5,show Qce a2=a2 from by unfold Qce;omega,show Qce a10=a10 from by unfold Qce;omega]
    exact h2)
   clear hu1 hu2 hT1;refine Qah (fun K hK=>?_);go_wp2_with fail;go_wp2_with fail;refine hK _ _ (fun _=>hC2) ?_;clear hK K;refine Qal ?_;go_wp2_with fail;exact ⟨⟨2,by omega,rfl,HS⟩,by simp [intOf]⟩
  ·rw [show ((2:Nat):Int)=2 from rfl];have c1:=HM.out.cell 0 3 rfl rfl;have c2:=HM.out.cell 0 11 rfl rfl
   by_cases b1:a3≤131071
   case neg =>
    have b1':(131071:Int)<(a3:Int):=by omega
    have HF:=LH (HBf.out (HBd.out 2 a3 rfl (by omega)));clear b1;go_wp2_with (refine Qaa Qek HM.out 1 rfl rfl rfl rfl rfl rfl rfl rfl ?_;intro w6 h6 ht6;have H6:=LH h6;clear h6 ht6)
    refine bodyPost_ret (Qac (p:=2) (u:=3) rfl _ _ _ _ _ _ _ rfl (H6.out.exact 1 rfl) Tryz.underlying55 rfl (by kernel_rfl)) rfl ?_;exact HF.out _ H6.out.below
   have b1':¬(131071:Int)<(a3:Int):=by omega
   by_cases b2:a11≤131071
   case neg =>
    have b2':(131071:Int)<(a11:Int):=by omega
    have HF:=LH (HBf.out (HBd.out 6 a11 rfl (by omega)));clear b2;go_wp2_with (refine Qaa Qek HM.out 1 rfl rfl rfl rfl rfl rfl rfl rfl ?_;intro w6 h6 ht6;have H6:=LH h6;clear h6 ht6)
    refine bodyPost_ret (Qac (p:=2) (u:=3) rfl _ _ _ _ _ _ _ rfl (H6.out.exact 1 rfl) Tryz.underlying55 rfl (by kernel_rfl)) rfl ?_;exact HF.out _ H6.out.below
   have b2':¬(131071:Int)<(a11:Int):=by omega
   have hnd:=HM.out.nd;simp only [List.map_cons,List.map_nil,List.nodup_cons,List.mem_cons,List.not_mem_nil,or_false,not_or] at hnd
   have hq1:q1∉[q4]:=by simp;exact hnd.1.2
   have rc1:=fun x=>Qao (L:=[q4]) c1 hq1 x
   have rc2:=fun x=>Qao (L:=[q4]) c2 hq1 x
   clear hnd hq1 b1 b2;go_upto_region 9 with fail;clear c1 c2;have HT0:Hid (Qam [q4] wr wr.drew):=LH (Qam.ofBelow (Qae (Qaj wr)));have HM5:=LH (HM.out.later (Qae (Qaj wr)));have hC1:=Qa0 HT0.out;refine Qai (C:=fun w'=>∃x:Qjj [q4] wr,w'=x.val) [.fl [0,1,2,3,4,5,6,7,8,9,10,11,12,13,14,16],.sq [15] true,.sq [17,18] false] (by kernel_rfl) (by kernel_rfl) (by intro c a d v w h;cases d <;> exact h) ?_;simp only [Qdj,Qa3,List.getElem?_cons_succ,List.getElem?_cons_zero]
   refine Qak hC1 ?_
   repeat (first|go_big_quiet_step (fail)|quiet_step (fail))
   refine wpQuiet_nil ?_;generalize wr.drew=w5 at *;obtain ⟨u1,hu1⟩:∃u,(Qad a0 :: Qrn f 2)[3]?=some u:=⟨_,GE (by rw [List.length_cons,Qcz];omega)⟩
   have c3:w5.cell? ⟨q4,3,none⟩=some u1:=HM5.out.cell 2 3 rfl hu1;have k3:=HM5.out.frozen 2 3 rfl;have hT1:Qam [q4] wr (w5.setCell ⟨q4,3,none⟩ (.int .i64 (a3:Int))):=HT0.out.trans (Qam.setCell _ (by simp) _);have HT1:=LH hT1;have hC2:=Qa0 hT1;have HM6:=LH (HM5.out.set 2 3 (.int .i64 (a3:Int)) rfl (by rw [List.length_cons,Qcz];omega));obtain ⟨u2,hu2⟩:∃u,((Qad a0 :: Qrn f 2).set 3 (.int .i64 (a3:Int)))[7]?=some u:=⟨_,GE (by rw [List.length_set,List.length_cons,Qcz];omega)⟩
   have c4:=HM6.out.cell 2 7 rfl hu2;have k4:=HM6.out.frozen 2 7 rfl;have HS:Hid (Mem w ((w5.setCell ⟨q4,3,none⟩ (.int .i64 (a3:Int))).setCell ⟨q4,7,none⟩ (.int .i64 (a11:Int))) [⟨q1,113,[a0,a1,a2,a3,a4,a5,a6,a7,a8,a9,a10,a11,a12,a13,a14,a15].map Qad,true⟩,⟨q2,55,[.int .u64 0,.int .i64 0,.int .i64 0,.int .i64 0,.int .i64 0,.int .i64 0,.int .i64 0,.int .i64 0,.int .i64 0],true⟩,⟨q4,55,Qad a0 :: Qrn f 3,true⟩]):=LH (by
    have h2:=HM6.out.set 2 7 (.int .i64 (a11:Int)) rfl (by rw [List.length_set,List.length_cons,Qcz];omega);rw [← Qmq f (by omega:2<4),f2,f6,show Qce a3=a3 from by unfold Qce;omega,show Qce a11=a11 from by unfold Qce;omega]
    exact h2)
   clear hu1 hu2 hT1;refine Qah (fun K hK=>?_);go_wp2_with fail;go_wp2_with fail;refine hK _ _ (fun _=>hC2) ?_;clear hK K;refine Qal ?_;go_wp2_with fail;exact ⟨⟨3,by omega,rfl,HS⟩,by simp [intOf]⟩
  ·rw [show ((3:Nat):Int)=3 from rfl];have c1:=HM.out.cell 0 4 rfl rfl;have c2:=HM.out.cell 0 12 rfl rfl
   by_cases b1:a4≤131071
   case neg =>
    have b1':(131071:Int)<(a4:Int):=by omega
    have HF:=LH (HBf.out (HBd.out 3 a4 rfl (by omega)));clear b1;go_wp2_with (refine Qaa Qek HM.out 1 rfl rfl rfl rfl rfl rfl rfl rfl ?_;intro w6 h6 ht6;have H6:=LH h6;clear h6 ht6)
    refine bodyPost_ret (Qac (p:=2) (u:=3) rfl _ _ _ _ _ _ _ rfl (H6.out.exact 1 rfl) Tryz.underlying55 rfl (by kernel_rfl)) rfl ?_;exact HF.out _ H6.out.below
   have b1':¬(131071:Int)<(a4:Int):=by omega
   by_cases b2:a12≤131071
   case neg =>
    have b2':(131071:Int)<(a12:Int):=by omega
    have HF:=LH (HBf.out (HBd.out 7 a12 rfl (by omega)));clear b2;go_wp2_with (refine Qaa Qek HM.out 1 rfl rfl rfl rfl rfl rfl rfl rfl ?_;intro w6 h6 ht6;have H6:=LH h6;clear h6 ht6)
    refine bodyPost_ret (Qac (p:=2) (u:=3) rfl _ _ _ _ _ _ _ rfl (H6.out.exact 1 rfl) Tryz.underlying55 rfl (by kernel_rfl)) rfl ?_;exact HF.out _ H6.out.below
   have b2':¬(131071:Int)<(a12:Int):=by omega
   have hnd:=HM.out.nd;simp only [List.map_cons,List.map_nil,List.nodup_cons,List.mem_cons,List.not_mem_nil,or_false,not_or] at hnd
   have hq1:q1∉[q4]:=by simp;exact hnd.1.2
   have rc1:=fun x=>Qao (L:=[q4]) c1 hq1 x
   have rc2:=fun x=>Qao (L:=[q4]) c2 hq1 x
   clear hnd hq1 b1 b2;go_upto_region 9 with fail;clear c1 c2;have HT0:Hid (Qam [q4] wr wr.drew):=LH (Qam.ofBelow (Qae (Qaj wr)));have HM5:=LH (HM.out.later (Qae (Qaj wr)));have hC1:=Qa0 HT0.out;refine Qai (C:=fun w'=>∃x:Qjj [q4] wr,w'=x.val) [.fl [0,1,2,3,4,5,6,7,8,9,10,11,12,13,14,16],.sq [15] true,.sq [17,18] false] (by kernel_rfl) (by kernel_rfl) (by intro c a d v w h;cases d <;> exact h) ?_;simp only [Qdj,Qa3,List.getElem?_cons_succ,List.getElem?_cons_zero]
   refine Qak hC1 ?_
   repeat (first|go_big_quiet_step (fail)|quiet_step (fail))
   refine wpQuiet_nil ?_;generalize wr.drew=w5 at *;obtain ⟨u1,hu1⟩:∃u,(Qad a0 :: Qrn f 3)[4]?=some u:=⟨_,GE (by rw [List.length_cons,Qcz];omega)⟩
   have c3:w5.cell? ⟨q4,4,none⟩=some u1:=HM5.out.cell 2 4 rfl hu1;have k3:=HM5.out.frozen 2 4 rfl;have hT1:Qam [q4] wr (w5.setCell ⟨q4,4,none⟩ (.int .i64 (a4:Int))):=HT0.out.trans (Qam.setCell _ (by simp) _);have HT1:=LH hT1;have hC2:=Qa0 hT1;have HM6:=LH (HM5.out.set 2 4 (.int .i64 (a4:Int)) rfl (by rw [List.length_cons,Qcz];omega));obtain ⟨u2,hu2⟩:∃u,((Qad a0 :: Qrn f 3).set 4 (.int .i64 (a4:Int)))[8]?=some u:=⟨_,GE (by rw [List.length_set,List.length_cons,Qcz];omega)⟩
   have c4:=HM6.out.cell 2 8 rfl hu2;have k4:=HM6.out.frozen 2 8 rfl;have HS:Hid (Mem w ((w5.setCell ⟨q4,4,none⟩ (.int .i64 (a4:Int))).setCell ⟨q4,8,none⟩ (.int .i64 (a12:Int))) [⟨q1,113,[a0,a1,a2,a3,a4,a5,a6,a7,a8,a9,a10,a11,a12,a13,a14,a15].map Qad,true⟩,⟨q2,55,[.int .u64 0,.int .i64 0,.int .i64 0,.int .i64 0,.int .i64 0,.int .i64 0,.int .i64 0,.int .i64 0,.int .i64 0],true⟩,⟨q4,55,Qad a0 :: Qrn f 4,true⟩]):=LH (by
    have h2:=HM6.out.set 2 8 (.int .i64 (a12:Int)) rfl (by rw [List.length_set,List.length_cons,Qcz];omega);rw [← Qmq f (by omega:3<4),f3,f7,show Qce a4=a4 from by unfold Qce;omega,show Qce a12=a12 from by unfold Qce;omega]
    exact h2)
   clear hu1 hu2 hT1;refine Qah (fun K hK=>?_);go_wp2_with fail;go_wp2_with fail;refine hK _ _ (fun _=>hC2) ?_;clear hK K;refine Qal ?_;go_wp2_with fail;exact ⟨⟨4,by omega,rfl,HS⟩,by simp [intOf]⟩
  ·rw [show ((4:Nat):Int)=4 from rfl];rw [HAll.out] at HM;clear f0 f1 f2 f3 f4 f5 f6 f7 HAll;obtain ⟨r0,r1,r2,r3,r4,r5,r6,r7,rfl⟩:=Qcb HLr.out;rw [show [r0,r1,r2,r3,r4,r5,r6,r7].map (Value.int .i64)=[.int .i64 r0,.int .i64 r1,.int .i64 r2,.int .i64 r3,.int .i64 r4,.int .i64 r5,.int .i64 r6,.int .i64 r7] from rfl] at HM;have HRt:=LH (fun w=>Qlx a0 [r0,r1,r2,r3,r4,r5,r6,r7] rfl h0 w);have HEn:=LH (fun w=>Qkf a0 [r0,r1,r2,r3,r4,r5,r6,r7] rfl h0 w);have hsv:Qbg a0 [r0,r1,r2,r3,r4,r5,r6,r7]=.agg #[Qad a0,.int .i64 r0,.int .i64 r1,.int .i64 r2,.int .i64 r3,.int .i64 r4,.int .i64 r5,.int .i64 r6,.int .i64 r7]:=rfl;rw [hsv] at HRt HEn;obtain ⟨sw,hsw⟩:∃sw,sw=Qdl a0 [r0,r1,r2,r3,r4,r5,r6,r7]:=⟨_,rfl⟩
   have hlw:sw.length=16:=by rw [hsw];exact Qfu _ _
   unfold Qko at HEn;rw [← hsw] at HEn HP2;clear hsv HLr hsw;obtain ⟨b0,b1,b2,b3,b4,b5,b6,b7,b8,b9,b10,b11,b12,b13,b14,b15,rfl⟩:=Qcp hlw;clear hlw;rw [show Qgb [b0,b1,b2,b3,b4,b5,b6,b7,b8,b9,b10,b11,b12,b13,b14,b15]=.agg #[Qad b0,Qad b1,Qad b2,Qad b3,Qad b4,Qad b5,Qad b6,Qad b7,Qad b8,Qad b9,Qad b10,Qad b11,Qad b12,Qad b13,Qad b14,Qad b15] from rfl] at HEn;have e0:=HM.out.cell 2 0 rfl rfl;have e1:=HM.out.cell 2 1 rfl rfl;have e2:=HM.out.cell 2 2 rfl rfl;have e3:=HM.out.cell 2 3 rfl rfl;have e4:=HM.out.cell 2 4 rfl rfl;have e5:=HM.out.cell 2 5 rfl rfl;have e6:=HM.out.cell 2 6 rfl rfl;have e7:=HM.out.cell 2 7 rfl rfl;have e8:=HM.out.cell 2 8 rfl rfl;have g0:=HM.out.cell 0 0 rfl rfl;have g1:=HM.out.cell 0 1 rfl rfl;have g2:=HM.out.cell 0 2 rfl rfl;have g3:=HM.out.cell 0 3 rfl rfl;have g4:=HM.out.cell 0 4 rfl rfl;have g5:=HM.out.cell 0 5 rfl rfl;have g6:=HM.out.cell 0 6 rfl rfl;have g7:=HM.out.cell 0 7 rfl rfl;have g8:=HM.out.cell 0 8 rfl rfl;have g9:=HM.out.cell 0 9 rfl rfl;have g10:=HM.out.cell 0 10 rfl rfl;have g11:=HM.out.cell 0 11 rfl rfl;have g12:=HM.out.cell 0 12 rfl rfl;have g13:=HM.out.cell 0 13 rfl rfl;have g14:=HM.out.cell 0 14 rfl rfl;have g15:=HM.out.cell 0 15 rfl rfl;go_upto_region 10 with fail;have re0:=fun x=>Qab e0 x
   have re1:=fun x=>Qab e1 x
   have re2:=fun x=>Qab e2 x
   have re3:=fun x=>Qab e3 x
   have re4:=fun x=>Qab e4 x
   have re5:=fun x=>Qab e5 x
   have re6:=fun x=>Qab e6 x
   have re7:=fun x=>Qab e7 x
   have re8:=fun x=>Qab e8 x
   have rg0:=fun x=>Qab g0 x
   have rg1:=fun x=>Qab g1 x
   have rg2:=fun x=>Qab g2 x
   have rg3:=fun x=>Qab g3 x
   have rg4:=fun x=>Qab g4 x
   have rg5:=fun x=>Qab g5 x
   have rg6:=fun x=>Qab g6 x
   have rg7:=fun x=>Qab g7 x
   have rg8:=fun x=>Qab g8 x
   have rg9:=fun x=>Qab g9 x
   have rg10:=fun x=>Qab g10 x
   have rg11:=fun x=>Qab g11 x
   have rg12:=fun x=>Qab g12 x
   have rg13:=fun x=>Qab g13 x
   have rg14:=fun x=>Qab g14 x
   have rg15:=fun x=>Qab g15 x
   by_cases hr:Qda a0 [r0,r1,r2,r3,r4,r5,r6,r7]=true
   case neg =>
    have hrf:Qda a0 [r0,r1,r2,r3,r4,r5,r6,r7]=false:=by simpa using hr
    rw [hrf] at HRt;have HF:=LH (fun w' h=>HP2.out 0 [0,0,0,0,0,0,0,0] 26 w' (by rw [if_neg (fun hh=>hr hh.1)]) h);clear hr re0 re1 re2 re3 re4 re5 re6 re7 re8 rg0 rg1 rg2 rg3 rg4 rg5 rg6 rg7 rg8 rg9 rg10 rg11 rg12 rg13 rg14 rg15 g0 g1 g2 g3 g4 g5 g6 g7 g8 g9 g10 g11 g12 g13 g14 g15;refine Qai (C:=fun w'=>∃x:Qbi (wr),w'=x.val) [.sq [0,1,2,3] false,.fl [4,6],.sq [5] true,.sq [7,8] false] (by kernel_rfl) (by kernel_rfl) (by intro c a d v w h;cases d <;> exact h) ?_;simp only [Qdj,Qa3,List.getElem?_cons_succ,List.getElem?_cons_zero]
    have hC1:=Qaj (wr);refine Qah (fun K hK=>?_);go_wp2_with fail;refine (HRt.out _).mono ?_;rintro e w5 ⟨rfl,hb5⟩;have hC2:=Qan hC1 hb5;have HM5:=LH (HM.out.later (Qae hC2));clear hb5 e0 e1 e2 e3 e4 e5 e6 e7 e8;go_wp2_with fail;refine hK _ _ (fun h=>nomatch h) ?_;clear hK K;refine Qak hC2 ?_
    repeat (first|go_big_quiet_step (fail)|quiet_step (fail))
    refine wpQuiet_nil ?_;refine Qah (fun K hK=>?_);go_wp2_with fail;go_wp2_with fail;refine hK _ _ (fun _=>hC2) ?_;clear hK K;clear hC1 hC2;refine Qal ?_;go_wp2_with (refine Qaa Qek HM5.out 1 rfl rfl rfl rfl rfl rfl rfl rfl ?_;intro w6 h6 ht6;have H6:=LH h6;clear h6 ht6)
    refine bodyPost_ret (Qac (p:=2) (u:=3) rfl _ _ _ _ _ _ _ rfl (H6.out.exact 1 rfl) Tryz.underlying55 rfl (by kernel_rfl)) rfl ?_;exact HF.out _ H6.out.below
   rw [hr] at HRt;have heq:∀w',(Op.equalIn 10000 113 (.agg #[Qad b0,Qad b1,Qad b2,Qad b3,Qad b4,Qad b5,Qad b6,Qad b7,Qad b8,Qad b9,Qad b10,Qad b11,Qad b12,Qad b13,Qad b14,Qad b15]) (.agg #[Qad a0,Qad a1,Qad a2,Qad a3,Qad a4,Qad a5,Qad a6,Qad a7,Qad a8,Qad a9,Qad a10,Qad a11,Qad a12,Qad a13,Qad a14,Qad a15])).run Tryz.prog w'=.ok (decide ([b0,b1,b2,b3,b4,b5,b6,b7,b8,b9,b10,b11,b12,b13,b14,b15]=[a0,a1,a2,a3,a4,a5,a6,a7,a8,a9,a10,a11,a12,a13,a14,a15])) w':=fun w'=>Qz8 w' [b0,b1,b2,b3,b4,b5,b6,b7,b8,b9,b10,b11,b12,b13,b14,b15] [a0,a1,a2,a3,a4,a5,a6,a7,a8,a9,a10,a11,a12,a13,a14,a15] rfl rfl
   clear g0 g1 g2 g3 g4 g5 g6 g7 g8 g9 g10 g11 g12 g13 g14 g15;refine Qai (C:=fun w'=>∃x:Qbi (wr),w'=x.val) [.sq [0,1,2,3] false,.fl [4,6],.sq [5] true,.sq [7,8] false] (by kernel_rfl) (by kernel_rfl) (by intro c a d v w h;cases d <;> exact h) ?_;simp only [Qdj,Qa3,List.getElem?_cons_succ,List.getElem?_cons_zero]
   have hC1:=Qaj (wr);refine Qah (fun K hK=>?_);go_wp2_with fail;refine (HRt.out _).mono ?_;rintro e w5 ⟨rfl,hb5⟩;have hC2:=Qan hC1 hb5;clear hb5 e0 e1 e2 e3 e4 e5 e6 e7 e8;go_wp2_with fail;refine hK _ _ (fun h=>nomatch h) ?_;clear hK K;refine Qak hC2 ?_
   repeat (first|go_big_quiet_step (fail)|quiet_step (fail))
   refine wpQuiet_nil ?_;clear re0 re1 re2 re3 re4 re5 re6 re7 re8 rg0 rg1 rg2 rg3 rg4 rg5 rg6 rg7 rg8 rg9 rg10 rg11 rg12 rg13 rg14 rg15;refine Qah (fun K hK=>?_);go_wp2_with fail;refine (HEn.out _).mono ?_;rintro e w6 ⟨rfl,hb6⟩;have hC3:=Qan hC2 hb6;have HM6:=LH (HM.out.later (Qae hC3));clear hb6;go_wp2_with fail;refine hK _ _ (fun _=>hC3) ?_;clear hK K;clear hC1 hC2 hC3
   by_cases hs:[b0,b1,b2,b3,b4,b5,b6,b7,b8,b9,b10,b11,b12,b13,b14,b15]=[a0,a1,a2,a3,a4,a5,a6,a7,a8,a9,a10,a11,a12,a13,a14,a15]
   ·rw [decide_eq_true hs] at heq;have HF2:=LH (fun w' h=>HP2.out a0 [r0,r1,r2,r3,r4,r5,r6,r7] 0 w' (by rw [if_pos ⟨hr,hs⟩]) h);clear hs hr;refine Qal ?_;go_wp2_with (first | (refine Qag Qek HM6.out 2 rfl rfl rfl rfl rfl ?_) | (refine Qaa Qek HM6.out 1 rfl rfl rfl rfl rfl rfl rfl rfl ?_;intro w6 h6 ht6;have H6:=LH h6;clear h6 ht6))
    refine bodyPost_ret (Qac (p:=2) (u:=3) rfl _ _ _ _ _ _ _ rfl (H6.out.exact 1 rfl) Tryz.underlying55 rfl (by kernel_rfl)) rfl ?_;exact HF2.out _ H6.out.below
   ·rw [decide_eq_false hs] at heq;have HF2:=LH (fun w' h=>HP2.out 0 [0,0,0,0,0,0,0,0] 26 w' (by rw [if_neg (fun hh=>hs hh.2)]) h);clear hs hr;refine Qal ?_;go_wp2_with (refine Qaa Qek HM6.out 1 rfl rfl rfl rfl rfl rfl rfl rfl ?_;intro w6 h6 ht6;have H6:=LH h6;clear h6 ht6)
    refine bodyPost_ret (Qac (p:=2) (u:=3) rfl _ _ _ _ _ _ _ rfl (H6.out.exact 1 rfl) Tryz.underlying55 rfl (by kernel_rfl)) rfl ?_;exact HF2.out _ H6.out.below
def Jib (r:Nat × List Int × Int × Bool) (w:World):Ending→World→Prop:=fun e w'=>e=.returned (.tuple #[Qbg r.1 r.2.1,.int .i64 (if r.2.2.2=true then r.2.2.1 else -1)])∧Below w.heap.size w w'
theorem Qq9 (as1 bs1:List Nat) (hla:as1.length=16) (hlb:bs1.length=16) (hua:∀z∈as1,z<18446744073709551616) (hub:∀z∈bs1,z<18446744073709551616) (w:World) :
  Calls Tryz.prog 98 #[Qgb as1,Qgb bs1] w (Jib (Qff (Qdv as1) (Qdv bs1)) w):=by
 obtain ⟨⟨ex,rx,cx⟩,hx⟩:∃r,r=Qdv as1:=⟨_,rfl⟩
 obtain ⟨⟨ey,ry,cy⟩,hy⟩:∃r,r=Qdv bs1:=⟨_,rfl⟩
 have ox:=Qil as1 hua;have oy:=Qil bs1 hub;have HDa:=LH (fun w=>Qkp as1 hla hua w);have HDb:=LH (fun w=>Qkp bs1 hlb hub w);rw [← hx] at ox HDa ⊢;rw [← hy] at oy HDb ⊢;obtain ⟨hex,hrx,hcx0,hcx1⟩:=ox;obtain ⟨hey,hry,hcy0,hcy1⟩:=oy;simp only [] at hex hrx hcx0 hcx1 hey hry hcy0 hcy1
 clear hx hy hua hub;have HP:Hid (∀(n:Nat) (rs:List Int) (i:Int) (b:Bool) (j:Int) w',(n,rs,i,b)=Qff (ex,rx,cx) (ey,ry,cy)→j=(if b=true then i else -1)→Below w.heap.size w w'→Jib (Qff (ex,rx,cx) (ey,ry,cy)) w (.returned (.tuple #[Qbg n rs,.int .i64 j])) w'):=LH (fun n id i b j w' h1 h2 h3=>by rw [← h1,h2];exact ⟨rfl,h3⟩);generalize hPo:Jib (Qff (ex,rx,cx) (ey,ry,cy)) w=Post at *;clear hPo;have HX:Hid (∀w',cx=0→(cy≠0∨ey≤ex)→Below w.heap.size w w'→Post (.returned (.tuple #[Qbg ex rx,.int .i64 0])) w'):=LH (fun w' h1 h2 h3=>HP.out _ _ _ _ _ w' (by unfold Qff;rw [if_pos ⟨h1,h2⟩]) rfl h3);have HY:Hid (∀w',¬(cx=0∧(cy≠0∨ey≤ex))→cy=0→Below w.heap.size w w'→Post (.returned (.tuple #[Qbg ey ry,.int .i64 1])) w'):=LH (fun w' h1 h2 h3=>HP.out _ _ _ _ _ w' (by unfold Qff;rw [if_neg h1,if_pos h2]) rfl h3);have HZ:Hid (∀w',¬(cx=0∧(cy≠0∨ey≤ex))→cy≠0→Below w.heap.size w w'→Post (.returned (.tuple #[Qbg 0 [0,0,0,0,0,0,0,0],.int .i64 (-1)])) w'):=LH (fun w' h1 h2 h3=>HP.out _ _ _ _ _ w' (by unfold Qff;rw [if_neg h1,if_neg h2]) rfl h3);clear HP;obtain ⟨x0,x1,x2,x3,x4,x5,x6,x7,rfl⟩:=Qcb hrx;obtain ⟨y0,y1,y2,y3,y4,y5,y6,y7,rfl⟩:=Qcb hry;obtain ⟨a0,a1,a2,a3,a4,a5,a6,a7,a8,a9,a10,a11,a12,a13,a14,a15,rfl⟩:=Qcp hla;obtain ⟨b0,b1,b2,b3,b4,b5,b6,b7,b8,b9,b10,b11,b12,b13,b14,b15,rfl⟩:=Qcp hlb;clear hrx hry hla hlb;rw [show Qgb [a0,a1,a2,a3,a4,a5,a6,a7,a8,a9,a10,a11,a12,a13,a14,a15]=.agg #[Qad a0,Qad a1,Qad a2,Qad a3,Qad a4,Qad a5,Qad a6,Qad a7,Qad a8,Qad a9,Qad a10,Qad a11,Qad a12,Qad a13,Qad a14,Qad a15] from rfl] at HDa ⊢
 rw [show Qgb [b0,b1,b2,b3,b4,b5,b6,b7,b8,b9,b10,b11,b12,b13,b14,b15]=.agg #[Qad b0,Qad b1,Qad b2,Qad b3,Qad b4,Qad b5,Qad b6,Qad b7,Qad b8,Qad b9,Qad b10,Qad b11,Qad b12,Qad b13,Qad b14,Qad b15] from rfl] at HDb ⊢;unfold SlD at HDa HDb;rw [show Qbg (ex,[x0,x1,x2,x3,x4,x5,x6,x7],cx).1 (ex,[x0,x1,x2,x3,x4,x5,x6,x7],cx).2.1=.agg #[Qad ex,.int .i64 x0,.int .i64 x1,.int .i64 x2,.int .i64 x3,.int .i64 x4,.int .i64 x5,.int .i64 x6,.int .i64 x7] from rfl] at HDa;rw [show Qbg (ey,[y0,y1,y2,y3,y4,y5,y6,y7],cy).1 (ey,[y0,y1,y2,y3,y4,y5,y6,y7],cy).2.1=.agg #[Qad ey,.int .i64 y0,.int .i64 y1,.int .i64 y2,.int .i64 y3,.int .i64 y4,.int .i64 y5,.int .i64 y6,.int .i64 y7] from rfl] at HDb;rw [show Qbg ex [x0,x1,x2,x3,x4,x5,x6,x7]=.agg #[Qad ex,.int .i64 x0,.int .i64 x1,.int .i64 x2,.int .i64 x3,.int .i64 x4,.int .i64 x5,.int .i64 x6,.int .i64 x7] from rfl] at HX;rw [show Qbg ey [y0,y1,y2,y3,y4,y5,y6,y7]=.agg #[Qad ey,.int .i64 y0,.int .i64 y1,.int .i64 y2,.int .i64 y3,.int .i64 y4,.int .i64 y5,.int .i64 y6,.int .i64 y7] from rfl] at HY;rw [show Qbg 0 [0,0,0,0,0,0,0,0]=.agg #[.int .u64 0,.int .i64 0,.int .i64 0,.int .i64 0,.int .i64 0,.int .i64 0,.int .i64 0,.int .i64 0,.int .i64 0] from rfl] at HZ;have HM:=LH ((Mem.two w #[Qad a0,Qad a1,Qad a2,Qad a3,Qad a4,Qad a5,Qad a6,Qad a7,Qad a8,Qad a9,Qad a10,Qad a11,Qad a12,Qad a13,Qad a14,Qad a15] 113 #[Qad b0,Qad b1,Qad b2,Qad b3,Qad b4,Qad b5,Qad b6,Qad b7,Qad b8,Qad b9,Qad b10,Qad b11,Qad b12,Qad b13,Qad b14,Qad b15] 113).alloc #[.int .u64 0,.int .i64 0,.int .i64 0,.int .i64 0,.int .i64 0,.int .i64 0,.int .i64 0,.int .i64 0,.int .i64 0] 55)
 go_enter Tryz.func98,Tryz.ntmps98;go_upto_region 1 with fail;obtain ⟨q1,hq1⟩:∃q,q=w.heap.size:=⟨_,rfl⟩
 obtain ⟨q2,hq2⟩:∃q,q=w.heap.size+1:=⟨_,rfl⟩
 obtain ⟨q3,hq3⟩:∃q,q=w.heap.size+1+1:=⟨_,rfl⟩
 simp only [World.size_alloc] at HM
 rw [← hq3,← hq2,← hq1] at HM ⊢;generalize ((w.alloc _).alloc _).alloc _=w1 at *;clear hq1 hq2 hq3;have HM1:Hid (Mem w w1 [⟨q1,113,[Qad a0,Qad a1,Qad a2,Qad a3,Qad a4,Qad a5,Qad a6,Qad a7,Qad a8,Qad a9,Qad a10,Qad a11,Qad a12,Qad a13,Qad a14,Qad a15],true⟩,⟨q2,113,[Qad b0,Qad b1,Qad b2,Qad b3,Qad b4,Qad b5,Qad b6,Qad b7,Qad b8,Qad b9,Qad b10,Qad b11,Qad b12,Qad b13,Qad b14,Qad b15],true⟩,⟨q3,55,[.int .u64 0,.int .i64 0,.int .i64 0,.int .i64 0,.int .i64 0,.int .i64 0,.int .i64 0,.int .i64 0,.int .i64 0],true⟩]):=LH (by simpa using HM.out);clear HM;go_wp2_with (refine Qag Qib HM1.out 0 rfl rfl rfl rfl rfl ?_)
 refine (HDa.out _).mono ?_;rintro e w2 ⟨rfl,hb2⟩;have HM2:=LH (HM1.out.later hb2);have HM3:=LH (HM2.out.alloc #[Qad ex,.int .i64 x0,.int .i64 x1,.int .i64 x2,.int .i64 x3,.int .i64 x4,.int .i64 x5,.int .i64 x6,.int .i64 x7] 55);clear hb2 HM1;go_upto_region 2 with fail;obtain ⟨q5,hq5⟩:∃q,q=w2.heap.size:=⟨_,rfl⟩
 rw [← hq5] at HM3 ⊢;generalize w2.alloc _=w3 at *;clear hq5 HM2;have HM3':Hid (Mem w w3 [⟨q1,113,[Qad a0,Qad a1,Qad a2,Qad a3,Qad a4,Qad a5,Qad a6,Qad a7,Qad a8,Qad a9,Qad a10,Qad a11,Qad a12,Qad a13,Qad a14,Qad a15],true⟩,⟨q2,113,[Qad b0,Qad b1,Qad b2,Qad b3,Qad b4,Qad b5,Qad b6,Qad b7,Qad b8,Qad b9,Qad b10,Qad b11,Qad b12,Qad b13,Qad b14,Qad b15],true⟩,⟨q3,55,[.int .u64 0,.int .i64 0,.int .i64 0,.int .i64 0,.int .i64 0,.int .i64 0,.int .i64 0,.int .i64 0,.int .i64 0],true⟩,⟨q5,55,[Qad ex,.int .i64 x0,.int .i64 x1,.int .i64 x2,.int .i64 x3,.int .i64 x4,.int .i64 x5,.int .i64 x6,.int .i64 x7],true⟩]):=LH (by simpa using HM3.out);clear HM3;go_wp2_with (refine Qag Qib HM3'.out 1 rfl rfl rfl rfl rfl ?_)
 refine (HDb.out _).mono ?_;rintro e w4 ⟨rfl,hb4⟩;have HM4:=LH (HM3'.out.later hb4);have HM5:=LH (HM4.out.alloc #[Qad ey,.int .i64 y0,.int .i64 y1,.int .i64 y2,.int .i64 y3,.int .i64 y4,.int .i64 y5,.int .i64 y6,.int .i64 y7] 55);clear hb4 HM3';go_upto_region 3 with fail;obtain ⟨q6,hq6⟩:∃q,q=w4.heap.size:=⟨_,rfl⟩
 rw [← hq6] at HM5 ⊢;generalize w4.alloc _=w5 at *;clear hq6 HM4;have HM6:Hid (Mem w w5 [⟨q1,113,[Qad a0,Qad a1,Qad a2,Qad a3,Qad a4,Qad a5,Qad a6,Qad a7,Qad a8,Qad a9,Qad a10,Qad a11,Qad a12,Qad a13,Qad a14,Qad a15],true⟩,⟨q2,113,[Qad b0,Qad b1,Qad b2,Qad b3,Qad b4,Qad b5,Qad b6,Qad b7,Qad b8,Qad b9,Qad b10,Qad b11,Qad b12,Qad b13,Qad b14,Qad b15],true⟩,⟨q3,55,[.int .u64 0,.int .i64 0,.int .i64 0,.int .i64 0,.int .i64 0,.int .i64 0,.int .i64 0,.int .i64 0,.int .i64 0],true⟩,⟨q5,55,[Qad ex,.int .i64 x0,.int .i64 x1,.int .i64 x2,.int .i64 x3,.int .i64 x4,.int .i64 x5,.int .i64 x6,.int .i64 x7],true⟩,⟨q6,55,[Qad ey,.int .i64 y0,.int .i64 y1,.int .i64 y2,.int .i64 y3,.int .i64 y4,.int .i64 y5,.int .i64 y6,.int .i64 y7],true⟩]):=LH (by simpa using HM5.out);clear HM5;have cx0:=HM6.out.cell 3 0 rfl rfl;have cy0:=HM6.out.cell 4 0 rfl rfl
 by_cases hx:cx=0
 ·by_cases hy:cy=0
  ·by_cases hg:ey≤ex
   ·have HF:=LH (fun w' h=>HX.out w' hx (.inr hg) h);subst hx hy;have hgd:decide ((ex:Int)<(ey:Int))=false:=by simp;exact hg
    go_wp2_with (first | (refine Qag Qek HM6.out 3 rfl rfl rfl rfl rfl ?_) | (refine Qaa Qek HM6.out 2 rfl rfl rfl rfl rfl rfl rfl rfl ?_;intro w6 h6 ht6;have H6:=LH h6;clear h6 ht6))
    refine bodyPost_ret (Qac (p:=4) (u:=5) rfl _ _ _ _ _ _ _ rfl (H6.out.exact 2 rfl) Tryz.underlying55 rfl (by kernel_rfl)) rfl ?_;exact HF.out _ H6.out.below
   ·have HF:=LH (fun w' h=>HY.out w' (fun hh=>hh.2.elim (fun h=>h hy) hg) hy h);subst hx hy;have hgd:decide ((ex:Int)<(ey:Int))=true:=by simp;omega
    go_wp2_with (first | (refine Qag Qek HM6.out 4 rfl rfl rfl rfl rfl ?_) | (refine Qaa Qek HM6.out 2 rfl rfl rfl rfl rfl rfl rfl rfl ?_;intro w6 h6 ht6;have H6:=LH h6;clear h6 ht6))
    refine bodyPost_ret (Qac (p:=4) (u:=5) rfl _ _ _ _ _ _ _ rfl (H6.out.exact 2 rfl) Tryz.underlying55 rfl (by kernel_rfl)) rfl ?_;exact HF.out _ H6.out.below
  ·have HF:=LH (fun w' h=>HX.out w' hx (.inl hy) h);subst hx;have e1:(cy == 0)=false:=by rw [beq_eq_false_iff_ne];exact hy
   clear hy;go_wp2_with (first | (refine Qag Qek HM6.out 3 rfl rfl rfl rfl rfl ?_) | (refine Qaa Qek HM6.out 2 rfl rfl rfl rfl rfl rfl rfl rfl ?_;intro w6 h6 ht6;have H6:=LH h6;clear h6 ht6))
   refine bodyPost_ret (Qac (p:=4) (u:=5) rfl _ _ _ _ _ _ _ rfl (H6.out.exact 2 rfl) Tryz.underlying55 rfl (by kernel_rfl)) rfl ?_;exact HF.out _ H6.out.below
 ·have e3:(cx == 0)=false:=by rw [beq_eq_false_iff_ne];exact hx
  by_cases hy:cy=0
  ·have HF:=LH (fun w' h=>HY.out w' (fun hh=>hx hh.1) hy h);subst hy;clear hx;go_wp2_with (first | (refine Qag Qek HM6.out 4 rfl rfl rfl rfl rfl ?_) | (refine Qaa Qek HM6.out 2 rfl rfl rfl rfl rfl rfl rfl rfl ?_;intro w6 h6 ht6;have H6:=LH h6;clear h6 ht6))
   refine bodyPost_ret (Qac (p:=4) (u:=5) rfl _ _ _ _ _ _ _ rfl (H6.out.exact 2 rfl) Tryz.underlying55 rfl (by kernel_rfl)) rfl ?_;exact HF.out _ H6.out.below
  ·have HF:=LH (fun w' h=>HZ.out w' (fun hh=>hx hh.1) hy h);have e1:(cy == 0)=false:=by rw [beq_eq_false_iff_ne];exact hy
   clear hx hy;go_wp2_with (first | (refine Qaa Qek HM6.out 2 rfl rfl rfl rfl rfl rfl rfl rfl ?_;intro w6 h6 ht6;have H6:=LH h6;clear h6 ht6))
   refine bodyPost_ret (Qac (p:=4) (u:=5) rfl _ _ _ _ _ _ _ rfl (H6.out.exact 2 rfl) Tryz.underlying55 rfl (by kernel_rfl)) rfl ?_;exact HF.out _ H6.out.below
def Qbo (S:Dev):Nat × Nat × Int:=if (Qid (Qas S 0 8)).2.2≠0∨512*(Qid (Qas S 0 8)).1≠S.cache.length then (0,0,20) else Qid (Qas S 0 8)
theorem Qln (ws:List Nat):(Qid ws).1≤256:=by
 unfold Qid
 split
 ·show 0≤256;omega
 ·split
  ·show 0≤256;omega
  ·split
   ·next h=>exact h.2.1
   ·show 0≤256;omega
theorem Jbv {w:World} {F:Qb0} {S:Dev} (h:Qa7 w F S) :
  Calls Tryz.prog 44 #[Qei F] w (Qng (Qbo S) w):=by
 have HP:Hid (∀(n id:Nat) (e:Int) w',(n,id,e)=Qbo S→Below w.heap.size w w'→Qng (Qbo S) w (.returned (.tuple #[.agg #[.int .i64 (n:Int),Qad id],.int .i64 e])) w'):=LH (fun n id e w' h1 h2=>by rw [← h1];exact ⟨rfl,h2⟩);generalize hPo:Qng (Qbo S) w=Post at *;clear hPo;have HM:=LH (Mem.one w #[.int .i64 0,.int .u64 0] 42);have HD:=LH (h.below HM.out.below);have hcl:=h.small;have HSm:=Qln (Qas S 0 8);have HDc:=LH (fun w=>Quf (Qas S 0 8) (Qbl S 0 8) (Qcw h.u64C 0 8) w);have HR:Hid (Qbo S=if (Qid (Qas S 0 8)).2.2≠0∨512*(Qid (Qas S 0 8)).1≠S.cache.length then (0,0,20) else Qid (Qas S 0 8)):=LH rfl;generalize Qid (Qas S 0 8)=t at *;obtain ⟨n,id,e⟩:=t;dsimp only at HSm HR;clear h;go_enter Tryz.func44,Tryz.ntmps44;go_upto_region 1 with fail;obtain ⟨q2,hq2⟩:∃q,q=w.heap.size:=⟨_,rfl⟩
 rw [← hq2] at HM ⊢;generalize w.alloc _=w1 at *;clear hq2;go_wp2_with fail;refine (Qzu HD.out).mono ?_;rintro e2 w2 ⟨rfl,hb2⟩;have HM2:=LH (HM.out.later hb2);have HD2:=LH (HD.out.below hb2);clear hb2;go_wp2_with fail;refine (HDc.out w2).mono ?_;rintro e2 w3 ⟨rfl,hb3⟩;dsimp only;have HM3:=LH ((HM2.out.later hb3).alloc #[.int .i64 (n:Int),Qad id] 42);have HD3:=LH ((HD2.out.below hb3).below (Qaf w3 (.cells #[.int .i64 (n:Int),Qad id] 42)));clear hb3 HM2 HD2 HM HD;go_upto_region 2 with fail;obtain ⟨q4,hq4⟩:∃q,q=w3.heap.size:=⟨_,rfl⟩
 rw [← hq4] at HM3 ⊢;generalize w3.alloc _=w4 at *;clear hq4;have c0:=HM3.out.cell 1 0 rfl rfl
 by_cases he:e=0
 case neg =>
  have he':(e != 0)=true:=by simpa using he
  have HF:=LH (fun w' h=>HP.out 0 0 20 w' (by rw [HR.out,if_pos (.inl he)]) h);clear he;go_wp2_with (refine Qaa Qml HM3.out 0 rfl rfl rfl rfl rfl rfl rfl rfl ?_;intro w6 h6 ht6;have H6:=LH h6;clear h6 ht6)
  refine bodyPost_ret (Qac (p:=2) (u:=3) rfl _ _ _ _ _ _ _ rfl (H6.out.exact 0 rfl) Tryz.underlying42 rfl (by kernel_rfl)) rfl ?_;exact HF.out _ H6.out.below
 subst he;go_wp2_with fail;refine (Qgt (n:Int) w4 (by omega) (by omega)).mono ?_;rintro e2 w5 ⟨rfl,hb5⟩;have HM5:=LH (HM3.out.later hb5);have HD5:=LH (HD3.out.below hb5);have hnI:(n:Int)*512=((512*n:Nat):Int):=by omega
 rw [hnI];obtain ⟨N,hN⟩:∃N,N=512*n:=⟨_,rfl⟩
 rw [← hN] at HR ⊢;obtain ⟨l,hl⟩:∃l,l=S.cache.length:=⟨_,rfl⟩
 rw [← hl] at HR;have HLn:=LH hl;clear hb5 hnI hN c0 hl;go_wp2_with fail;refine (Qc0 HD5.out).mono ?_;rintro e2 w6 ⟨rfl,rfl⟩;rw [← HLn.out]
 by_cases hc:N=l
 case neg =>
  have hc':((N:Int) == (l:Int))=false:=by rw [beq_eq_false_iff_ne];omega
  have HF:=LH (fun w' h=>HP.out 0 0 20 w' (by rw [HR.out,if_pos (.inr hc)]) h);clear hc;go_wp2_with (refine Qaa Qml HM5.out 0 rfl rfl rfl rfl rfl rfl rfl rfl ?_;intro w6 h6 ht6;have H6:=LH h6;clear h6 ht6)
  refine bodyPost_ret (Qac (p:=2) (u:=3) rfl _ _ _ _ _ _ _ rfl (H6.out.exact 0 rfl) Tryz.underlying42 rfl (by kernel_rfl)) rfl ?_;exact HF.out _ H6.out.below
 have HF:=LH (fun w' h=>HP.out n id 0 w' (by rw [HR.out,if_neg (by rintro (h | h);exact h rfl;exact h hc)]) h);subst hc;go_wp2_with (first
  | (refine Qag Qml HM5.out 1 rfl rfl rfl rfl rfl ?_)
  | (refine Qaa Qml HM5.out 0 rfl rfl rfl rfl rfl rfl rfl rfl ?_;intro w6 h6 ht6;have H6:=LH h6;clear h6 ht6))
 refine bodyPost_ret (Qac (p:=2) (u:=3) rfl _ _ _ _ _ _ _ rfl (H6.out.exact 0 rfl) Tryz.underlying42 rfl (by kernel_rfl)) rfl ?_;exact HF.out _ H6.out.below
theorem Qqg (i:Nat) (hi:i≤1) (w:World) :
  Calls Tryz.prog 141 #[.int .i64 (i:Int)] w fun e w'=>e=.returned (.int .i64 ((64+64*i:Nat):Int))∧w=w':=by
 rcases (by omega:i=0∨i=1) with rfl | rfl
 ·have hb:bits .and .i64 0 1=0:=by decide
  rw [show ((0:Nat):Int)=0 from rfl];go_enter Tryz.func141,Tryz.ntmps141;go_wp2_with fail
  go_ret
  exact ⟨rfl,rfl⟩
 ·have hb:bits .and .i64 1 1=1:=by decide
  rw [show ((1:Nat):Int)=1 from rfl];go_enter Tryz.func141,Tryz.ntmps141;go_wp2_with fail
  go_ret
  exact ⟨rfl,rfl⟩
theorem Qyq {w:World} {F:Qb0} {S:Dev} (h:Qa7 w F S) (i:Nat) (hi:i≤1) :
  Calls Tryz.prog 92 #[Qei F,.int .i64 (i:Int)] w fun e w'=>e=.returned (Qgb (Qas S (64+64*i) 16))∧Below w.heap.size w w':=by
 obtain ⟨a,ha⟩:∃a,a=64+64*i:=⟨_,rfl⟩
 have hsl:=Qqg i hi;rw [← ha] at hsl ⊢;have HSl:=LH hsl;have ha1:a≤128:=by omega
 have HP:Hid (∀w',Below w.heap.size w w'→(fun e w'=>e=Ending.returned (Qgb (Qas S a 16))∧Below w.heap.size w w') (.returned (Qgb (Qas S a 16))) w'):=LH (fun w' h=>⟨rfl,h⟩);generalize (fun e w'=>e=Ending.returned (Qgb (Qas S a 16))∧Below w.heap.size w w')=Post at *;obtain ⟨f,hf⟩:∃f:Nat→Nat,f=fun k=>Qdr S.cache ((a+k:Nat):Int):=⟨_,rfl⟩
 have HAll:Hid (Qas S a 16=Qck 16 f 16):=LH (by rw [Qit,hf];rfl);have HG:Hid (∀(k:Nat) w',Below w.heap.size w w'→Calls Tryz.prog 59 #[Qei F,.int .i64 ((a:Int)+(k:Int))] w' (fun e w2=>e=.returned (Qad (f k))∧w'=w2)):=LH (fun k w' hb=>by
  rw [hf];have:=Qio (h.below hb) ((a:Int)+(k:Int))
  simpa using this)
 have HM:=LH (Mem.two w ((Qck 16 f 0).map Qad).toArray 113 ((Qck 16 f 0).map Qad).toArray 113);clear h hf hsl ha;go_enter Tryz.func92,Tryz.ntmps92;go_upto_region 2 with fail;rw [show (#[.int .u64 0,.int .u64 0,.int .u64 0,.int .u64 0,.int .u64 0,.int .u64 0,.int .u64 0,.int .u64 0,.int .u64 0,.int .u64 0,.int .u64 0,.int .u64 0,.int .u64 0,.int .u64 0,.int .u64 0,.int .u64 0]:Array Value)=((Qck 16 f 0).map Qad).toArray from rfl];obtain ⟨q2,hq2⟩:∃q,q=w.heap.size:=⟨_,rfl⟩
 obtain ⟨q3,hq3⟩:∃q,q=w.heap.size+1:=⟨_,rfl⟩
 rw [← hq3,← hq2] at HM ⊢;generalize (w.alloc _).alloc _=w1 at *;clear hq2 hq3;have HM0:Hid (Mem w w1 [⟨q2,113,(Qck 16 f 0).map Qad,true⟩,⟨q3,113,(Qck 16 f 0).map Qad,true⟩]):=LH (by simpa using HM.out);clear HM;go_wp2_with fail
 go_loopw [7] (fun iv wr=>∃k:Nat,k≤16∧iv=.int .i64 (k:Int)∧Hid (Mem w wr [⟨q2,113,(Qck 16 f 0).map Qad,true⟩,⟨q3,113,(Qck 16 f k).map Qad,true⟩])) (fun iv _=>16-(intOf iv).toNat)
 case atStart=>exact ⟨0,by omega,rfl,HM0⟩
 case round =>
  obtain ⟨k,hk,rfl,HM⟩:=hrel
  by_cases hlt:k<16
  ·have hlt':(k:Int)<16:=by omega
   obtain ⟨u,hu⟩:∃u,((Qck 16 f k).map Qad)[k]?=some u:=⟨_,GE (by rw [List.length_map,Qba];exact hlt)⟩
   have HS:Hid (Mem w (wr.setCell ⟨q3,k,none⟩ (Qad (f k))) [⟨q2,113,(Qck 16 f 0).map Qad,true⟩,⟨q3,113,(Qck 16 f (k+1)).map Qad,true⟩]):=LH (by
    have:=HM.out.set 1 k (Qad (f k)) rfl (by rw [List.length_map,Qba];exact hlt);rw [← Qch f hlt,List.map_set]
    exact this)
   have c0:wr.cell? ⟨q3,k,none⟩=some u:=HM.out.cell 1 k rfl hu;have f0:=HM.out.frozen 1 k rfl;have HGk:=LH (HG.out k wr HM.out.below);clear hu;go_wp2_with fail;refine (HSl.out _).mono ?_;rintro e w2 ⟨rfl,rfl⟩;go_wp2_with fail;refine HGk.out.mono ?_;rintro e w2 ⟨rfl,rfl⟩;go_wp2_with fail;exact ⟨⟨k+1,by omega,Qb2 (by omega),HS⟩,by simp [intOf];omega⟩
  ·have hi8:k=16:=by omega
   have hltd:decide ((k:Int)<16)=false:=by simp;omega
   rw [hi8,← HAll.out] at HM;clear hi8;go_wp2_with (first
    | (refine Qag Qib HM.out 1 rfl rfl rfl rfl (by rw [List.length_map,Qbl];rfl) ?_)
    | (refine Qaa Qib HM.out 0 rfl rfl rfl rfl rfl (by simp [Qbl]) (by simp [Qbl,Qba]) (by simp [Value.oneCell']) ?_;intro w6 h6 ht6;have H6:=LH h6;clear h6 ht6))
   refine bodyPost_ret (results_cell_row (p:=4) rfl _ _ _ _ _ _ _ rfl (H6.out.exact 0 rfl) Tryz.underlying113 rfl (by kernel_rfl)) rfl ?_;exact HP.out _ H6.out.below
theorem Qnm {w:World} {v:Value} {S:Dev} {m:Nat} (h:RAt w v m S.ref) (hm:m≤100000) (a:Nat) (ha1:a≤128) :
  Calls Tryz.prog 99 #[v,.int .i64 (a:Int)] w fun e w'=>e=.returned (Qgb (Qas S a 16))∧Below w.heap.size w w':=by
 have HP:Hid (∀w',Below w.heap.size w w'→(fun e w'=>e=Ending.returned (Qgb (Qas S a 16))∧Below w.heap.size w w') (.returned (Qgb (Qas S a 16))) w'):=LH (fun w' h=>⟨rfl,h⟩);generalize (fun e w'=>e=Ending.returned (Qgb (Qas S a 16))∧Below w.heap.size w w')=Post at *;obtain ⟨f,hf⟩:∃f:Nat→Nat,f=fun k=>Qdr S.cache ((a+k:Nat):Int):=⟨_,rfl⟩
 have HAll:Hid (Qas S a 16=Qck 16 f 16):=LH (by rw [Qit,hf];rfl);obtain ⟨an,cn,al,cl,aw,cw,ad,cd,ap,cp,rfl,hA,_⟩:=h.ex;have hlN:S.cache.length=8*m:=h.lenN;have HG:Hid (∀(k:Nat) w',Below w.heap.size w w'→Calls Tryz.prog 48 #[.slice an m cn,.int .i64 ((a:Int)+(k:Int))] w' (fun e w2=>e=.returned (Qad (f k))∧w'=w2)):=LH (fun k w' hb=>by
  rw [hf];have:=Qg8 an m cn S.cache w' (hA.below hb NR) hlN (by omega) ((a:Int)+(k:Int))
  simpa using this)
 obtain ⟨u1,hu1⟩:∃u:Value,u=.slice an m cn:=⟨_,rfl⟩
 obtain ⟨u2,hu2⟩:∃u:Value,u=.slice al m cl:=⟨_,rfl⟩
 obtain ⟨u3,hu3⟩:∃u:Value,u=.slice aw m cw:=⟨_,rfl⟩
 obtain ⟨u4,hu4⟩:∃u:Value,u=.slice ad m cd:=⟨_,rfl⟩
 obtain ⟨u5,hu5⟩:∃u:Value,u=.slice ap m cp:=⟨_,rfl⟩
 rw [← hu1] at HG;rw [← hu1,← hu2,← hu3,← hu4,← hu5] at *;obtain ⟨n6,hn6⟩:∃n,n=S.ref.steps:=⟨_,rfl⟩
 obtain ⟨n7,hn7⟩:∃n,n=S.ref.fuse:=⟨_,rfl⟩
 obtain ⟨n8,hn8⟩:∃n,n=S.ref.dead:=⟨_,rfl⟩
 rw [← hn6,← hn7,← hn8] at *;have HM:=LH ((Mem.two w #[u1,u2,u3,u4,u5,.int .i64 n6,.int .i64 n7,.bool n8] 38 ((Qck 16 f 0).map Qad).toArray 113).alloc ((Qck 16 f 0).map Qad).toArray 113);clear h hf hA hlN hu1 hu2 hu3 hu4 hu5 hn6 hn7 hn8;go_enter Tryz.func99,Tryz.ntmps99;go_upto_region 2 with fail;rw [show (#[.int .u64 0,.int .u64 0,.int .u64 0,.int .u64 0,.int .u64 0,.int .u64 0,.int .u64 0,.int .u64 0,.int .u64 0,.int .u64 0,.int .u64 0,.int .u64 0,.int .u64 0,.int .u64 0,.int .u64 0,.int .u64 0]:Array Value)=((Qck 16 f 0).map Qad).toArray from rfl];obtain ⟨q1,hq1⟩:∃q,q=w.heap.size:=⟨_,rfl⟩
 obtain ⟨q2,hq2⟩:∃q,q=w.heap.size+1:=⟨_,rfl⟩
 obtain ⟨q3,hq3⟩:∃q,q=w.heap.size+1+1:=⟨_,rfl⟩
 simp only [World.size_alloc] at HM
 rw [← hq3,← hq2,← hq1] at HM ⊢;generalize ((w.alloc _).alloc _).alloc _=w1 at *;clear hq1 hq2 hq3;have HM0:Hid (Mem w w1 [⟨q1,38,[u1,u2,u3,u4,u5,.int .i64 n6,.int .i64 n7,.bool n8],true⟩,⟨q2,113,(Qck 16 f 0).map Qad,true⟩,⟨q3,113,(Qck 16 f 0).map Qad,true⟩]):=LH (by simpa using HM.out);clear HM;go_wp2_with fail
 go_loopw [6] (fun iv wr=>∃k:Nat,k≤16∧iv=.int .i64 (k:Int)∧Hid (Mem w wr [⟨q1,38,[u1,u2,u3,u4,u5,.int .i64 n6,.int .i64 n7,.bool n8],true⟩,⟨q2,113,(Qck 16 f 0).map Qad,true⟩,⟨q3,113,(Qck 16 f k).map Qad,true⟩])) (fun iv _=>16-(intOf iv).toNat)
 case atStart=>exact ⟨0,by omega,rfl,HM0⟩
 case round =>
  obtain ⟨k,hk,rfl,HM⟩:=hrel
  by_cases hlt:k<16
  ·have hlt':(k:Int)<16:=by omega
   obtain ⟨u,hu⟩:∃u,((Qck 16 f k).map Qad)[k]?=some u:=⟨_,GE (by rw [List.length_map,Qba];exact hlt)⟩
   have HS:Hid (Mem w (wr.setCell ⟨q3,k,none⟩ (Qad (f k))) [⟨q1,38,[u1,u2,u3,u4,u5,.int .i64 n6,.int .i64 n7,.bool n8],true⟩,⟨q2,113,(Qck 16 f 0).map Qad,true⟩,⟨q3,113,(Qck 16 f (k+1)).map Qad,true⟩]):=LH (by
    have:=HM.out.set 2 k (Qad (f k)) rfl (by rw [List.length_map,Qba];exact hlt);rw [← Qch f hlt,List.map_set]
    exact this)
   have c0:wr.cell? ⟨q3,k,none⟩=some u:=HM.out.cell 2 k rfl hu;have f0:=HM.out.frozen 2 k rfl;have c1:=HM.out.cell 0 0 rfl rfl;have HGk:=LH (HG.out k wr HM.out.below);clear hu;go_wp2_with fail;refine HGk.out.mono ?_;rintro e w2 ⟨rfl,rfl⟩;go_wp2_with fail;exact ⟨⟨k+1,by omega,Qb2 (by omega),HS⟩,by simp [intOf];omega⟩
  ·have hi8:k=16:=by omega
   have hltd:decide ((k:Int)<16)=false:=by simp;omega
   rw [hi8,← HAll.out] at HM;clear hi8;go_wp2_with (first
    | (refine Qag Qib HM.out 2 rfl rfl rfl rfl (by rw [List.length_map,Qbl];rfl) ?_)
    | (refine Qaa Qib HM.out 1 rfl rfl rfl rfl rfl (by simp [Qbl]) (by simp [Qbl,Qba]) (by simp [Value.oneCell']) ?_;intro w6 h6 ht6;have H6:=LH h6;clear h6 ht6))
   refine bodyPost_ret (results_cell_row (p:=4) rfl _ _ _ _ _ _ _ rfl (H6.out.exact 1 rfl) Tryz.underlying113 rfl (by kernel_rfl)) rfl ?_;exact HP.out _ H6.out.below
theorem Jcp:Agg Tryz.prog 24 #[.int .i64 0,.int .i64 0,.int .i64 0,.int .i64 0,.int .i64 0,.int .i64 0,.int .i64 0,.int .i64 0]:=⟨⟨_,Tryz.underlying24,rfl⟩,by kernel_rfl⟩
def Jg6 (rs:List Int):Value:=.agg (rs.map (Value.int .i64)).toArray
theorem Jea (x y:Nat × List Int × Int) (hx:x.1<18446744073709551616∧x.2.1.length=8) (hy:y.1<18446744073709551616∧y.2.1.length=8) :
  (Qff x y).1<18446744073709551616∧(Qff x y).2.1.length=8∧(Qff x y).2.2.1≤1∧0≤(Qff x y).2.2.1:=by
 unfold Qff
 split
 ·exact ⟨hx.1,hx.2,by simp,by simp⟩
 ·split
  ·exact ⟨hy.1,hy.2,by simp,by simp⟩
  ·exact ⟨by simp,rfl,by simp,by simp⟩
def Qa5 (S:Dev):Nat × List Int × Int × Bool:=Qff (Qdv (Qas S 64 16)) (Qdv (Qas S 128 16))
theorem Qfs {S:Dev} (hu:∀z∈S.cache,z<18446744073709551616):(Qa5 S).1<18446744073709551616∧(Qa5 S).2.1.length=8∧(Qa5 S).2.2.1≤1∧0≤(Qa5 S).2.2.1:=by
 have ha:=Qil (Qas S 64 16) (Qcw hu 64 16);have hb:=Qil (Qas S 128 16) (Qcw hu 128 16);exact Jea _ _ ⟨ha.1,ha.2.1⟩ ⟨hb.1,hb.2.1⟩
def Jhm (F:Qb0) (n:Nat) (rs:List Int) (i:Int):List Value:=Qei F :: Qad n :: (rs.map (Value.int .i64) ++ .int .i64 i :: rs.map (Value.int .i64))
def Qdb (w:World) (g:Nat) (F:Qb0) (n:Nat) (rs:List Int) (i:Int):Prop:=w.heap[g]?=some (.cells (Jhm F n rs i).toArray 156 (0,0))
theorem Qdb.below {w w':World} {g n:Nat} {F:Qb0} {rs:List Int} {i:Int} {B:Nat} (h:Qdb w g F n rs i) (hb:Below B w w') (hB:w.heap.size≤B):Qdb w' g F n rs i:=by
 have hlt:g<w.heap.size:=by
  rcases Nat.lt_or_ge g w.heap.size with c | c
  ·exact c
  ·unfold Qdb at h;rw [Array.getElem?_eq_none c] at h
   cases h
 exact (hb.block g (Nat.lt_of_lt_of_le hlt hB)).trans h
theorem Qdb.row {w:World} {g n:Nat} {F:Qb0} {rs:List Int} {i:Int} (h:Qdb w g F n rs i):Qa6 w g 156 (Jhm F n rs i):=⟨_,h,[],by simp⟩
def Qw1 (F : Qb0) (r : Nat × List Int × Int × Bool) (w : World) : Ending → World → Prop := fun e w' => Below w.heap.size w w' ∧
  ((r.2.2.2 = true ∧ ∃ g, e = .returned (.tuple #[.pointer (some ⟨g, 0, none⟩), .int .i64 0]) ∧ w.heap.size ≤ g ∧ Qdb w' g F r.1 r.2.1 r.2.2.1) ∨
   (r.2.2.2 = false ∧ e = .returned (.tuple #[.pointer none, .int .i64 23])))
theorem Qxn {w:World} {F:Qb0} {S:Dev} (h:Qa7 w F S) :
  Calls Tryz.prog 46 #[Qei F] w (Qw1 F (Qa5 S) w):=by
 have HRd:=LH (fun (i:Nat) hi w' (hb:Below w.heap.size w w')=>Qyq (h.below hb) i hi);have hC:=Qsd (Qas S 64 16) (Qas S 128 16) (Qbl _ _ _) (Qbl _ _ _) (Qcw h.u64C 64 16) (Qcw h.u64C 128 16);have hok:=Qfs h.u64C;obtain ⟨⟨n,rs,i,b⟩,hX⟩:∃X,X=Qa5 S:=⟨_,rfl⟩
 rw [show Qff (Qdv (Qas S 64 16)) (Qdv (Qas S 128 16))=(n,rs,i,b) from hX.symm] at hC;rw [← hX] at hok ⊢;obtain ⟨hn,hl,hi1,hi0⟩:=hok;simp only [] at hn hl hi1 hi0
 have HA:=LH (HRd.out 0 (by omega));have HB:=LH (HRd.out 1 (by omega));simp only [Nat.mul_zero,Nat.mul_one,Nat.add_zero,Nat.reduceAdd] at HA HB
 rw [show ((0:Nat):Int)=0 from rfl] at HA;rw [show ((1:Nat):Int)=1 from rfl] at HB;obtain ⟨xs,hxs⟩:∃xs,xs=Qas S 64 16:=⟨_,rfl⟩
 obtain ⟨ys,hys⟩:∃ys,ys=Qas S 128 16:=⟨_,rfl⟩
 rw [← hxs] at HA hC;rw [← hys] at HB hC;obtain ⟨xa,hxa⟩:∃x,x=Qgb xs:=⟨_,rfl⟩
 obtain ⟨ya,hya⟩:∃x,x=Qgb ys:=⟨_,rfl⟩
 rw [← hxa] at HA hC;rw [← hya] at HB hC;have HC:=LH hC;have HY:Hid (∀g w',b=true→Below w.heap.size w w'→w.heap.size≤g→Qdb w' g F n rs i→Qw1 F (n,rs,i,b) w (.returned (.tuple #[.pointer (some ⟨g,0,none⟩),.int .i64 0])) w'):=LH (fun g w' h1 h2 h3 h4=>⟨h2,.inl ⟨h1,g,rfl,h3,h4⟩⟩);have HN:Hid (∀w',b=false→Below w.heap.size w w'→Qw1 F (n,rs,i,b) w (.returned (.tuple #[.pointer none,.int .i64 23])) w'):=LH (fun w' h1 h2=>⟨h2,.inr ⟨h1,rfl⟩⟩);generalize Qw1 F (n,rs,i,b) w=Post at *;clear hX HRd hC hxs hys hxa hya h;obtain ⟨r0,r1,r2,r3,r4,r5,r6,r7,rfl⟩:=Qcb hl;clear hl;unfold SlC at HC;rw [show Qbg (n,[r0,r1,r2,r3,r4,r5,r6,r7],i,b).1 (n,[r0,r1,r2,r3,r4,r5,r6,r7],i,b).2.1=.agg #[Qad n,.int .i64 r0,.int .i64 r1,.int .i64 r2,.int .i64 r3,.int .i64 r4,.int .i64 r5,.int .i64 r6,.int .i64 r7] from rfl] at HC;dsimp only at HC;go_enter Tryz.func46,Tryz.ntmps46;go_wp2_with fail;refine (HA.out w (Below.refl _ _)).mono ?_;rintro e w1 ⟨rfl,hb1⟩;have HB1:=LH hb1;clear hb1;go_wp2_with fail;refine (HB.out w1 HB1.out).mono ?_;rintro e w2 ⟨rfl,hb2⟩;have HB2:=LH (HB1.out.trans (hb2.mono HB1.out.size));clear hb2;go_wp2_with fail;refine (HC.out w2).mono ?_;rintro e w3 ⟨rfl,hb3⟩;have HB3:=LH (HB2.out.trans (hb3.mono HB2.out.size));clear hb3;have HM:=LH (((Mem.start w).later HB3.out).alloc #[Qad n,.int .i64 r0,.int .i64 r1,.int .i64 r2,.int .i64 r3,.int .i64 r4,.int .i64 r5,.int .i64 r6,.int .i64 r7] 154);go_upto_region 2 with fail;obtain ⟨q,hq⟩:∃q,q=w3.heap.size:=⟨_,rfl⟩
 rw [← hq] at HM ⊢;generalize w3.alloc _=w4 at *;clear hq HB1 HB2 HB3;have HM4:Hid (Mem w w4 [⟨q,154,[Qad n,.int .i64 r0,.int .i64 r1,.int .i64 r2,.int .i64 r3,.int .i64 r4,.int .i64 r5,.int .i64 r6,.int .i64 r7],true⟩]):=LH (by simpa using HM.out);clear HM
 cases b
 case false =>
  go_wp2_with fail;exact HN.out _ (by simp) HM4.out.below
 have HM5:=LH (HM4.out.alloc #[Qei F,Qad n,.int .i64 r0,.int .i64 r1,.int .i64 r2,.int .i64 r3,.int .i64 r4,.int .i64 r5,.int .i64 r6,.int .i64 r7,.int .i64 i,.int .i64 r0,.int .i64 r1,.int .i64 r2,.int .i64 r3,.int .i64 r4,.int .i64 r5,.int .i64 r6,.int .i64 r7] 156);go_wp2_with (first
  | (refine Qag Qhy HM4.out 0 rfl rfl rfl rfl rfl ?_)
  | (refine Qcf Jcp [.int .i64 r0,.int .i64 r1,.int .i64 r2,.int .i64 r3,.int .i64 r4,.int .i64 r5,.int .i64 r6,.int .i64 r7] (g:=q) (off:=1) (fun j v hv=>HM4.out.cell 0 (1+j) rfl (by rw [Nat.add_comm];exact hv)) rfl rfl rfl rfl ?_))
 exact HY.out _ _ (by simp) HM5.out.below (HM5.out.gbase 1 rfl) (HM5.out.exact 1 rfl)
theorem Qj6 {w:World} {g n:Nat} {F:Qb0} {rs:List Int} {i:Int} (h:Qdb w g F n rs i) (hl:rs.length=8) :
  Calls Tryz.prog 26 #[.pointer (some ⟨g,0,none⟩)] w fun e w'=>e=.returned (Jg6 rs)∧Below w.heap.size w w':=by
 obtain ⟨r0,r1,r2,r3,r4,r5,r6,r7,rfl⟩:=Qcb hl;have HP:Hid (∀w',Below w.heap.size w w'→(fun e w'=>e=Ending.returned (Jg6 [r0,r1,r2,r3,r4,r5,r6,r7])∧Below w.heap.size w w') (.returned (.agg #[.int .i64 r0,.int .i64 r1,.int .i64 r2,.int .i64 r3,.int .i64 r4,.int .i64 r5,.int .i64 r6,.int .i64 r7])) w'):=LH (fun w' h=>⟨rfl,h⟩);generalize (fun e w'=>e=Ending.returned (Jg6 [r0,r1,r2,r3,r4,r5,r6,r7])∧Below w.heap.size w w')=Post at *;have HM:=LH (Mem.one w #[.int .i64 0,.int .i64 0,.int .i64 0,.int .i64 0,.int .i64 0,.int .i64 0,.int .i64 0,.int .i64 0] 24);have HC:Hid (∀(j:Nat) v,[Value.int .i64 r0,.int .i64 r1,.int .i64 r2,.int .i64 r3,.int .i64 r4,.int .i64 r5,.int .i64 r6,.int .i64 r7][j]?=some v→(w.alloc (.cells #[.int .i64 0,.int .i64 0,.int .i64 0,.int .i64 0,.int .i64 0,.int .i64 0,.int .i64 0,.int .i64 0] 24)).cell? ⟨g,2+j,none⟩=some v):=LH (fun j v hv=>by
  refine (h.below (Qaf _ _) NR).row.cell ?_;have hj:j<8:=by
   rcases Nat.lt_or_ge j 8 with c | c
   ·exact c
   ·rw [List.getElem?_eq_none (by simpa using c)] at hv
    cases hv
  rcases (by omega:j=0∨j=1∨j=2∨j=3∨j=4∨j=5∨j=6∨j=7) with rfl | rfl | rfl | rfl | rfl | rfl | rfl | rfl <;> exact hv)
 clear h hl;go_enter Tryz.func26,Tryz.ntmps26;go_wp2_with (first
  | (refine Qcf Jcp [.int .i64 r0,.int .i64 r1,.int .i64 r2,.int .i64 r3,.int .i64 r4,.int .i64 r5,.int .i64 r6,.int .i64 r7] (g:=g) (off:=2) HC.out rfl rfl rfl rfl ?_)
  | (refine Qaa Jcp HM.out 0 rfl rfl rfl rfl rfl rfl rfl rfl ?_;intro w6 h6 ht6;have H6:=LH h6;clear h6 ht6))
 refine bodyPost_ret (results_cell_row (p:=2) rfl _ _ _ _ _ _ _ rfl (H6.out.exact 0 rfl) Tryz.underlying24 rfl (by kernel_rfl)) rfl ?_;exact HP.out _ H6.out.below
theorem Qux {w:World} {g n:Nat} {F:Qb0} {rs:List Int} {i:Int} (h:Qdb w g F n rs i) :
  Calls Tryz.prog 61 #[.pointer (some ⟨g,0,none⟩)] w fun e w'=>e=.returned (Qad n)∧w=w':=by
 have c0:w.cell? ⟨g,1,none⟩=some (Qad n):=h.row.cell rfl;clear h;go_enter Tryz.func61,Tryz.ntmps61;go_wp2_with fail
 go_ret
 exact ⟨rfl,rfl⟩
def Dev.stores (S:Dev):List (Nat × Nat)→Qdi
 | []=>⟨S,0⟩
 | p :: l=>if S.storeE (p.1:Int)≠0 then ⟨S.store (p.1:Int) p.2,S.storeE (p.1:Int)⟩ else (S.store (p.1:Int) p.2).stores l
def Qdi.bind (r:Qdi) (f:Dev→Qdi):Qdi:=if r.err≠0 then r else f r.dev
theorem Qb9 (S:Dev) (i x:Nat) (l:List (Nat × Nat)):S.stores ((i,x) :: l)=if S.storeE (i:Int)≠0 then ⟨S.store (i:Int) x,S.storeE (i:Int)⟩ else (S.store (i:Int) x).stores l:=rfl
theorem Qm4:∀ {S:Dev} {N:Nat} (_:S.ok N) (l:List (Nat × Nat)),(S.stores l).dev.ok (N+l.length)
 | S,N,h,[]=>h
 | S,N,h,(i,x) :: l=>by
  rw [Qb9];have h1:=Dev.store_okN h (i:Int) x
  split
  ·exact h1.mono (by simp)
  ·exact (Qm4 h1 l).mono (by simp;omega)
theorem Qdi.bind_ok (r:Dev) (f:Dev→Qdi):(Qdi.mk r 0).bind f=f r:=by unfold Qdi.bind;rw [if_neg (by simp)]
theorem Qdi.bind_err (r:Dev) {e:Int} (h:e≠0) (f:Dev→Qdi):(Qdi.mk r e).bind f=⟨r,e⟩:=by unfold Qdi.bind;rw [if_pos h]
def Qco (r:Qdi) (F:Qb0) (w:World):Ending→World→Prop:=fun e w'=>e=.returned (.int .i64 r.err)∧Qa7 w' F r.dev∧Qam F.list w w'
def upL (a:Nat) (g:Nat→Nat) (k n:Nat):List (Nat × Nat):=(List.range' k (n-k)).map (fun j=>(a+j,g j))
theorem Qwf (a:Nat) (g:Nat→Nat) {k n:Nat} (h:k<n):upL a g k n=(a+k,g k) :: upL a g (k+1) n:=by
 unfold upL;rw [show n-k=(n-(k+1))+1 by omega,List.range'_succ]
 rfl
theorem Jcs (a:Nat) (g:Nat→Nat) {k n:Nat} (h:n≤k):upL a g k n=[]:=by
 unfold upL;rw [show n-k=0 by omega]
 rfl
theorem Qz7 (a:Nat) (g:Nat→Nat) (k n:Nat):(upL a g k n).length=n-k:=by unfold upL;simp
def Dev.writeSuper (S:Dev) (n id:Nat):Qdi :=
 if 2≤n∧n≤256∧512*n=S.cache.length then (S.stores (upL 0 (fun k=>(Qgn n id).getD k 0) 0 8)).bind (fun S=>S.persist 0 8) else ⟨S,26⟩
theorem Qni {n id:Nat} (hn:n<18446744073709551616) (hid:id<18446744073709551616) (k:Nat):(Qgn n id).getD k 0<18446744073709551616:=by
 rw [GD]
 cases h:(Qgn n id)[k]? with
 | none=>simp
 | some x =>
  have hm:=List.mem_of_getElem? h;have hw:=Qb6 (Qjv n id);simp only [Qgn,List.mem_cons,List.not_mem_nil,or_false] at hm
  have hg:Qd4<18446744073709551616:=by decide
  show x<_;rcases hm with rfl | rfl | rfl | rfl | rfl | rfl | rfl | rfl <;> omega
theorem Qyf {w:World} {F:Qb0} {S:Dev} (h:Qa7 w F S) {N:Nat} (hN:N≤900000000) (ho:S.ok N) (n id:Nat) (hn:n≤1000000000) (hid:id<18446744073709551616) :
  Calls Tryz.prog 66 #[Qei F,.agg #[.int .i64 (n:Int),Qad id]] w (Qco (S.writeSuper n id) F w):=by
 have HP:Hid (∀(D:Qdi) w',D=S.writeSuper n id→Qa7 w' F D.dev→Qam F.list w w'→Qco (S.writeSuper n id) F w (.returned (.int .i64 D.err)) w'):=LH (fun D w' h1 h2 h3=>by rw [← h1];exact ⟨rfl,h2,h3⟩);generalize Qco (S.writeSuper n id) F w=Post at *;have HEn:=LH (Qoh n id (by omega) hid);have HLt:=LH (Qni (n:=n) (by omega) hid);obtain ⟨f,hf⟩:∃f:Nat→Nat,f=fun k=>(Qgn n id).getD k 0:=⟨_,rfl⟩
 have HW:Hid (S.writeSuper n id=if 2≤n∧n≤256∧512*n=S.cache.length then (S.stores (upL 0 f 0 8)).bind (fun S=>S.persist 0 8) else ⟨S,26⟩):=LH (by rw [hf];rfl);have HAr:Hid (Qgb (Qgn n id)=.agg #[Qad (f 0),Qad (f 1),Qad (f 2),Qad (f 3),Qad (f 4),Qad (f 5),Qad (f 6),Qad (f 7)]):=LH (by rw [hf];rfl);have HF:Hid (∀k,f k<18446744073709551616):=LH (fun k=>by rw [hf];exact HLt.out k);unfold Qjg at HEn;rw [HAr.out] at HEn;have HD:=LH h;have HO:=LH ho;have HB0:=LH h.mem;clear hf HLt HAr h ho;have HM:=LH ((Mem.two w #[.int .i64 (n:Int),Qad id] 42 #[.int .i64 (n:Int)] 44));go_enter Tryz.func66,Tryz.ntmps66;go_upto_region 2 with fail;obtain ⟨q1,hq1⟩:∃q,q=w.heap.size:=⟨_,rfl⟩
 obtain ⟨q2,hq2⟩:∃q,q=w.heap.size+1:=⟨_,rfl⟩
 rw [← hq2,← hq1] at HM ⊢;generalize (w.alloc _).alloc _=w1 at *;clear hq1 hq2;have HM1:Hid (Mem w w1 [⟨q1,42,[.int .i64 (n:Int),Qad id],true⟩,⟨q2,44,[.int .i64 (n:Int)],true⟩]):=LH (by simpa using HM.out);clear HM;have c0:=HM1.out.cell 1 0 rfl rfl;go_wp2_with fail;refine (Qgv (n:Int) w1).mono ?_;rintro e w2 ⟨rfl,hb2⟩;have HM2:=LH (HM1.out.later hb2);clear hb2 c0 HM1
 by_cases hr:2≤n∧n≤256
 case neg =>
  have hr':decide ((2:Int)≤(n:Int)∧(n:Int)≤256)=false:=by rw [decide_eq_false_iff_not];omega
  rw [hr'];have HF2:=LH (fun w' h1 h2=>HP.out ⟨S,26⟩ w' (by rw [HW.out,if_neg (fun hh=>hr ⟨hh.1,hh.2.1⟩)]) h1 h2);clear hr hr';go_wp2_with fail;exact HF2.out _ (HD.out.below HM2.out.below) (Qam.ofBelow HM2.out.below)
 have hr':decide ((2:Int)≤(n:Int)∧(n:Int)≤256)=true:=by rw [decide_eq_true_iff];omega
 rw [hr'];clear hr';have c0:=HM2.out.cell 1 0 rfl rfl;go_wp2_with fail;refine (Qgt (n:Int) w2 (by omega) (by omega)).mono ?_;rintro e w3 ⟨rfl,hb3⟩;have HM3:=LH (HM2.out.later hb3);have hnI:(n:Int)*512=((512*n:Nat):Int):=by omega
 rw [hnI];obtain ⟨K,hK⟩:∃K,K=512*n:=⟨_,rfl⟩
 rw [← hK] at HW ⊢;obtain ⟨l,hl⟩:∃l,l=S.cache.length:=⟨_,rfl⟩
 rw [← hl] at HW;have HLn:=LH hl;clear hb3 hnI hK hl c0 HM2;go_wp2_with fail;refine (Qc0 (HD.out.below HM3.out.below)).mono ?_;rintro e w4 ⟨rfl,rfl⟩;rw [← HLn.out]
 by_cases hc:K=l
 case neg =>
  have hc':((K:Int) == (l:Int))=false:=by rw [beq_eq_false_iff_ne];omega
  have hc'':((K:Int) != (l:Int))=true:=by rw [bne_iff_ne];omega
  have HF2:=LH (fun w' h1 h2=>HP.out ⟨S,26⟩ w' (by rw [HW.out,if_neg (fun hh=>hc hh.2.2)]) h1 h2);clear hc;go_wp2_with fail;exact HF2.out _ (HD.out.below HM3.out.below) (Qam.ofBelow HM3.out.below)
 have HF2:=LH (fun (D:Qdi) w' (h1:D=(S.stores (upL 0 f 0 8)).bind (fun S=>S.persist 0 8)) h2 h3=>HP.out D w' (by rw [HW.out,if_pos ⟨hr.1,hr.2,hc⟩,h1]) h2 h3);subst hc;clear HP HW hr HLn;have c0:=HM3.out.cell 0 0 rfl rfl;have c1:=HM3.out.cell 0 1 rfl rfl;go_upto_region 4 with fail;go_wp2_with fail;refine (HEn.out _).mono ?_;rintro e w5 ⟨rfl,hb5⟩;have HB5:=LH (HM3.out.below.trans (hb5.mono HM3.out.below.size));have HD5:=LH (HD.out.below HB5.out);clear hb5 c0 c1 HM3 HEn HD;obtain ⟨A,hA⟩:∃A:Array Value,A=#[Qad (f 0),Qad (f 1),Qad (f 2),Qad (f 3),Qad (f 4),Qad (f 5),Qad (f 6),Qad (f 7)]:=⟨_,rfl⟩
 rw [← hA];have HA:Hid (∀k,k<8→A[k]?=some (Qad (f k))):=LH (fun k hk=>by
  rw [hA]
  rcases (by omega:k=0∨k=1∨k=2∨k=3∨k=4∨k=5∨k=6∨k=7) with rfl | rfl | rfl | rfl | rfl | rfl | rfl | rfl <;> rfl)
 clear hA;go_wp2_with fail
 go_loopw [24] (fun iv wr=>∃(k:Nat) (T:Dev),k≤8∧iv=.int .i64 (k:Int)∧Hid (Qa7 wr F T)∧Hid (Qam F.list w wr)∧Hid (T.ok (N+k))∧Hid (T.stores (upL 0 f k 8)=S.stores (upL 0 f 0 8))) (fun iv _=>8-(intOf iv).toNat)
 case atStart=>exact ⟨0,S,by omega,rfl,HD5,LH (Qam.ofBelow HB5.out),HO,LH rfl⟩
 case round =>
  obtain ⟨k,T,hk,rfl,HDr,HTr,HOr,HSt⟩:=hrel
  by_cases hlt:k<8
  ·have hlt':(k:Int)<8:=by omega
   have HEq:=LH (Qwf 0 f hlt);rw [HEq.out,Nat.zero_add] at HSt;have HSc:=LH (Qb9 T k (f k) (upL 0 f (k+1) 8));have HSt2:=LH (HSc.out.symm.trans HSt.out);clear HEq HSc HSt;have hz:(0:Int)+(k:Int)=(k:Int):=by omega
   go_wp2_with (refine Qb3 k Tryz.underlying101 Tryz.underlying40 rfl (by kernel_rfl) rfl hlt (HA.out k hlt) rfl rfl rfl rfl ?_)
   refine (Qgz HDr.out (N:=N+k) (by omega) HOr.out (k:Int) (f k) (HF.out k)).mono ?_;rintro e w6 ⟨rfl,hd6,ht6⟩;have HD6:=LH hd6;have HT6:=LH (HTr.out.trans ht6);have HO6:=LH (Dev.store_okN HOr.out (k:Int) (f k));clear hd6 ht6
   by_cases he:T.storeE (k:Int)=0
   ·have HSt3:=LH (by rw [if_neg (by simp [he])] at HSt2;exact HSt2.out);rw [he];generalize T.store (k:Int) (f k)=T' at *;clear he HSt2 HDr HTr HOr;go_wp2_with fail;exact ⟨⟨k+1,T',by omega,Qb2 (by omega),HD6,HT6,LH (HO6.out.mono (by omega)),HSt3⟩,by simp [intOf];omega⟩
   ·have HSt3:=LH (by rw [if_pos he] at HSt2;exact HSt2.out);obtain ⟨er,her⟩:∃er,er=T.storeE (k:Int):=⟨_,rfl⟩
    have her1:-9223372036854775808≤er∧er≤9223372036854775807:=by
     rw [her];unfold Dev.storeE;split
     ·omega
     ·split <;> omega
    rw [← her] at he HSt3 ⊢;have he':(er != 0)=true:=by simpa using he
    generalize T.store (k:Int) (f k)=T' at *;have HF3:=LH (fun w'=>HF2.out ⟨T',er⟩ w' (by rw [← HSt3.out,Qdi.bind_err _ he]));clear he her HSt2 HDr HTr HOr HSt3;go_wp2_with fail;exact HF3.out _ HD6.out HT6.out
  ·have hi8:k=8:=by omega
   have hltd:decide ((k:Int)<8)=false:=by simp;omega
   have HSt2:Hid (S.stores (upL 0 f 0 8)=⟨T,0⟩):=LH (by rw [← HSt.out,Jcs _ _ (by omega)];rfl);clear HSt;go_wp2_with fail;refine (Qhs HDr.out (N:=N+k) (by omega) HOr.out 0 8 (by omega) (by omega)).mono ?_;rintro e w6 ⟨rfl,hd6,ht6⟩;have HF3:=LH (fun w'=>HF2.out (T.persist 0 8) w' (by rw [HSt2.out,Qdi.bind_ok]));have HT6:=LH (HTr.out.trans ht6);have HD6:=LH hd6;clear hd6 ht6;generalize T.persist 0 8=D at *;go_wp2_with fail;exact HF3.out _ HD6.out HT6.out
def Qo6 (a:Nat) (g:Nat→Nat) (k:Nat):List (Nat × Nat):=((List.range' k (16-k)).filter (fun j=>j % 8 != 0)).map (fun j=>(a+j,g j))
theorem Qyj (a:Nat) (g:Nat→Nat) {k:Nat} (h:k<16) (hm:k % 8=0):Qo6 a g k=Qo6 a g (k+1):=by
 unfold Qo6;rw [show 16-k=(16-(k+1))+1 by omega,List.range'_succ,List.filter_cons_of_neg (by simp [hm])]
theorem Qx0 (a:Nat) (g:Nat→Nat) {k:Nat} (h:k<16) (hm:k % 8≠0):Qo6 a g k=(a+k,g k) :: Qo6 a g (k+1):=by
 unfold Qo6;rw [show 16-k=(16-(k+1))+1 by omega,List.range'_succ,List.filter_cons_of_pos (by simp [hm])]
 rfl
theorem Qzl (a:Nat) (g:Nat→Nat):Qo6 a g 16=[]:=rfl
def Qh3 (a:Nat) (g:Nat→Nat):List (Nat × Nat):=Qo6 a g 0 ++ [(a,g 0),(a+8,g 8)]
def Dev.writeSlot (S:Dev) (a ep:Nat) (rs:List Int):Qdi:=(S.stores (Qh3 a (fun k=>(Qdl ep rs).getD k 0))).bind (fun S=>S.persist (a:Int) 16)
theorem Qkj {ep:Nat} {rs:List Int} (hep:ep<18446744073709551616) (k:Nat):(Qdl ep rs).getD k 0<18446744073709551616:=by
 rw [GD]
 cases h:(Qdl ep rs)[k]? with
 | none=>simp
 | some x =>
  have hm:=List.mem_of_getElem? h;show x<_;unfold Qdl at hm
  split at hm
  ·rename_i hr
   have hw0:=Qb6 (Qd8 ep (rs.map Int.toNat) 0);have hw1:=Qb6 (Qd8 ep (rs.map Int.toNat) 1);have hg:∀i,(rs.map Int.toNat).getD i 0<131072:=fun i=>by
    rw [GD]
    cases hx:(rs.map Int.toNat)[i]? with
    | none=>simp
    | some y =>
     obtain ⟨r,hr1,rfl⟩:=List.mem_map.1 (List.mem_of_getElem? hx);obtain ⟨n,rfl,hn⟩:=Qhz hr r hr1;simpa using hn
   have hh:∀n,n≤1→∀z∈Qg2 ep (rs.map Int.toNat) n,z<18446744073709551616:=fun n hn z hz=>by
    unfold Qg2 at hz;rcases List.mem_append.1 hz with hz | hz
    ·unfold Qd8 at hz;simp only [List.mem_cons,List.not_mem_nil,or_false] at hz
     have g0:=hg (4*n);have g1:=hg (4*n+1);have g2:=hg (4*n+2);have g3:=hg (4*n+3);rcases hz with rfl | rfl | rfl | rfl | rfl | rfl | rfl <;> omega
    ·simp only [List.mem_cons,List.not_mem_nil,or_false] at hz
     have:=Qb6 (Qd8 ep (rs.map Int.toNat) n);omega
   unfold Qox at hm;rcases List.mem_append.1 hm with hm | hm
   ·exact hh 0 (by omega) x hm
   ·exact hh 1 (by omega) x hm
  ·have:=List.eq_of_mem_replicate hm;omega
theorem Qur {w:World} {F:Qb0} {S:Dev} (h:Qa7 w F S) {N:Nat} (hN:N≤900000000) (ho:S.ok N) (i:Nat) (hi:i≤1) (ep:Nat) (rs:List Int) (hl:rs.length=8) (hep:ep<18446744073709551616) :
  Calls Tryz.prog 107 #[Qei F,.int .i64 (i:Int),Qbg ep rs] w (Qco (S.writeSlot (64+64*i) ep rs) F w):=by
 have hsl:=Qqg i hi;obtain ⟨a,ha⟩:∃a,a=64+64*i:=⟨_,rfl⟩
 rw [← ha] at hsl ⊢;have ha1:a≤128:=by omega
 have HSl:=LH hsl;have HP:Hid (∀(D:Qdi) w',D=S.writeSlot a ep rs→Qa7 w' F D.dev→Qam F.list w w'→Qco (S.writeSlot a ep rs) F w (.returned (.int .i64 D.err)) w'):=LH (fun D w' h1 h2 h3=>by rw [← h1];exact ⟨rfl,h2,h3⟩);generalize Qco (S.writeSlot a ep rs) F w=Post at *;have HEn:=LH (Qlt ep rs hl hep);obtain ⟨f,hf⟩:∃f:Nat→Nat,f=fun k=>(Qdl ep rs).getD k 0:=⟨_,rfl⟩
 have HF2:Hid (∀(D:Qdi) w',D=(S.stores (Qh3 a f)).bind (fun S=>S.persist (a:Int) 16)→Qa7 w' F D.dev→Qam F.list w w'→Post (.returned (.int .i64 D.err)) w'):=LH (fun D w' h1=>HP.out D w' (by rw [h1,hf];rfl));have HF:Hid (∀k,f k<18446744073709551616):=LH (fun k=>by rw [hf];exact Qkj hep k);obtain ⟨A,hA⟩:∃A:Array Value,A=((Qdl ep rs).map Qad).toArray:=⟨_,rfl⟩
 have HAs:Hid (A.size=16):=LH (by rw [hA];simp [Qfu]);have HA:Hid (∀k,k<16→A[k]?=some (Qad (f k))):=LH (fun k hk=>by
  rw [hA,hf];have hk2:k<(Qdl ep rs).length:=by rw [Qfu];exact hk
  simp only [List.getElem?_toArray,List.getElem?_map,GE hk2,Option.map_some,GD,Option.getD_some])
 unfold Qko at HEn;rw [show Qgb (Qdl ep rs)=.agg A from by rw [hA];rfl] at HEn;have HD:=LH h;have HO:=LH ho;have HB0:=LH h.mem;obtain ⟨r0,r1,r2,r3,r4,r5,r6,r7,rfl⟩:=Qcb hl;rw [show Qbg ep [r0,r1,r2,r3,r4,r5,r6,r7]=.agg #[Qad ep,.int .i64 r0,.int .i64 r1,.int .i64 r2,.int .i64 r3,.int .i64 r4,.int .i64 r5,.int .i64 r6,.int .i64 r7] from rfl] at HEn ⊢;have HA16:Hid (∃b0 b1 b2 b3 b4 b5 b6 b7 b8 b9 b10 b11 b12 b13 b14 b15,A=#[Qad b0,Qad b1,Qad b2,Qad b3,Qad b4,Qad b5,Qad b6,Qad b7,Qad b8,Qad b9,Qad b10,Qad b11,Qad b12,Qad b13,Qad b14,Qad b15]):=LH (by
  obtain ⟨a0,a1,a2,a3,a4,a5,a6,a7,a8,a9,a10,a11,a12,a13,a14,a15,hs⟩:=Qcp (Qfu ep [r0,r1,r2,r3,r4,r5,r6,r7]);rw [hA,hs]
  exact ⟨_,_,_,_,_,_,_,_,_,_,_,_,_,_,_,_,rfl⟩)
 clear hf hA h ho hsl ha HP hl hep;have HM:=LH (Mem.one w #[Qad ep,.int .i64 r0,.int .i64 r1,.int .i64 r2,.int .i64 r3,.int .i64 r4,.int .i64 r5,.int .i64 r6,.int .i64 r7] 154);go_enter Tryz.func107,Tryz.ntmps107;go_upto_region 1 with fail;obtain ⟨q1,hq1⟩:∃q,q=w.heap.size:=⟨_,rfl⟩
 rw [← hq1] at HM ⊢;generalize w.alloc _=w1 at *;clear hq1;have HM1:Hid (Mem w w1 [⟨q1,154,[Qad ep,.int .i64 r0,.int .i64 r1,.int .i64 r2,.int .i64 r3,.int .i64 r4,.int .i64 r5,.int .i64 r6,.int .i64 r7],true⟩]):=LH (by simpa using HM.out);clear HM;go_wp2_with fail;refine (HSl.out _).mono ?_;rintro e w2 ⟨rfl,rfl⟩;go_wp2_with (refine Qag Qhy HM1.out 0 rfl rfl rfl rfl rfl ?_)
 refine (HEn.out _).mono ?_;rintro e w3 ⟨rfl,hb3⟩;have HM3:=LH (HM1.out.later hb3);have HM4:Hid (Mem w (w3.alloc (.cells A 113)) [⟨q1,154,[Qad ep,.int .i64 r0,.int .i64 r1,.int .i64 r2,.int .i64 r3,.int .i64 r4,.int .i64 r5,.int .i64 r6,.int .i64 r7],true⟩,⟨w3.heap.size,113,A.toList,true⟩]):=LH (HM3.out.alloc A 113);clear hb3 HM1 HSl HEn;obtain ⟨b0,b1,b2,b3,b4,b5,b6,b7,b8,b9,b10,b11,b12,b13,b14,b15,hA16⟩:=HA16.out;rw [hA16];go_upto_region 3 with fail;rw [← hA16];obtain ⟨q2,hq2⟩:∃q,q=w3.heap.size:=⟨_,rfl⟩
 rw [← hq2] at HM4 ⊢;generalize w3.alloc _=w4 at *;clear hq2 HM3 hA16 HA16;have HDev:=LH (HD.out.below HM4.out.below);have hq2l:=HM4.out.gbase 1 rfl;have HQF:Hid (q2∉F.list):=LH (fun hm=>by have:=HB0.out _ hm;omega);have HC8:Hid (∀k,k<16→w4.cell? ⟨q2,k,none⟩=some (Qad (f k))):=LH (fun k hk=>HM4.out.cell 1 k rfl (by rw [Array.getElem?_toList];exact HA.out k hk));have HT4:Hid (Qam F.list w w4):=LH (Qam.ofBelow HM4.out.below);clear hq2l;go_wp2_with (refine Qbn Qib HM4.out 1 rfl HAs.out rfl rfl rfl ?_)
 clear HM4
 go_loopw [19] (fun iv wr=>∃(k:Nat) (T:Dev),k≤16∧iv=.int .i64 (k:Int)∧Hid (Qa7 wr F T)∧Hid (Qam F.list w wr)∧Hid (T.ok (N+k))∧Hid (∀k,k<16→wr.cell? ⟨q2,k,none⟩=some (Qad (f k)))∧Hid (T.stores (Qo6 a f k ++ [(a,f 0),(a+8,f 8)])=S.stores (Qh3 a f))) (fun iv _=>16-(intOf iv).toNat)
 case atStart=>exact ⟨0,S,by omega,rfl,HDev,HT4,HO,HC8,LH rfl⟩
 case round =>
  obtain ⟨k,T,hk,rfl,HDr,HTr,HOr,HCr,HSt⟩:=hrel;clear HC8 HT4 HDev HD
  by_cases hlt:k<16
  ·have hlt':(k:Int)<16:=by omega
   obtain ⟨m,hm⟩:∃m,m=k % 8:=⟨_,rfl⟩
   have hm8:(k:Int) % 8=(m:Int):=by omega
   by_cases hz:m=0
   ·have HSt2:=LH (by rw [Qyj a f hlt (by omega)] at HSt;exact HSt.out);subst hz;clear hm HSt;go_wp2_with (refine Qb3 k Tryz.underlying113 Tryz.underlying40 rfl (by kernel_rfl) rfl hlt (HA.out k hlt) rfl rfl rfl rfl ?_)
    exact ⟨⟨k+1,T,by omega,Qb2 (by omega),HDr,HTr,LH (HOr.out.mono (by omega)),HCr,HSt2⟩,by simp [intOf];omega⟩
   ·have HSt1:=LH (by rw [Qx0 a f hlt (by omega),List.cons_append] at HSt;exact HSt.out);have HSc:=LH (Qb9 T (a+k) (f k) (Qo6 a f (k+1) ++ [(a,f 0),(a+8,f 8)]));have HSt2:=LH (HSc.out.symm.trans HSt1.out);have hz':((m:Int) == 0)=false:=by rw [beq_eq_false_iff_ne];omega
    have hm7:m<8:=by omega
    clear hm HSt HSt1 HSc hz;have hak:(a:Int)+(k:Int)=((a+k:Nat):Int):=by omega
    obtain ⟨j,hj⟩:∃j,j=a+k:=⟨_,rfl⟩
    have hj9:j≤1000:=by omega
    rw [← hj] at HSt2 hak;clear hj;go_wp2_with (refine Qb3 k Tryz.underlying113 Tryz.underlying40 rfl (by kernel_rfl) rfl hlt (HA.out k hlt) rfl rfl rfl rfl ?_)
    refine (Qgz HDr.out (N:=N+k) (by omega) HOr.out (j:Int) (f k) (HF.out k)).mono ?_;rintro e w6 ⟨rfl,hd6,ht6⟩;have HD6:=LH hd6;have HT6:=LH (HTr.out.trans ht6);have HO6:=LH (Dev.store_okN HOr.out (j:Int) (f k));have HC6:Hid (∀k,k<16→w6.cell? ⟨q2,k,none⟩=some (Qad (f k))):=LH (fun k hk=>Qcd ht6 HQF.out (HCr.out k hk));clear hd6 ht6
    by_cases he:T.storeE (j:Int)=0
    ·have HSt3:=LH (by rw [if_neg (by simp [he])] at HSt2;exact HSt2.out);rw [he];generalize T.store (j:Int) (f k)=T' at *;clear he HSt2 HDr HTr HOr HCr hak;go_wp2_with fail;exact ⟨⟨k+1,T',by omega,Qb2 (by omega),HD6,HT6,LH (HO6.out.mono (by omega)),HC6,HSt3⟩,by simp [intOf];omega⟩
    ·have HSt3:=LH (by rw [if_pos he] at HSt2;exact HSt2.out);obtain ⟨er,her⟩:∃er,er=T.storeE (j:Int):=⟨_,rfl⟩
     have her1:-9223372036854775808≤er∧er≤9223372036854775807:=by
      rw [her];unfold Dev.storeE;split
      ·omega
      ·split <;> omega
     rw [← her] at he HSt3 ⊢;have he':(er != 0)=true:=by simpa using he
     generalize T.store (j:Int) (f k)=T' at *;have HF3:=LH (fun w'=>HF2.out ⟨T',er⟩ w' (by rw [← HSt3.out,Qdi.bind_err _ he]));clear he her HSt2 HDr HTr HOr HSt3 HCr hak;go_wp2_with fail;exact HF3.out _ HD6.out HT6.out
  ·have hi8:k=16:=by omega
   have hltd:decide ((k:Int)<16)=false:=by simp;omega
   have HSt2:Hid (T.stores [(a,f 0),(a+8,f 8)]=S.stores (Qh3 a f)):=LH (by rw [← HSt.out,hi8,Qzl];rfl);have HOr2:Hid (T.ok (N+16)):=LH (by rw [hi8] at HOr;exact HOr.out);clear HSt hi8 HOr;go_wp2_with fail
   go_loopw [12] (fun iv wr=>∃(k:Nat) (T:Dev),k≤2∧iv=.int .i64 ((8*k:Nat):Int)∧Hid (Qa7 wr F T)∧Hid (Qam F.list w wr)∧Hid (T.ok (N+16+k))∧Hid (∀k,k<16→wr.cell? ⟨q2,k,none⟩=some (Qad (f k)))∧Hid (T.stores (([(a,f 0),(a+8,f 8)]:List (Nat × Nat)).drop k)=S.stores (Qh3 a f))) (fun iv _=>16-(intOf iv).toNat)
   case atStart=>exact ⟨0,T,by omega,rfl,HDr,HTr,HOr2,HCr,HSt2⟩
   case round =>
    obtain ⟨n,T,hk,rfl,HDr,HTr,HOr,HCr,HSt⟩:=hrel;rcases (by omega:n=0∨n=1∨n=2) with rfl | rfl | rfl
    ·rw [show ((8*0:Nat):Int)=0 from rfl];have HSc:=LH (Qb9 T a (f 0) [(a+8,f 8)]);have HSt2:=LH (HSc.out.symm.trans HSt.out);have c0:=HCr.out 0 (by omega);clear HSt HSc;go_wp2_with fail;refine (Qgz HDr.out (N:=N+16+0) (by omega) HOr.out (a:Int) (f 0) (HF.out 0)).mono ?_;rintro e w6 ⟨rfl,hd6,ht6⟩;have HD6:=LH hd6;have HT6:=LH (HTr.out.trans ht6);have HO6:=LH (Dev.store_okN HOr.out (a:Int) (f 0));have HC6:Hid (∀k,k<16→w6.cell? ⟨q2,k,none⟩=some (Qad (f k))):=LH (fun k hk=>Qcd ht6 HQF.out (HCr.out k hk));clear hd6 ht6 c0
     by_cases he:T.storeE (a:Int)=0
     ·have HSt3:=LH (by rw [if_neg (by simp [he])] at HSt2;exact HSt2.out);rw [he];generalize T.store (a:Int) (f 0)=T' at *;clear he HSt2 HDr HTr HOr HCr;go_wp2_with fail;exact ⟨⟨1,T',by omega,rfl,HD6,HT6,HO6,HC6,HSt3⟩,by simp [intOf]⟩
     ·have HSt3:=LH (by rw [if_pos he] at HSt2;exact HSt2.out);obtain ⟨er,her⟩:∃er,er=T.storeE (a:Int):=⟨_,rfl⟩
      have her1:-9223372036854775808≤er∧er≤9223372036854775807:=by
       rw [her];unfold Dev.storeE;split
       ·omega
       ·split <;> omega
      rw [← her] at he HSt3 ⊢;have he':(er != 0)=true:=by simpa using he
      generalize T.store (a:Int) (f 0)=T' at *;have HF3:=LH (fun w'=>HF2.out ⟨T',er⟩ w' (by rw [← HSt3.out,Qdi.bind_err _ he]));clear he her HSt2 HDr HTr HOr HSt3 HCr;go_wp2_with fail;exact HF3.out _ HD6.out HT6.out
    ·rw [show ((8*1:Nat):Int)=8 from rfl];have HSc:=LH (Qb9 T (a+8) (f 8) []);have HSt2:=LH (HSc.out.symm.trans HSt.out);have c0:=HCr.out 8 (by omega);have hak:(a:Int)+8=((a+8:Nat):Int):=by omega
     obtain ⟨j,hj⟩:∃j,j=a+8:=⟨_,rfl⟩
     have hj9:j≤1000:=by omega
     rw [← hj] at HSt2 hak;clear hj HSt HSc;go_wp2_with fail;refine (Qgz HDr.out (N:=N+16+1) (by omega) HOr.out (j:Int) (f 8) (HF.out 8)).mono ?_;rintro e w6 ⟨rfl,hd6,ht6⟩;have HD6:=LH hd6;have HT6:=LH (HTr.out.trans ht6);have HO6:=LH (Dev.store_okN HOr.out (j:Int) (f 8));have HC6:Hid (∀k,k<16→w6.cell? ⟨q2,k,none⟩=some (Qad (f k))):=LH (fun k hk=>Qcd ht6 HQF.out (HCr.out k hk));clear hd6 ht6 c0
     by_cases he:T.storeE (j:Int)=0
     ·have HSt3:=LH (by rw [if_neg (by simp [he])] at HSt2;exact HSt2.out);rw [he];generalize T.store (j:Int) (f 8)=T' at *;clear he HSt2 HDr HTr HOr HCr hak;go_wp2_with fail;exact ⟨⟨2,T',by omega,rfl,HD6,HT6,HO6,HC6,HSt3⟩,by simp [intOf]⟩
     ·have HSt3:=LH (by rw [if_pos he] at HSt2;exact HSt2.out);obtain ⟨er,her⟩:∃er,er=T.storeE (j:Int):=⟨_,rfl⟩
      have her1:-9223372036854775808≤er∧er≤9223372036854775807:=by
       rw [her];unfold Dev.storeE;split
       ·omega
       ·split <;> omega
      rw [← her] at he HSt3 ⊢;have he':(er != 0)=true:=by simpa using he
      generalize T.store (j:Int) (f 8)=T' at *;have HF3:=LH (fun w'=>HF2.out ⟨T',er⟩ w' (by rw [← HSt3.out,Qdi.bind_err _ he]));clear he her HSt2 HDr HTr HOr HSt3 HCr hak;go_wp2_with fail;exact HF3.out _ HD6.out HT6.out
    ·rw [show ((8*2:Nat):Int)=16 from rfl];have HSt2:Hid (S.stores (Qh3 a f)=⟨T,0⟩):=LH (by rw [← HSt.out];rfl);clear HSt;go_wp2_with fail;refine (Qhs HDr.out (N:=N+16+2) (by omega) HOr.out (a:Int) 16 (by omega) (by omega)).mono ?_;rintro e w6 ⟨rfl,hd6,ht6⟩;have HF3:=LH (fun w'=>HF2.out (T.persist (a:Int) 16) w' (by rw [HSt2.out,Qdi.bind_ok]));have HT6:=LH (HTr.out.trans ht6);have HD6:=LH hd6;clear hd6 ht6;generalize T.persist (a:Int) 16=D at *;go_wp2_with fail;exact HF3.out _ HD6.out HT6.out
theorem Qr0 {w:World} {F:Qb0} {S:Dev} (h:Qa7 w F S) {N:Nat} (hN:N≤900000000) (ho:S.ok N) :
  Calls Tryz.prog 65 #[Qei F] w (Qco (S.writeSlot 64 1 [0,0,0,0,0,0,0,0]) F w):=by
 have hw:=Qur h hN ho 0 (by omega) 1 [0,0,0,0,0,0,0,0] rfl (by omega);rw [show Qbg 1 [0,0,0,0,0,0,0,0]=.agg #[.int .u64 1,.int .i64 0,.int .i64 0,.int .i64 0,.int .i64 0,.int .i64 0,.int .i64 0,.int .i64 0,.int .i64 0] from rfl,show ((0:Nat):Int)=0 from rfl] at hw;have HW:=LH hw;clear hw;simp only [Nat.mul_zero,Nat.add_zero] at HW
 have HP:Hid (∀D w',D=S.writeSlot 64 1 [0,0,0,0,0,0,0,0]→Qa7 w' F D.dev→Qam F.list w w'→Qco (S.writeSlot 64 1 [0,0,0,0,0,0,0,0]) F w (.returned (.int .i64 D.err)) w'):=LH (fun D w' h1 h2 h3=>by rw [← h1];exact ⟨rfl,h2,h3⟩);generalize hD:S.writeSlot 64 1 [0,0,0,0,0,0,0,0]=D at *;go_enter Tryz.func65,Tryz.ntmps65;go_wp2_with fail;refine HW.out.mono ?_;rintro e w' ⟨rfl,hd,ht⟩;have HD:=LH hd;have HT:=LH ht;clear hd ht;go_wp2_with fail
 go_ret
 exact HP.out D _ rfl HD.out HT.out
def Dev.fmtG (S:Dev) (B:Nat):Qdi:=(S.stores (upL 256 (fun b=>Qeq (b:Int) 0 0 0) 1 B)).bind (fun S=>S.persist 257 ((B:Int)-1))
theorem Quj {w:World} {F:Qb0} {S:Dev} (h:Qa7 w F S) {N:Nat} (hN:N≤900000000) (ho:S.ok N) (B:Nat) (hB2:2≤B) (hB:B≤1000) :
  Calls Tryz.prog 64 #[Qei F,Qgk B] w (Qco (S.fmtG B) F w):=by
 have HF2:Hid (∀(D:Qdi) w',D=(S.stores (upL 256 (fun b:Nat=>Qeq (b:Int) 0 0 0) 1 B)).bind (fun S=>S.persist 257 ((B:Int)-1))→Qa7 w' F D.dev→Qam F.list w w'→Qco (S.fmtG B) F w (.returned (.int .i64 D.err)) w'):=LH (fun D w' h1 h2 h3=>by rw [show S.fmtG B=D from h1.symm];exact ⟨rfl,h2,h3⟩);generalize Qco (S.fmtG B) F w=Post at *;obtain ⟨f,hf⟩:∃f:Nat→Nat,f=fun b:Nat=>Qeq (b:Int) 0 0 0:=⟨_,rfl⟩
 rw [← hf] at HF2;have HEnc:Hid (∀b:Nat,Qeq (b:Int) 0 0 0=f b):=LH (fun b=>by rw [hf]);have HF:Hid (∀k,f k<18446744073709551616):=LH (fun k=>by rw [hf];exact Qfx _ _ _ _);have hbx:=Qaf w (.cells #[.int .i64 (B:Int)] 44);have hcx:(w.alloc (.cells #[.int .i64 (B:Int)] 44)).cell? ⟨w.heap.size,0,none⟩=some (.int .i64 (B:Int)):=Qat _ _ _ 0 _ rfl;have HD:=LH (h.below hbx);have HT:Hid (Qam F.list w (w.alloc (.cells #[.int .i64 (B:Int)] 44))):=LH (Qam.ofBelow hbx);have HQ:Hid (w.heap.size∉F.list):=LH (fun hm=>by have:=h.mem _ hm;omega);have HO:=LH ho;clear h hbx ho hf;go_enter Tryz.func64,Tryz.ntmps64;go_upto_region 1 with fail;obtain ⟨q,hq⟩:∃q,q=w.heap.size:=⟨_,rfl⟩
 rw [← hq] at hcx HQ ⊢;generalize w.alloc _=w0 at *;clear hq;go_wp2_with fail
 go_loopw [5] (fun iv wr=>∃(b:Nat) (T:Dev),1≤b∧b≤B∧iv=.int .i64 (b:Int)∧Hid (Qa7 wr F T)∧Hid (Qam F.list w wr)∧Hid (T.ok (N+b))∧wr.cell? ⟨q,0,none⟩=some (.int .i64 (B:Int))∧Hid (T.stores (upL 256 f b B)=S.stores (upL 256 f 1 B))) (fun iv _=>B-(intOf iv).toNat)
 case atStart=>exact ⟨1,S,Nat.le_refl _,by omega,rfl,HD,HT,LH (HO.out.mono (by omega)),hcx,LH rfl⟩
 case round =>
  obtain ⟨b,T,hb1,hb2,rfl,HDr,HTr,HOr,hc,HSt⟩:=hrel;clear hcx HD HT
  by_cases hlt:b<B
  ·have hlt':(b:Int)<(B:Int):=by omega
   have HSt1:=LH (by rw [Qwf 256 f hlt] at HSt;exact HSt.out);have HSc:=LH (Qb9 T (256+b) (f b) (upL 256 f (b+1) B));have HSt2:=LH (HSc.out.symm.trans HSt1.out);clear HSt1 HSc HSt;go_wp2_with fail;refine (Qfr _ _ _ (by omega)).mono ?_;rintro e w1 ⟨rfl,hb1'⟩;have HH:Hid (Qsq (B:Int) (b:Int)=((256+b:Nat):Int)):=LH (by unfold Qsq;rw [if_neg (by omega)];omega);rw [HH.out];obtain ⟨j,hj⟩:∃j,j=256+b:=⟨_,rfl⟩
   have hj9:j≤2000:=by omega
   rw [← hj] at HSt2 ⊢;clear hj HH;have hc1:=Qaz hb1' hc NR;have HD1:=LH (HDr.out.below hb1');have HT1:Hid (Qam F.list w w1):=LH (HTr.out.trans (Qam.ofBelow hb1'));clear hb1' hc HDr HTr;go_wp2_with fail;refine (Qjk (b:Int) 0 0 0 (by omega) (by omega) _).mono ?_;rintro e w2 ⟨rfl,hb2'⟩;rw [HEnc.out b];have hc2:=Qaz hb2' hc1 NR;have HD2:=LH (HD1.out.below hb2');have HT2:Hid (Qam F.list w w2):=LH (HT1.out.trans (Qam.ofBelow hb2'));clear hb2' hc1 HD1 HT1;go_wp2_with fail;refine (Qgz HD2.out (N:=N+b) (by omega) HOr.out (j:Int) (f b) (HF.out b)).mono ?_;rintro e w3 ⟨rfl,hd3,ht3⟩;have hc3:w3.cell? ⟨q,0,none⟩=some (.int .i64 (B:Int)):=Qcd ht3 HQ.out hc2;have HD3:=LH hd3;have HT3:Hid (Qam F.list w w3):=LH (HT2.out.trans ht3);have HO3:=LH (Dev.store_okN HOr.out (j:Int) (f b));clear hd3 ht3 hc2 HD2 HT2
   by_cases he:T.storeE (j:Int)=0
   ·have HSt3:=LH (by rw [if_neg (by simp [he])] at HSt2;exact HSt2.out);rw [he];generalize T.store (j:Int) (f b)=T' at *;clear he HSt2 HOr;go_wp2_with fail;exact ⟨⟨b+1,T',by omega,by omega,Qb2 (by omega),HD3,HT3,LH (HO3.out.mono (by omega)),hc3,HSt3⟩,by simp [intOf];omega⟩
   ·have HSt3:=LH (by rw [if_pos he] at HSt2;exact HSt2.out);obtain ⟨er,her⟩:∃er,er=T.storeE (j:Int):=⟨_,rfl⟩
    have her1:-9223372036854775808≤er∧er≤9223372036854775807:=by
     rw [her];unfold Dev.storeE;split
     ·omega
     ·split <;> omega
    rw [← her] at he HSt3 ⊢;have he':(er != 0)=true:=by simpa using he
    generalize T.store (j:Int) (f b)=T' at *;have HF3:=LH (fun w'=>HF2.out ⟨T',er⟩ w' (by rw [← HSt3.out,Qdi.bind_err _ he]));clear he her HSt2 HOr HSt3;go_wp2_with fail;exact HF3.out _ HD3.out HT3.out
  ·have HSt2:Hid (S.stores (upL 256 f 1 B)=⟨T,0⟩):=LH (by rw [← HSt.out,Jcs _ _ (by omega)];rfl);obtain rfl:b=B:=by omega
   have hlt':decide ((b:Int)<(b:Int))=false:=by simp
   have hw1:IntKind.i64.wrap ((b:Int)-1)=(b:Int)-1:=IntWalk.i64_in _ (by omega);clear HSt;go_wp2_with fail;have hcl:∀x:Qbi wr,x.val.cell? ⟨q,0,none⟩=some (.int .i64 (b:Int)):=fun x=>Qab hc x
   refine Qb1 6 ?hn ?hm ?hB ?_
   case hn=>exact Nat.le_of_ble_eq_true rfl
   case hm=>kernel_rfl
   case hB=>kernel_rfl
   simp only [List.take_succ_cons,List.take_zero,List.drop_succ_cons,List.drop_zero]
   repeat (quiet_step ((rename_i x;exact Qb7 (Qfr _ _ _ (by omega)))))
   refine wpQuiet_nil ?_;rintro w5 ⟨x,hx5⟩;have hd5:=HDr.out.below x.below;have ht5:Qam F.list w x.val:=HTr.out.trans (Qam.ofBelow x.below);rw [← hx5] at hd5 ht5;have HD5:=LH hd5;have HT5:=LH ht5;have HH:Hid (Qsq (b:Int) 1=257):=LH (by unfold Qsq;rw [if_neg (by omega)];rfl);rw [HH.out];clear hx5 x HDr HTr hd5 ht5 hw1;go_wp2_with fail;refine (Qhs HD5.out (N:=N+b) (by omega) HOr.out _ _ (by omega) (by omega)).mono ?_;rintro e w6 ⟨rfl,hd6,ht6⟩;have HF3:=LH (fun w'=>HF2.out (T.persist 257 ((b:Int)-1)) w' (by rw [HSt2.out,Qdi.bind_ok]));have HT6:=LH (HT5.out.trans ht6);have HD6:=LH hd6;clear hd6 ht6;generalize T.persist 257 ((b:Int)-1)=D at *;go_wp2_with fail;exact HF3.out _ HD6.out HT6.out
end Go.Proofs.YtpohaahihdhleaaGreat
