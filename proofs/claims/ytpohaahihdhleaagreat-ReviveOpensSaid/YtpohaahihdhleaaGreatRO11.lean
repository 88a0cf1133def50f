/- Parts of the proof of one statement of the seat. -/
import Derived.Test.YtpohaahihdhleaaGreatRO10
set_option linter.unusedVariables false
set_option maxHeartbeats 16000000
set_option maxRecDepth 100000
namespace Go.Proofs.YtpohaahihdhleaaGreat
open Go.RowKit
def Qck (n:Nat) (f:Nat→Nat) (i:Nat):List Nat:=(List.range n).map (fun k=>if k<i then f k else 0)
theorem Qba (n:Nat) (f:Nat→Nat) (i:Nat):(Qck n f i).length=n:=by simp [Qck]
theorem Qnc (n:Nat) (f:Nat→Nat) (i k:Nat):(Qck n f i)[k]?=if k<n then some (if k<i then f k else 0) else none:=by
 unfold Qck;rw [List.getElem?_map]
 by_cases h:k<n
 ·rw [if_pos h,GE (by simpa using h),List.getElem_range];rfl
 ·rw [if_neg h,List.getElem?_eq_none (by simp;omega)];rfl
theorem Qch {n:Nat} (f:Nat→Nat) {i:Nat} (hi:i<n):(Qck n f i).set i (f i)=Qck n f (i+1):=by
 apply List.ext_getElem?
 intro k;rw [List.getElem?_set,Qnc,Qnc,Qba]
 by_cases e:i=k
 ·subst e;rw [if_pos rfl,if_pos hi,if_pos hi,if_pos (by omega)]
 ·rw [if_neg e]
  by_cases h:k<n
  ·rw [if_pos h,if_pos h]
   by_cases h2:k<i
   ·rw [if_pos h2,if_pos (by omega)]
   ·rw [if_neg h2,if_neg (by omega)]
  ·rw [if_neg h,if_neg h]
theorem Qit (n:Nat) (f:Nat→Nat):Qck n f n=(List.range n).map f:=by
 unfold Qck;exact List.map_congr_left (fun k hk=>by rw [if_pos (List.mem_range.1 hk)])
theorem Qnd (n:Nat) (f:Nat→Nat):Qck n f 0=List.replicate n 0:=by
 apply List.ext_getElem?
 intro k;rw [Qnc,List.getElem?_replicate]
 by_cases h:k<n
 ·rw [if_pos h,if_pos h,if_neg (by omega)]
 ·rw [if_neg h,if_neg h]
def Qas (S:Dev) (a n:Nat):List Nat:=(List.range n).map (fun k=>Qdr S.cache ((a+k:Nat):Int))
theorem Jc7 {l:List Nat} (hu:∀z∈l,z<18446744073709551616) (i:Int):Qdr l i<18446744073709551616:=by
 unfold Qdr
 split
 ·rw [GD]
  cases h:l[i.toNat]? with
  | none=>simp
  | some x=>exact hu x (List.mem_of_getElem? h)
 ·omega
theorem Qcw {S:Dev} (hu:∀z∈S.cache,z<18446744073709551616) (a n:Nat):∀z∈Qas S a n,z<18446744073709551616:=by
 intro z hz;obtain ⟨k,_,rfl⟩:=List.mem_map.1 hz;exact Jc7 hu _
theorem Qbl (S:Dev) (a n:Nat):(Qas S a n).length=n:=by simp [Qas]
theorem Qzu {w:World} {F:Qb0} {S:Dev} (h:Qa7 w F S) :
  Calls Tryz.prog 88 #[Qei F] w fun e w'=>e=.returned (Qgb (Qas S 0 8))∧Below w.heap.size w w':=by
 have HP:Hid (∀w',Below w.heap.size w w'→(fun e w'=>e=Ending.returned (Qgb (Qas S 0 8))∧Below w.heap.size w w') (.returned (Qgb (Qas S 0 8))) w'):=LH (fun w' h=>⟨rfl,h⟩);generalize (fun e w'=>e=Ending.returned (Qgb (Qas S 0 8))∧Below w.heap.size w w')=Post at *;obtain ⟨f,hf⟩:∃f:Nat→Nat,f=fun k=>Qdr S.cache ((0+k:Nat):Int):=⟨_,rfl⟩
 have HAll:Hid (Qas S 0 8=Qck 8 f 8):=LH (by rw [Qit,hf];rfl);have HDv:=LH h;have HG:Hid (∀(k:Nat) w',Below w.heap.size w w'→Calls Tryz.prog 59 #[Qei F,.int .i64 (k:Int)] w' (fun e w2=>e=.returned (Qad (f k))∧w'=w2)):=LH (fun k w' hb=>by
  rw [hf];have:=Qio (h.below hb) (k:Int)
  simpa using this)
 have HM:=LH (Mem.two w ((Qck 8 f 0).map Qad).toArray 101 ((Qck 8 f 0).map Qad).toArray 101);clear h hf;go_enter Tryz.func88,Tryz.ntmps88;go_upto_region 2 with fail;rw [show (#[.int .u64 0,.int .u64 0,.int .u64 0,.int .u64 0,.int .u64 0,.int .u64 0,.int .u64 0,.int .u64 0]:Array Value)=((Qck 8 f 0).map Qad).toArray from rfl];obtain ⟨q2,hq2⟩:∃q,q=w.heap.size:=⟨_,rfl⟩
 obtain ⟨q3,hq3⟩:∃q,q=w.heap.size+1:=⟨_,rfl⟩
 rw [← hq3,← hq2] at HM ⊢;generalize (w.alloc _).alloc _=w1 at *;clear hq2 hq3;have HM0:Hid (Mem w w1 [⟨q2,101,(Qck 8 f 0).map Qad,true⟩,⟨q3,101,(Qck 8 f 0).map Qad,true⟩]):=LH (by simpa using HM.out);clear HM;go_wp2_with fail
 go_loopw [5] (fun iv wr=>∃i:Nat,i≤8∧iv=.int .i64 (i:Int)∧Hid (Mem w wr [⟨q2,101,(Qck 8 f 0).map Qad,true⟩,⟨q3,101,(Qck 8 f i).map Qad,true⟩])) (fun iv _=>8-(intOf iv).toNat)
 case atStart=>exact ⟨0,by omega,rfl,HM0⟩
 case round =>
  obtain ⟨i,hi,rfl,HM⟩:=hrel
  by_cases hlt:i<8
  ·have hlt':(i:Int)<8:=by omega
   have hz:(0:Int)+(i:Int)=(i:Int):=by omega
   obtain ⟨u,hu⟩:∃u,((Qck 8 f i).map Qad)[i]?=some u:=⟨_,GE (by rw [List.length_map,Qba];exact hlt)⟩
   have HS:Hid (Mem w (wr.setCell ⟨q3,i,none⟩ (Qad (f i))) [⟨q2,101,(Qck 8 f 0).map Qad,true⟩,⟨q3,101,(Qck 8 f (i+1)).map Qad,true⟩]):=LH (by
    have:=HM.out.set 1 i (Qad (f i)) rfl (by rw [List.length_map,Qba];exact hlt);rw [← Qch f hlt,List.map_set]
    exact this)
   have c0:wr.cell? ⟨q3,i,none⟩=some u:=HM.out.cell 1 i rfl hu;have f0:=HM.out.frozen 1 i rfl;have HGk:=LH (HG.out i wr HM.out.below);clear hu;go_wp2_with fail;refine HGk.out.mono ?_;rintro e w2 ⟨rfl,rfl⟩;go_wp2_with fail;exact ⟨⟨i+1,by omega,Qb2 (by omega),HS⟩,by simp [intOf];omega⟩
  ·have hi8:i=8:=by omega
   have hltd:decide ((i:Int)<8)=false:=by simp;omega
   rw [hi8,← HAll.out] at HM;clear hi8;go_wp2_with (first
    | (refine Qag Jf5 HM.out 1 rfl rfl rfl rfl (by rw [List.length_map,Qbl];rfl) ?_)
    | (refine Qaa Jf5 HM.out 0 rfl rfl rfl rfl rfl (by simp [Qbl]) (by simp [Qbl,Qba]) (by simp [Value.oneCell']) ?_;intro w6 h6 ht6;have H6:=LH h6;clear h6 ht6))
   refine bodyPost_ret (results_cell_row (p:=2) rfl _ _ _ _ _ _ _ rfl (H6.out.exact 0 rfl) Tryz.underlying101 rfl (by kernel_rfl)) rfl ?_;exact HP.out _ H6.out.below
theorem Qtm {n:Nat} (f:Nat→Nat) {i:Nat} (hi:i<n) (h:f i=0):Qck n f (i+1)=Qck n f i:=by
 apply List.ext_getElem?
 intro k;rw [Qnc,Qnc]
 by_cases e:k=i
 ·subst e;rw [if_pos hi,if_pos hi,if_pos (by omega),if_neg (by omega),h]
 ·by_cases h1:k<i
  ·rw [if_pos h1,if_pos (by omega:k<i+1)]
  ·rw [if_neg h1,if_neg (by omega:¬k<i+1)]
theorem Qhy:Agg Tryz.prog 154 #[.int .u64 0,.int .i64 0,.int .i64 0,.int .i64 0,.int .i64 0,.int .i64 0,.int .i64 0,.int .i64 0,.int .i64 0]:=⟨⟨_,Tryz.underlying154,rfl⟩,by kernel_rfl⟩
def Qd8 (ep:Nat) (ns:List Nat) (n:Nat):List Nat:=[ep,ns.getD (4*n) 0,ns.getD (4*n+1) 0,ns.getD (4*n+2) 0,ns.getD (4*n+3) 0,n,0]
def Qg2 (ep:Nat) (ns:List Nat) (n:Nat):List Nat:=Qd8 ep ns n ++ [Qbj (Qd8 ep ns n)]
def Qox (ep:Nat) (ns:List Nat):List Nat:=Qg2 ep ns 0 ++ Qg2 ep ns 1
def Qdl (ep:Nat) (rs:List Int):List Nat:=if Qda ep rs=true then Qox ep (rs.map Int.toNat) else List.replicate 16 0
theorem Qib:Agg Tryz.prog 113 #[.int .u64 0,.int .u64 0,.int .u64 0,.int .u64 0,.int .u64 0,.int .u64 0,.int .u64 0,.int .u64 0,.int .u64 0,.int .u64 0,.int .u64 0,.int .u64 0,.int .u64 0,.int .u64 0,.int .u64 0,.int .u64 0]:=⟨⟨_,Tryz.underlying113,rfl⟩,by kernel_rfl⟩
theorem Qhz {rs:List Int} {ep:Nat} (h:Qda ep rs=true):∀r∈rs,∃n:Nat,r=(n:Int)∧n<131072:=fun r hr=>by
 unfold Qda at h;rw [Bool.and_eq_true,List.all_eq_true] at h;have h1:=of_decide_eq_true (h.1 r hr);exact ⟨r.toNat,by omega,by omega⟩
theorem Qfu (ep:Nat) (rs:List Int):(Qdl ep rs).length=16:=by
 unfold Qdl
 split
 ·rfl
 ·simp
def Qko (ep:Nat) (rs:List Int) (w:World):Ending→World→Prop:=fun e w'=>e=.returned (Qgb (Qdl ep rs))∧Below w.heap.size w w'
theorem Qlt (ep:Nat) (rs:List Int) (hl:rs.length=8) (hep:ep<18446744073709551616) (w:World) :
  Calls Tryz.prog 155 #[Qbg ep rs] w (Qko ep rs w):=by
 have HP:Hid (∀w',Below w.heap.size w w'→Qko ep rs w (.returned (Qgb (Qdl ep rs))) w'):=LH (fun w' h=>⟨rfl,h⟩);generalize hPo:Qko ep rs w=Post at *;clear hPo;have HRt:=LH (fun w=>Qnn ep rs hl hep w);have HNat:=LH (fun (h:Qda ep rs=true)=>Qhz h);have HWd:Hid (Qdl ep rs=if Qda ep rs=true then Qox ep (rs.map Int.toNat) else List.replicate 16 0):=LH rfl;obtain ⟨a0,a1,a2,a3,a4,a5,a6,a7,rfl⟩:=Qcb hl;have hsv:Qbg ep [a0,a1,a2,a3,a4,a5,a6,a7]=.agg #[Qad ep,.int .i64 a0,.int .i64 a1,.int .i64 a2,.int .i64 a3,.int .i64 a4,.int .i64 a5,.int .i64 a6,.int .i64 a7]:=rfl;rw [hsv];rw [hsv] at HRt;have HM:=LH ((Mem.two w #[Qad ep,.int .i64 a0,.int .i64 a1,.int .i64 a2,.int .i64 a3,.int .i64 a4,.int .i64 a5,.int .i64 a6,.int .i64 a7] 154 #[.int .u64 0,.int .u64 0,.int .u64 0,.int .u64 0,.int .u64 0,.int .u64 0,.int .u64 0,.int .u64 0,.int .u64 0,.int .u64 0,.int .u64 0,.int .u64 0,.int .u64 0,.int .u64 0,.int .u64 0,.int .u64 0] 113).alloc #[.int .u64 0,.int .u64 0,.int .u64 0,.int .u64 0,.int .u64 0,.int .u64 0,.int .u64 0,.int .u64 0,.int .u64 0,.int .u64 0,.int .u64 0,.int .u64 0,.int .u64 0,.int .u64 0,.int .u64 0,.int .u64 0] 113);clear hsv hl;go_enter Tryz.func155,Tryz.ntmps155;go_upto_region 2 with fail;obtain ⟨q1,hq1⟩:∃q,q=w.heap.size:=⟨_,rfl⟩
 obtain ⟨q2,hq2⟩:∃q,q=w.heap.size+1:=⟨_,rfl⟩
 obtain ⟨q3,hq3⟩:∃q,q=w.heap.size+1+1:=⟨_,rfl⟩
 have HM0:Hid (Mem w (((w.alloc (.cells #[Qad ep,.int .i64 a0,.int .i64 a1,.int .i64 a2,.int .i64 a3,.int .i64 a4,.int .i64 a5,.int .i64 a6,.int .i64 a7] 154)).alloc (.cells #[.int .u64 0,.int .u64 0,.int .u64 0,.int .u64 0,.int .u64 0,.int .u64 0,.int .u64 0,.int .u64 0,.int .u64 0,.int .u64 0,.int .u64 0,.int .u64 0,.int .u64 0,.int .u64 0,.int .u64 0,.int .u64 0] 113)).alloc (.cells #[.int .u64 0,.int .u64 0,.int .u64 0,.int .u64 0,.int .u64 0,.int .u64 0,.int .u64 0,.int .u64 0,.int .u64 0,.int .u64 0,.int .u64 0,.int .u64 0,.int .u64 0,.int .u64 0,.int .u64 0,.int .u64 0] 113)) [⟨q1,154,[Qad ep,.int .i64 a0,.int .i64 a1,.int .i64 a2,.int .i64 a3,.int .i64 a4,.int .i64 a5,.int .i64 a6,.int .i64 a7],true⟩,⟨q2,113,(List.replicate 16 0).map Qad,true⟩,⟨q3,113,(List.replicate 16 0).map Qad,true⟩]):=LH (by
  have:=HM.out;simp only [World.size_alloc] at this
  rw [hq1,hq2,hq3]
  exact this)
 rw [← hq3,← hq2,← hq1];clear HM;obtain ⟨w1,hw1⟩:∃w1,w1=(((w.alloc (.cells #[Qad ep,.int .i64 a0,.int .i64 a1,.int .i64 a2,.int .i64 a3,.int .i64 a4,.int .i64 a5,.int .i64 a6,.int .i64 a7] 154)).alloc (.cells #[.int .u64 0,.int .u64 0,.int .u64 0,.int .u64 0,.int .u64 0,.int .u64 0,.int .u64 0,.int .u64 0,.int .u64 0,.int .u64 0,.int .u64 0,.int .u64 0,.int .u64 0,.int .u64 0,.int .u64 0,.int .u64 0] 113)).alloc (.cells #[.int .u64 0,.int .u64 0,.int .u64 0,.int .u64 0,.int .u64 0,.int .u64 0,.int .u64 0,.int .u64 0,.int .u64 0,.int .u64 0,.int .u64 0,.int .u64 0,.int .u64 0,.int .u64 0,.int .u64 0,.int .u64 0] 113)):=⟨_,rfl⟩
 rw [← hw1] at HM0 ⊢;clear hq1 hq2 hq3 hw1;go_wp2_with (refine Qag Qhy HM0.out 0 rfl rfl rfl rfl rfl ?_)
 refine (HRt.out w1).mono ?_;rintro e w2 ⟨rfl,hb2⟩;have HM2:=LH (HM0.out.later hb2);clear hb2 HM0
 by_cases hr:Qda ep [a0,a1,a2,a3,a4,a5,a6,a7]=true
 case neg =>
  have hrf:Qda ep [a0,a1,a2,a3,a4,a5,a6,a7]=false:=by simpa using hr
  rw [hrf];have HF:=LH (fun w' h=>HP.out w' h);rw [HWd.out,if_neg hr] at HF;clear hr;go_wp2_with (first
   | (refine Qag Qib HM2.out 2 rfl rfl rfl rfl rfl ?_)
   | (refine Qaa Qib HM2.out 1 rfl rfl rfl rfl rfl rfl rfl rfl ?_;intro w6 h6 ht6;have H6:=LH h6;clear h6 ht6))
  refine bodyPost_ret (results_cell_row (p:=2) rfl _ _ _ _ _ _ _ rfl (H6.out.exact 1 rfl) Tryz.underlying113 rfl (by kernel_rfl)) rfl ?_;exact HF.out _ H6.out.below
 rw [hr];have HF:=LH (fun w' h=>HP.out w' h);rw [HWd.out,if_pos hr] at HF;obtain ⟨n0,rfl,hn0⟩:=HNat.out hr a0 (by simp);obtain ⟨n1,rfl,hn1⟩:=HNat.out hr a1 (by simp);obtain ⟨n2,rfl,hn2⟩:=HNat.out hr a2 (by simp);obtain ⟨n3,rfl,hn3⟩:=HNat.out hr a3 (by simp);obtain ⟨n4,rfl,hn4⟩:=HNat.out hr a4 (by simp);obtain ⟨n5,rfl,hn5⟩:=HNat.out hr a5 (by simp);obtain ⟨n6,rfl,hn6⟩:=HNat.out hr a6 (by simp);obtain ⟨n7,rfl,hn7⟩:=HNat.out hr a7 (by simp);rw [show [(n0:Int),n1,n2,n3,n4,n5,n6,n7].map Int.toNat=[n0,n1,n2,n3,n4,n5,n6,n7] from rfl] at HF;obtain ⟨f,hf⟩:∃f:Nat→Nat,f=fun k=>(Qox ep [n0,n1,n2,n3,n4,n5,n6,n7]).getD k 0:=⟨_,rfl⟩
 have HAll:Hid (Qck 16 f 16=Qox ep [n0,n1,n2,n3,n4,n5,n6,n7]):=LH (by rw [Qit,hf];rfl);obtain ⟨s0,hs0⟩:∃s,s=Qbj (Qd8 ep [n0,n1,n2,n3,n4,n5,n6,n7] 0):=⟨_,rfl⟩
 obtain ⟨s1,hs1⟩:∃s,s=Qbj (Qd8 ep [n0,n1,n2,n3,n4,n5,n6,n7] 1):=⟨_,rfl⟩
 have f0:f 0=ep:=by rw [hf];rfl
 have f1:f 1=n0:=by rw [hf];rfl
 have f2:f 2=n1:=by rw [hf];rfl
 have f3:f 3=n2:=by rw [hf];rfl
 have f4:f 4=n3:=by rw [hf];rfl
 have f5:f 5=0:=by rw [hf];rfl
 have f6:f 6=0:=by rw [hf];rfl
 have f7:f 7=s0:=by rw [hf,hs0];rfl
 have f8:f 8=ep:=by rw [hf];rfl
 have f9:f 9=n4:=by rw [hf];rfl
 have f10:f 10=n5:=by rw [hf];rfl
 have f11:f 11=n6:=by rw [hf];rfl
 have f12:f 12=n7:=by rw [hf];rfl
 have f13:f 13=1:=by rw [hf];rfl
 have f14:f 14=0:=by rw [hf];rfl
 have f15:f 15=s1:=by rw [hf,hs1];rfl
 have hl0:s0<4294967296:=by rw [hs0];exact Qb6 _
 have hl1:s1<4294967296:=by rw [hs1];exact Qb6 _
 have HC0:=LH (fun (a:Option Addr) (cap:Nat) (w':World) (h:Qaq w' a ((Qd8 ep [n0,n1,n2,n3,n4,n5,n6,n7] 0).map Qad))=>Qdn a cap (Qd8 ep [n0,n1,n2,n3,n4,n5,n6,n7] 0) (n:=7) rfl w' h (by intro z hz;simp only [Qd8,List.mem_cons,List.not_mem_nil,or_false] at hz;rcases hz with rfl | rfl | rfl | rfl | rfl | rfl | rfl <;> (try simp) <;> omega) (by simp [Qd8]));have HC1:=LH (fun (a:Option Addr) (cap:Nat) (w':World) (h:Qaq w' a ((Qd8 ep [n0,n1,n2,n3,n4,n5,n6,n7] 1).map Qad))=>Qdn a cap (Qd8 ep [n0,n1,n2,n3,n4,n5,n6,n7] 1) (n:=7) rfl w' h (by intro z hz;simp only [Qd8,List.mem_cons,List.not_mem_nil,or_false] at hz;rcases hz with rfl | rfl | rfl | rfl | rfl | rfl | rfl <;> (try simp) <;> omega) (by simp [Qd8]));rw [← hs0] at HC0;rw [← hs1] at HC1;have HM3:Hid (Mem w w2 [⟨q1,154,[Qad ep,.int .i64 (n0:Int),.int .i64 (n1:Int),.int .i64 (n2:Int),.int .i64 (n3:Int),.int .i64 (n4:Int),.int .i64 (n5:Int),.int .i64 (n6:Int),.int .i64 (n7:Int)],true⟩,⟨q2,113,(List.replicate 16 0).map Qad,true⟩,⟨q3,113,(Qck 16 f (0)).map Qad,true⟩]):=LH (by rw [Qnd];exact HM2.out);clear hf hs0 hs1 HM2 HNat HWd hr;go_wp2_with fail
 go_loopw [11] (fun iv wr=>∃n:Nat,n≤2∧iv=.int .i64 (n:Int)∧Hid (Mem w wr [⟨q1,154,[Qad ep,.int .i64 (n0:Int),.int .i64 (n1:Int),.int .i64 (n2:Int),.int .i64 (n3:Int),.int .i64 (n4:Int),.int .i64 (n5:Int),.int .i64 (n6:Int),.int .i64 (n7:Int)],true⟩,⟨q2,113,(List.replicate 16 0).map Qad,true⟩,⟨q3,113,(Qck 16 f (8*n)).map Qad,true⟩])) (fun iv _=>2-(intOf iv).toNat)
 case atStart=>exact ⟨0,by omega,rfl,HM3⟩
 case round =>
  obtain ⟨n,hn,rfl,HM⟩:=hrel;rcases (by omega:n=0∨n=1∨n=2) with rfl | rfl | rfl
  ·rw [show ((0:Nat):Int)=0 from rfl];rw [show (8*0)=0 from rfl] at HM;have e0:=HM.out.cell 0 0 rfl rfl;obtain ⟨u,hu⟩:∃u,((Qck 16 f 0).map Qad)[0]?=some u:=⟨_,GE (by rw [List.length_map,Qba];omega)⟩
   have c0:wr.cell? ⟨q3,0,none⟩=some u:=HM.out.cell 2 0 rfl hu;have k0:=HM.out.frozen 2 0 rfl;have HS:Hid (Mem w (wr.setCell ⟨q3,0,none⟩ (Qad ep)) [⟨q1,154,[Qad ep,.int .i64 (n0:Int),.int .i64 (n1:Int),.int .i64 (n2:Int),.int .i64 (n3:Int),.int .i64 (n4:Int),.int .i64 (n5:Int),.int .i64 (n6:Int),.int .i64 (n7:Int)],true⟩,⟨q2,113,(List.replicate 16 0).map Qad,true⟩,⟨q3,113,(Qck 16 f (1)).map Qad,true⟩]):=LH (by
     have:=HM.out.set 2 0 (Qad (f 0)) rfl (by rw [List.length_map,Qba];omega);rw [← List.map_set,Qch f (by omega:0<16),f0] at this
     exact this)
   clear hu;go_wp2_with fail
   go_loopw [24] (fun iv wx=>∃i:Nat,i≤4∧iv=.int .i64 (i:Int)∧Hid (Mem w wx [⟨q1,154,[Qad ep,.int .i64 (n0:Int),.int .i64 (n1:Int),.int .i64 (n2:Int),.int .i64 (n3:Int),.int .i64 (n4:Int),.int .i64 (n5:Int),.int .i64 (n6:Int),.int .i64 (n7:Int)],true⟩,⟨q2,113,(List.replicate 16 0).map Qad,true⟩,⟨q3,113,(Qck 16 f (1+i)).map Qad,true⟩])) (fun iv _=>4-(intOf iv).toNat)
   case atStart=>exact ⟨0,by omega,rfl,HS⟩
   case round =>
    obtain ⟨i,hi,rfl,HMi⟩:=hrel;rcases (by omega:i=0∨i=1∨i=2∨i=3∨i=4) with rfl | rfl | rfl | rfl | rfl
    ·rw [show ((0:Nat):Int)=0 from rfl];rw [show 1+0=1 from rfl] at HMi;have e1:=HMi.out.cell 0 1 rfl rfl;obtain ⟨u1,hu⟩:∃u,((Qck 16 f 1).map Qad)[1]?=some u:=⟨_,GE (by rw [List.length_map,Qba];omega)⟩
     have c1:wr.cell? ⟨q3,1,none⟩=some u1:=HMi.out.cell 2 1 rfl hu;have k1:=HMi.out.frozen 2 1 rfl;have HT:Hid (Mem w (wr.setCell ⟨q3,1,none⟩ (Qad n0)) [⟨q1,154,[Qad ep,.int .i64 (n0:Int),.int .i64 (n1:Int),.int .i64 (n2:Int),.int .i64 (n3:Int),.int .i64 (n4:Int),.int .i64 (n5:Int),.int .i64 (n6:Int),.int .i64 (n7:Int)],true⟩,⟨q2,113,(List.replicate 16 0).map Qad,true⟩,⟨q3,113,(Qck 16 f (2)).map Qad,true⟩]):=LH (by
      have:=HMi.out.set 2 1 (Qad (f 1)) rfl (by rw [List.length_map,Qba];omega);rw [← List.map_set,Qch f (by omega:1<16),f1] at this
      exact this)
     clear hu;go_wp2_with fail;exact ⟨⟨1,by omega,rfl,HT⟩,by simp [intOf]⟩
    ·rw [show ((1:Nat):Int)=1 from rfl];rw [show 1+1=2 from rfl] at HMi;have e1:=HMi.out.cell 0 2 rfl rfl;obtain ⟨u1,hu⟩:∃u,((Qck 16 f 2).map Qad)[2]?=some u:=⟨_,GE (by rw [List.length_map,Qba];omega)⟩
     have c1:wr.cell? ⟨q3,2,none⟩=some u1:=HMi.out.cell 2 2 rfl hu;have k1:=HMi.out.frozen 2 2 rfl;have HT:Hid (Mem w (wr.setCell ⟨q3,2,none⟩ (Qad n1)) [⟨q1,154,[Qad ep,.int .i64 (n0:Int),.int .i64 (n1:Int),.int .i64 (n2:Int),.int .i64 (n3:Int),.int .i64 (n4:Int),.int .i64 (n5:Int),.int .i64 (n6:Int),.int .i64 (n7:Int)],true⟩,⟨q2,113,(List.replicate 16 0).map Qad,true⟩,⟨q3,113,(Qck 16 f (3)).map Qad,true⟩]):=LH (by
      have:=HMi.out.set 2 2 (Qad (f 2)) rfl (by rw [List.length_map,Qba];omega);rw [← List.map_set,Qch f (by omega:2<16),f2] at this
      exact this)
     clear hu;go_wp2_with fail;exact ⟨⟨2,by omega,rfl,HT⟩,by simp [intOf]⟩
    ·rw [show ((2:Nat):Int)=2 from rfl];rw [show 1+2=3 from rfl] at HMi;have e1:=HMi.out.cell 0 3 rfl rfl;obtain ⟨u1,hu⟩:∃u,((Qck 16 f 3).map Qad)[3]?=some u:=⟨_,GE (by rw [List.length_map,Qba];omega)⟩
     have c1:wr.cell? ⟨q3,3,none⟩=some u1:=HMi.out.cell 2 3 rfl hu;have k1:=HMi.out.frozen 2 3 rfl;have HT:Hid (Mem w (wr.setCell ⟨q3,3,none⟩ (Qad n2)) [⟨q1,154,[Qad ep,.int .i64 (n0:Int),.int .i64 (n1:Int),.int .i64 (n2:Int),.int .i64 (n3:Int),.int .i64 (n4:Int),.int .i64 (n5:Int),.int .i64 (n6:Int),.int .i64 (n7:Int)],true⟩,⟨q2,113,(List.replicate 16 0).map Qad,true⟩,⟨q3,113,(Qck 16 f (4)).map Qad,true⟩]):=LH (by
      have:=HMi.out.set 2 3 (Qad (f 3)) rfl (by rw [List.length_map,Qba];omega);rw [← List.map_set,Qch f (by omega:3<16),f3] at this
      exact this)
     clear hu;go_wp2_with fail;exact ⟨⟨3,by omega,rfl,HT⟩,by simp [intOf]⟩
    ·rw [show ((3:Nat):Int)=3 from rfl];rw [show 1+3=4 from rfl] at HMi;have e1:=HMi.out.cell 0 4 rfl rfl;obtain ⟨u1,hu⟩:∃u,((Qck 16 f 4).map Qad)[4]?=some u:=⟨_,GE (by rw [List.length_map,Qba];omega)⟩
     have c1:wr.cell? ⟨q3,4,none⟩=some u1:=HMi.out.cell 2 4 rfl hu;have k1:=HMi.out.frozen 2 4 rfl;have HT:Hid (Mem w (wr.setCell ⟨q3,4,none⟩ (Qad n3)) [⟨q1,154,[Qad ep,.int .i64 (n0:Int),.int .i64 (n1:Int),.int .i64 (n2:Int),.int .i64 (n3:Int),.int .i64 (n4:Int),.int .i64 (n5:Int),.int .i64 (n6:Int),.int .i64 (n7:Int)],true⟩,⟨q2,113,(List.replicate 16 0).map Qad,true⟩,⟨q3,113,(Qck 16 f (5)).map Qad,true⟩]):=LH (by
      have:=HMi.out.set 2 4 (Qad (f 4)) rfl (by rw [List.length_map,Qba];omega);rw [← List.map_set,Qch f (by omega:4<16),f4] at this
      exact this)
     clear hu;go_wp2_with fail;exact ⟨⟨4,by omega,rfl,HT⟩,by simp [intOf]⟩
    ·rw [show ((4:Nat):Int)=4 from rfl];rw [show 1+4=5 from rfl] at HMi;obtain ⟨u1,hu⟩:∃u,((Qck 16 f 5).map Qad)[5]?=some u:=⟨_,GE (by rw [List.length_map,Qba];omega)⟩
     have c1:wr.cell? ⟨q3,5,none⟩=some u1:=HMi.out.cell 2 5 rfl hu;have k1:=HMi.out.frozen 2 5 rfl;have HT:Hid (Mem w (wr.setCell ⟨q3,5,none⟩ (Qad 0)) [⟨q1,154,[Qad ep,.int .i64 (n0:Int),.int .i64 (n1:Int),.int .i64 (n2:Int),.int .i64 (n3:Int),.int .i64 (n4:Int),.int .i64 (n5:Int),.int .i64 (n6:Int),.int .i64 (n7:Int)],true⟩,⟨q2,113,(List.replicate 16 0).map Qad,true⟩,⟨q3,113,(Qck 16 f (7)).map Qad,true⟩]):=LH (by
      have:=HMi.out.set 2 5 (Qad (f 5)) rfl (by rw [List.length_map,Qba];omega);rw [← List.map_set,Qch f (by omega:5<16),f5,show 5+1=6 from rfl,← Qtm f (by omega:6<16) f6] at this
      exact this)
     clear hu;go_upto_region 15 with fail;generalize wr.setCell ⟨q3,5,none⟩ (Qad 0)=wy at *;have HCe:Hid (Qaq wy (some ⟨q3,0,none⟩) ((Qd8 ep [n0,n1,n2,n3,n4,n5,n6,n7] 0).map Qad)):=LH (by
      have:=(((HT.out.at 2 rfl).cells).drop 0).take 7;have h2:((Qck 16 f 7).drop 0).take 7=Qd8 ep [n0,n1,n2,n3,n4,n5,n6,n7] 0:=by
       simp [Qck,List.range,List.range.loop,Qd8,f0,f1,f2,f3,f4,f5,f6]
      rw [← List.map_drop,← List.map_take,h2] at this
      simpa using this)
     have HCc:=LH (HC0.out _ 16 wy HCe.out);go_wp2_with fail;refine HCc.out.mono ?_;rintro e w5 ⟨rfl,hb5⟩;have HM5:=LH (HT.out.later hb5);obtain ⟨u2,hu⟩:∃u,((Qck 16 f 7).map Qad)[7]?=some u:=⟨_,GE (by rw [List.length_map,Qba];omega)⟩
     have c2:w5.cell? ⟨q3,7,none⟩=some u2:=HM5.out.cell 2 7 rfl hu;have k2:=HM5.out.frozen 2 7 rfl;have HS5:Hid (Mem w (w5.setCell ⟨q3,7,none⟩ (Qad s0)) [⟨q1,154,[Qad ep,.int .i64 (n0:Int),.int .i64 (n1:Int),.int .i64 (n2:Int),.int .i64 (n3:Int),.int .i64 (n4:Int),.int .i64 (n5:Int),.int .i64 (n6:Int),.int .i64 (n7:Int)],true⟩,⟨q2,113,(List.replicate 16 0).map Qad,true⟩,⟨q3,113,(Qck 16 f (8)).map Qad,true⟩]):=LH (by
      have:=HM5.out.set 2 7 (Qad (f 7)) rfl (by rw [List.length_map,Qba];omega);rw [← List.map_set,Qch f (by omega:7<16),f7] at this
      exact this)
     clear hu hb5;go_wp2_with fail;exact ⟨⟨1,by omega,rfl,HS5⟩,by simp [intOf]⟩
  ·rw [show ((1:Nat):Int)=1 from rfl];rw [show (8*1)=8 from rfl] at HM;have e0:=HM.out.cell 0 0 rfl rfl;obtain ⟨u,hu⟩:∃u,((Qck 16 f 8).map Qad)[8]?=some u:=⟨_,GE (by rw [List.length_map,Qba];omega)⟩
   have c0:wr.cell? ⟨q3,8,none⟩=some u:=HM.out.cell 2 8 rfl hu;have k0:=HM.out.frozen 2 8 rfl;have HS:Hid (Mem w (wr.setCell ⟨q3,8,none⟩ (Qad ep)) [⟨q1,154,[Qad ep,.int .i64 (n0:Int),.int .i64 (n1:Int),.int .i64 (n2:Int),.int .i64 (n3:Int),.int .i64 (n4:Int),.int .i64 (n5:Int),.int .i64 (n6:Int),.int .i64 (n7:Int)],true⟩,⟨q2,113,(List.replicate 16 0).map Qad,true⟩,⟨q3,113,(Qck 16 f (9)).map Qad,true⟩]):=LH (by
     have:=HM.out.set 2 8 (Qad (f 8)) rfl (by rw [List.length_map,Qba];omega);rw [← List.map_set,Qch f (by omega:8<16),f8] at this
     exact this)
   clear hu;go_wp2_with fail
   go_loopw [24] (fun iv wx=>∃i:Nat,i≤4∧iv=.int .i64 (i:Int)∧Hid (Mem w wx [⟨q1,154,[Qad ep,.int .i64 (n0:Int),.int .i64 (n1:Int),.int .i64 (n2:Int),.int .i64 (n3:Int),.int .i64 (n4:Int),.int .i64 (n5:Int),.int .i64 (n6:Int),.int .i64 (n7:Int)],true⟩,⟨q2,113,(List.replicate 16 0).map Qad,true⟩,⟨q3,113,(Qck 16 f (9+i)).map Qad,true⟩])) (fun iv _=>4-(intOf iv).toNat)
   case atStart=>exact ⟨0,by omega,rfl,HS⟩
   case round =>
    obtain ⟨i,hi,rfl,HMi⟩:=hrel;rcases (by omega:i=0∨i=1∨i=2∨i=3∨i=4) with rfl | rfl | rfl | rfl | rfl
    ·rw [show ((0:Nat):Int)=0 from rfl];rw [show 9+0=9 from rfl] at HMi;have e1:=HMi.out.cell 0 5 rfl rfl;obtain ⟨u1,hu⟩:∃u,((Qck 16 f 9).map Qad)[9]?=some u:=⟨_,GE (by rw [List.length_map,Qba];omega)⟩
     have c1:wr.cell? ⟨q3,9,none⟩=some u1:=HMi.out.cell 2 9 rfl hu;have k1:=HMi.out.frozen 2 9 rfl;have HT:Hid (Mem w (wr.setCell ⟨q3,9,none⟩ (Qad n4)) [⟨q1,154,[Qad ep,.int .i64 (n0:Int),.int .i64 (n1:Int),.int .i64 (n2:Int),.int .i64 (n3:Int),.int .i64 (n4:Int),.int .i64 (n5:Int),.int .i64 (n6:Int),.int .i64 (n7:Int)],true⟩,⟨q2,113,(List.replicate 16 0).map Qad,true⟩,⟨q3,113,(Qck 16 f (10)).map Qad,true⟩]):=LH (by
      have:=HMi.out.set 2 9 (Qad (f 9)) rfl (by rw [List.length_map,Qba];omega);rw [← List.map_set,Qch f (by omega:9<16),f9] at this
      exact this)
     clear hu;go_wp2_with fail;exact ⟨⟨1,by omega,rfl,HT⟩,by simp [intOf]⟩
    ·rw [show ((1:Nat):Int)=1 from rfl];rw [show 9+1=10 from rfl] at HMi;have e1:=HMi.out.cell 0 6 rfl rfl;obtain ⟨u1,hu⟩:∃u,((Qck 16 f 10).map Qad)[10]?=some u:=⟨_,GE (by rw [List.length_map,Qba];omega)⟩
     have c1:wr.cell? ⟨q3,10,none⟩=some u1:=HMi.out.cell 2 10 rfl hu;have k1:=HMi.out.frozen 2 10 rfl;have HT:Hid (Mem w (wr.setCell ⟨q3,10,none⟩ (Qad n5)) [⟨q1,154,[Qad ep,.int .i64 (n0:Int),.int .i64 (n1:Int),.int .i64 (n2:Int),.int .i64 (n3:Int),.int .i64 (n4:Int),.int .i64 (n5:Int),.int .i64 (n6:Int),.int .i64 (n7:Int)],true⟩,⟨q2,113,(List.replicate 16 0).map Qad,true⟩,⟨q3,113,(Qck 16 f (11)).map Qad,true⟩]):=LH (by
      have:=HMi.out.set 2 10 (Qad (f 10)) rfl (by rw [List.length_map,Qba];omega);rw [← List.map_set,Qch f (by omega:10<16),f10] at this
      exact this)
     clear hu;go_wp2_with fail;exact ⟨⟨2,by omega,rfl,HT⟩,by simp [intOf]⟩
    ·rw [show ((2:Nat):Int)=2 from rfl];rw [show 9+2=11 from rfl] at HMi;have e1:=HMi.out.cell 0 7 rfl rfl;obtain ⟨u1,hu⟩:∃u,((Qck 16 f 11).map Qad)[11]?=some u:=⟨_,GE (by rw [List.length_map,Qba];omega)⟩
     have c1:wr.cell? ⟨q3,11,none⟩=some u1:=HMi.out.cell 2 11 rfl hu;have k1:=HMi.out.frozen 2 11 rfl;have HT:Hid (Mem w (wr.setCell ⟨q3,11,none⟩ (Qad n6)) [⟨q1,154,[Qad ep,.int .i64 (n0:Int),.int .i64 (n1:Int),.int .i64 (n2:Int),.int .i64 (n3:Int),.int .i64 (n4:Int),.int .i64 (n5:Int),.int .i64 (n6:Int),.int .i64 (n7:Int)],true⟩,⟨q2,113,(List.replicate 16 0).map Qad,true⟩,⟨q3,113,(Qck 16 f (12)).map Qad,true⟩]):=LH (by
      have:=HMi.out.set 2 11 (Qad (f 11)) rfl (by rw [List.length_map,Qba];omega);rw [← List.map_set,Qch f (by omega:11<16),f11] at this
      exact this)
     clear hu;go_wp2_with fail;exact ⟨⟨3,by omega,rfl,HT⟩,by simp [intOf]⟩
    ·rw [show ((3:Nat):Int)=3 from rfl];rw [show 9+3=12 from rfl] at HMi;have e1:=HMi.out.cell 0 8 rfl rfl;obtain ⟨u1,hu⟩:∃u,((Qck 16 f 12).map Qad)[12]?=some u:=⟨_,GE (by rw [List.length_map,Qba];omega)⟩
     have c1:wr.cell? ⟨q3,12,none⟩=some u1:=HMi.out.cell 2 12 rfl hu;have k1:=HMi.out.frozen 2 12 rfl;have HT:Hid (Mem w (wr.setCell ⟨q3,12,none⟩ (Qad n7)) [⟨q1,154,[Qad ep,.int .i64 (n0:Int),.int .i64 (n1:Int),.int .i64 (n2:Int),.int .i64 (n3:Int),.int .i64 (n4:Int),.int .i64 (n5:Int),.int .i64 (n6:Int),.int .i64 (n7:Int)],true⟩,⟨q2,113,(List.replicate 16 0).map Qad,true⟩,⟨q3,113,(Qck 16 f (13)).map Qad,true⟩]):=LH (by
      have:=HMi.out.set 2 12 (Qad (f 12)) rfl (by rw [List.length_map,Qba];omega);rw [← List.map_set,Qch f (by omega:12<16),f12] at this
      exact this)
     clear hu;go_wp2_with fail;exact ⟨⟨4,by omega,rfl,HT⟩,by simp [intOf]⟩
    ·rw [show ((4:Nat):Int)=4 from rfl];rw [show 9+4=13 from rfl] at HMi;obtain ⟨u1,hu⟩:∃u,((Qck 16 f 13).map Qad)[13]?=some u:=⟨_,GE (by rw [List.length_map,Qba];omega)⟩
     have c1:wr.cell? ⟨q3,13,none⟩=some u1:=HMi.out.cell 2 13 rfl hu;have k1:=HMi.out.frozen 2 13 rfl;have HT:Hid (Mem w (wr.setCell ⟨q3,13,none⟩ (Qad 1)) [⟨q1,154,[Qad ep,.int .i64 (n0:Int),.int .i64 (n1:Int),.int .i64 (n2:Int),.int .i64 (n3:Int),.int .i64 (n4:Int),.int .i64 (n5:Int),.int .i64 (n6:Int),.int .i64 (n7:Int)],true⟩,⟨q2,113,(List.replicate 16 0).map Qad,true⟩,⟨q3,113,(Qck 16 f (15)).map Qad,true⟩]):=LH (by
      have:=HMi.out.set 2 13 (Qad (f 13)) rfl (by rw [List.length_map,Qba];omega);rw [← List.map_set,Qch f (by omega:13<16),f13,show 13+1=14 from rfl,← Qtm f (by omega:14<16) f14] at this
      exact this)
     clear hu;go_upto_region 15 with fail;generalize wr.setCell ⟨q3,13,none⟩ (Qad 1)=wy at *;have HCe:Hid (Qaq wy (some ⟨q3,8,none⟩) ((Qd8 ep [n0,n1,n2,n3,n4,n5,n6,n7] 1).map Qad)):=LH (by
      have:=(((HT.out.at 2 rfl).cells).drop 8).take 7;have h2:((Qck 16 f 15).drop 8).take 7=Qd8 ep [n0,n1,n2,n3,n4,n5,n6,n7] 1:=by
       simp [Qck,List.range,List.range.loop,Qd8,f8,f9,f10,f11,f12,f13,f14]
      rw [← List.map_drop,← List.map_take,h2] at this
      simpa using this)
     have HCc:=LH (HC1.out _ 8 wy HCe.out);go_wp2_with fail;refine HCc.out.mono ?_;rintro e w5 ⟨rfl,hb5⟩;have HM5:=LH (HT.out.later hb5);obtain ⟨u2,hu⟩:∃u,((Qck 16 f 15).map Qad)[15]?=some u:=⟨_,GE (by rw [List.length_map,Qba];omega)⟩
     have c2:w5.cell? ⟨q3,15,none⟩=some u2:=HM5.out.cell 2 15 rfl hu;have k2:=HM5.out.frozen 2 15 rfl;have HS5:Hid (Mem w (w5.setCell ⟨q3,15,none⟩ (Qad s1)) [⟨q1,154,[Qad ep,.int .i64 (n0:Int),.int .i64 (n1:Int),.int .i64 (n2:Int),.int .i64 (n3:Int),.int .i64 (n4:Int),.int .i64 (n5:Int),.int .i64 (n6:Int),.int .i64 (n7:Int)],true⟩,⟨q2,113,(List.replicate 16 0).map Qad,true⟩,⟨q3,113,(Qck 16 f (16)).map Qad,true⟩]):=LH (by
      have:=HM5.out.set 2 15 (Qad (f 15)) rfl (by rw [List.length_map,Qba];omega);rw [← List.map_set,Qch f (by omega:15<16),f15] at this
      exact this)
     clear hu hb5;go_wp2_with fail;exact ⟨⟨2,by omega,rfl,HS5⟩,by simp [intOf]⟩
  ·rw [show ((2:Nat):Int)=2 from rfl];rw [show (8*2)=16 from rfl,HAll.out] at HM;go_wp2_with (first
    | (refine Qag Qib HM.out 2 rfl rfl rfl rfl rfl ?_)
    | (refine Qaa Qib HM.out 1 rfl rfl rfl rfl rfl rfl rfl rfl ?_;intro w6 h6 ht6;have H6:=LH h6;clear h6 ht6))
   refine bodyPost_ret (results_cell_row (p:=2) rfl _ _ _ _ _ _ _ rfl (H6.out.exact 1 rfl) Tryz.underlying113 rfl (by kernel_rfl)) rfl ?_;exact HF.out _ H6.out.below
theorem Qz8 (w:World) (xs ys:List Nat) (hx:xs.length=16) (hy:ys.length=16):(Op.equalIn 10000 113 (.agg (xs.map Qad).toArray) (.agg (ys.map Qad).toArray)).run Tryz.prog w=.ok (decide (xs=ys)) w:=by
 obtain ⟨i,hi⟩:=Option.isSome_iff_exists.1 Qut;have hn:∀l:List Nat,l.map Qad=(l.map (fun n:Nat=>(n:Int))).map (Value.int .u64):=by intro l;simp
 rw [show (10000:Nat)=9999+1 from rfl,run_equalIn_array w 9999 _ _ Tryz.underlying113 hi,Qrb,show (9999:Nat)=9998+1 from rfl,hn xs,hn ys];obtain ⟨b,hb,hiff⟩:=Qde Tryz.underlying40 9998 w (xs.map (fun n:Nat=>(n:Int))) (ys.map (fun n:Nat=>(n:Int))) (List.range 16) (fun i hi=>by simp at hi;simp;omega);rw [hb];have:b=decide (xs=ys):=by
  rw [Bool.eq_iff_iff,hiff,decide_eq_true_iff];constructor
  ·intro h
   apply List.ext_getElem (by rw [hx,hy])
   intro i h1 h2;have:=h i (by simp;omega);simp [h1,h2] at this
   omega
  ·rintro rfl;simp
 rw [this]
theorem Qcp {ws:List Nat} (h:ws.length=16):∃a0 a1 a2 a3 a4 a5 a6 a7 a8 a9 a10 a11 a12 a13 a14 a15,ws=[a0,a1,a2,a3,a4,a5,a6,a7,a8,a9,a10,a11,a12,a13,a14,a15]:=by
 match ws,h with
 | [a0,a1,a2,a3,a4,a5,a6,a7,a8,a9,a10,a11,a12,a13,a14,a15],_=>exact ⟨a0,a1,a2,a3,a4,a5,a6,a7,a8,a9,a10,a11,a12,a13,a14,a15,rfl⟩
def Qce (n:Nat):Nat:=min n 1099511627776
def Qpa (ws:List Nat):List Int:=[((Qce (ws.getD 1 0):Nat):Int),((Qce (ws.getD 2 0):Nat):Int),((Qce (ws.getD 3 0):Nat):Int),((Qce (ws.getD 4 0):Nat):Int),((Qce (ws.getD 9 0):Nat):Int),((Qce (ws.getD 10 0):Nat):Int),((Qce (ws.getD 11 0):Nat):Int),((Qce (ws.getD 12 0):Nat):Int)]
def Qdv (ws:List Nat):Nat × List Int × Int :=
 if ws.getD 7 0≠Qbj (ws.take 7) then (0,[0,0,0,0,0,0,0,0],25) else
 if ws.getD 15 0≠Qbj ((ws.drop 8).take 7) then (0,[0,0,0,0,0,0,0,0],25) else
 if Qda (ws.getD 0 0) (Qpa ws)=true∧Qdl (ws.getD 0 0) (Qpa ws)=ws then (ws.getD 0 0,Qpa ws,0) else (0,[0,0,0,0,0,0,0,0],26)
def Qm3 (f:Nat→Nat) (i:Nat):List Value:=(List.range 8).map (fun k=>.int .i64 (if k<i then (f k:Int) else 0))
theorem Qcy (f:Nat→Nat) (i:Nat):(Qm3 f i).length=8:=by simp [Qm3]
theorem Qf2 (f:Nat→Nat) {i:Nat} (hi:i<8):(Qm3 f i).set i (.int .i64 (f i:Int))=Qm3 f (i+1):=by
 unfold Qm3
 apply List.ext_getElem?
 intro k;rw [List.getElem?_set];simp only [List.getElem?_map,List.length_map,List.length_range]
 by_cases e:i=k
 ·subst e;rw [if_pos rfl,if_pos hi,GE (by simpa using hi),List.getElem_range];simp
 ·rw [if_neg e]
  by_cases h:k<8
  ·rw [GE (by simpa using h),List.getElem_range]
   by_cases h2:k<i
   ·simp [h2,show k<i+1 by omega]
   ·simp [h2,show ¬k<i+1 by omega]
  ·rw [List.getElem?_eq_none (by simp;omega)];rfl
def SlD (r:Nat × List Int × Int) (w:World):Ending→World→Prop:=fun e w'=>e=.returned (.tuple #[Qbg r.1 r.2.1,.int .i64 r.2.2])∧Below w.heap.size w w'
theorem Ql2 (ws:List Nat) (hl:ws.length=16) (hu:∀z∈ws,z<18446744073709551616) (w:World) :
  Calls Tryz.prog 140 #[Qgb ws] w (SlD (Qdv ws) w):=by
 have HP:Hid (∀(n:Nat) (rs:List Int) (e:Int) w',(n,rs,e)=Qdv ws→Below w.heap.size w w'→SlD (Qdv ws) w (.returned (.tuple #[Qbg n rs,.int .i64 e])) w'):=LH (fun n id e w' h1 h2=>by rw [← h1];exact ⟨rfl,h2⟩);generalize hPo:SlD (Qdv ws) w=Post at *;clear hPo;have hr':∀i,ws.getD i 0<18446744073709551616:=fun i=>by
  rw [GD]
  cases h:ws[i]? with
  | none=>simp
  | some x=>exact hu x (List.mem_of_getElem? h)
 obtain ⟨a0,a1,a2,a3,a4,a5,a6,a7,a8,a9,a10,a11,a12,a13,a14,a15,rfl⟩:=Qcp hl;obtain ⟨rs,hrs⟩:∃rs,rs=Qpa [a0,a1,a2,a3,a4,a5,a6,a7,a8,a9,a10,a11,a12,a13,a14,a15]:=⟨_,rfl⟩
 have HRs:Hid (rs=[Qce a1,Qce a2,Qce a3,Qce a4,Qce a9,Qce a10,Qce a11,Qce a12].map (fun n:Nat=>(n:Int))):=LH hrs;have HU:=LH hu;have h0:a0<18446744073709551616:=hr' 0;have h1:a1<18446744073709551616:=hr' 1;have h2:a2<18446744073709551616:=hr' 2;have h3:a3<18446744073709551616:=hr' 3;have h4:a4<18446744073709551616:=hr' 4;have h5:a5<18446744073709551616:=hr' 5;have h6:a6<18446744073709551616:=hr' 6;have h7:a7<18446744073709551616:=hr' 7;have h8:a8<18446744073709551616:=hr' 8;have h9:a9<18446744073709551616:=hr' 9;have h10:a10<18446744073709551616:=hr' 10;have h11:a11<18446744073709551616:=hr' 11;have h12:a12<18446744073709551616:=hr' 12;have h13:a13<18446744073709551616:=hr' 13;have h14:a14<18446744073709551616:=hr' 14;have h15:a15<18446744073709551616:=hr' 15;have HD:Hid (Qdv [a0,a1,a2,a3,a4,a5,a6,a7,a8,a9,a10,a11,a12,a13,a14,a15]=if a7≠Qbj [a0,a1,a2,a3,a4,a5,a6] then (0,[0,0,0,0,0,0,0,0],25) else if a15≠Qbj [a8,a9,a10,a11,a12,a13,a14] then (0,[0,0,0,0,0,0,0,0],25) else if Qda a0 rs=true∧Qdl a0 rs=[a0,a1,a2,a3,a4,a5,a6,a7,a8,a9,a10,a11,a12,a13,a14,a15] then (a0,rs,0) else (0,[0,0,0,0,0,0,0,0],26)):=LH (by rw [hrs];rfl);rw [HD.out] at HP;clear hu hl hrs hr' HD;rw [show Qgb [a0,a1,a2,a3,a4,a5,a6,a7,a8,a9,a10,a11,a12,a13,a14,a15]=.agg #[Qad a0,Qad a1,Qad a2,Qad a3,Qad a4,Qad a5,Qad a6,Qad a7,Qad a8,Qad a9,Qad a10,Qad a11,Qad a12,Qad a13,Qad a14,Qad a15] from rfl];have HM:=LH (Mem.two w #[Qad a0,Qad a1,Qad a2,Qad a3,Qad a4,Qad a5,Qad a6,Qad a7,Qad a8,Qad a9,Qad a10,Qad a11,Qad a12,Qad a13,Qad a14,Qad a15] 113 #[.int .u64 0,.int .i64 0,.int .i64 0,.int .i64 0,.int .i64 0,.int .i64 0,.int .i64 0,.int .i64 0,.int .i64 0] 154)
 go_enter Tryz.func140,Tryz.ntmps140;go_upto_region 1 with fail;obtain ⟨q1,hq1⟩:∃q,q=w.heap.size:=⟨_,rfl⟩
 obtain ⟨q2,hq2⟩:∃q,q=w.heap.size+1:=⟨_,rfl⟩
 rw [← hq2,← hq1] at HM ⊢;generalize (w.alloc _).alloc _=w1 at *;clear hq1 hq2;have HM1:Hid (Mem w w1 [⟨q1,113,[a0,a1,a2,a3,a4,a5,a6,a7,a8,a9,a10,a11,a12,a13,a14,a15].map Qad,true⟩,⟨q2,154,[.int .u64 0,.int .i64 0,.int .i64 0,.int .i64 0,.int .i64 0,.int .i64 0,.int .i64 0,.int .i64 0,.int .i64 0],true⟩]):=LH (by simpa using HM.out);clear HM;go_wp2_with fail
 go_loopw [8] (fun iv wr=>∃n:Nat,n≤2∧iv=.int .i64 (n:Int)∧Hid (1≤n→a7=Qbj [a0,a1,a2,a3,a4,a5,a6])∧Hid (2≤n→a15=Qbj [a8,a9,a10,a11,a12,a13,a14])∧Hid (Mem w wr [⟨q1,113,[a0,a1,a2,a3,a4,a5,a6,a7,a8,a9,a10,a11,a12,a13,a14,a15].map Qad,true⟩,⟨q2,154,[.int .u64 0,.int .i64 0,.int .i64 0,.int .i64 0,.int .i64 0,.int .i64 0,.int .i64 0,.int .i64 0,.int .i64 0],true⟩])) (fun iv _=>2-(intOf iv).toNat)
 case atStart=>exact ⟨0,by omega,rfl,LH (fun h=>by omega),LH (fun h=>by omega),HM1⟩
 case round =>
  obtain ⟨n,hn,rfl,H7,H15,HM⟩:=hrel;rcases (by omega:n=0∨n=1∨n=2) with rfl | rfl | rfl
  ·rw [show ((0:Nat):Int)=0 from rfl];have d7:=HM.out.cell 0 7 rfl rfl;go_upto_region 5 with fail;have r7:=fun x=>Qab d7 x
   clear d7;refine Qai (C:=fun w'=>∃x:Qbi (wr),w'=x.val) [.fl [0,1,2,3,4],.sq [5] true,.fl [6],.sq [7] false] (by kernel_rfl) (by kernel_rfl) (by intro c a d v w h;cases d <;> exact h) ?_;simp only [Qdj,Qa3,List.getElem?_cons_succ,List.getElem?_cons_zero]
   have hC1:=Qaj (wr);refine Qak hC1 ?_
   repeat (first|go_big_quiet_step (fail)|quiet_step (fail))
   refine wpQuiet_nil ?_;have HMa:=LH (HM.out.later (Qae hC1));clear r7;refine Qah (fun K hK=>?_);go_wp2_with fail;refine (Qdn (some ⟨q1,0,none⟩) 16 [a0,a1,a2,a3,a4,a5,a6] rfl _ (by simpa using (((HMa.out.at 0 rfl).cells).drop 0).take 7) (fun z hz=>HU.out z (List.mem_of_mem_take (List.mem_of_mem_drop (l:=List.take 7 [a0,a1,a2,a3,a4,a5,a6,a7,a8,a9,a10,a11,a12,a13,a14,a15]) (i:=0) (by simpa using hz)))) (by simp)).mono ?_;rintro e w2 ⟨rfl,hb2⟩;have hC2:=Qan hC1 hb2;have HM2:=LH (HMa.out.later hb2);have hlt:=Qb6 [a0,a1,a2,a3,a4,a5,a6];obtain ⟨cr,hcr⟩:∃cr,cr=Qbj [a0,a1,a2,a3,a4,a5,a6]:=⟨_,rfl⟩
   rw [← hcr] at hlt ⊢;have HCr:=LH hcr;clear hb2 hcr HMa;go_wp2_with fail;refine hK _ _ (fun _=>hC2) ?_;clear hK K;refine Qak hC2 ?_
   repeat (first|go_big_quiet_step (fail)|quiet_step (fail))
   refine wpQuiet_nil ?_;clear hC1 hC2
   by_cases e7:a7=cr
   case neg =>
    have e7':((a7:Int) == (cr:Int))=false:=by rw [beq_eq_false_iff_ne];omega
    have HF:=LH (fun w' h=>HP.out 0 [0,0,0,0,0,0,0,0] 25 w' (by rw [if_pos (by rw [← HCr.out];exact e7)]) h);clear e7;refine Qal ?_;go_wp2_with (refine Qaa Qhy HM2.out 1 rfl rfl rfl rfl rfl rfl rfl rfl ?_;intro w6 h6 ht6;have H6:=LH h6;clear h6 ht6)
    refine bodyPost_ret (Qac (p:=2) (u:=3) rfl _ _ _ _ _ _ _ rfl (H6.out.exact 1 rfl) Tryz.underlying154 rfl (by kernel_rfl)) rfl ?_;exact HF.out _ H6.out.below
   have e7':((a7:Int) == (cr:Int))=true:=by rw [beq_iff_eq,e7]
   have HE7:Hid (a7=Qbj [a0,a1,a2,a3,a4,a5,a6]):=LH (by rw [← HCr.out];exact e7);clear e7;refine Qal ?_;go_wp2_with fail;exact ⟨⟨1,by omega,rfl,LH (fun _=>HE7.out),LH (fun h=>by omega),HM2⟩,by simp [intOf]⟩
  ·rw [show ((1:Nat):Int)=1 from rfl];have d7:=HM.out.cell 0 15 rfl rfl;go_upto_region 5 with fail;have r7:=fun x=>Qab d7 x
   clear d7;refine Qai (C:=fun w'=>∃x:Qbi (wr),w'=x.val) [.fl [0,1,2,3,4],.sq [5] true,.fl [6],.sq [7] false] (by kernel_rfl) (by kernel_rfl) (by intro c a d v w h;cases d <;> exact h) ?_;simp only [Qdj,Qa3,List.getElem?_cons_succ,List.getElem?_cons_zero]
   have hC1:=Qaj (wr);refine Qak hC1 ?_
   repeat (first|go_big_quiet_step (fail)|quiet_step (fail))
   refine wpQuiet_nil ?_;have HMa:=LH (HM.out.later (Qae hC1));clear r7;refine Qah (fun K hK=>?_);go_wp2_with fail;refine (Qdn (some ⟨q1,8,none⟩) 8 [a8,a9,a10,a11,a12,a13,a14] rfl _ (by simpa using (((HMa.out.at 0 rfl).cells).drop 8).take 7) (fun z hz=>HU.out z (List.mem_of_mem_take (List.mem_of_mem_drop (l:=List.take 15 [a0,a1,a2,a3,a4,a5,a6,a7,a8,a9,a10,a11,a12,a13,a14,a15]) (i:=8) (by simpa using hz)))) (by simp)).mono ?_;rintro e w2 ⟨rfl,hb2⟩;have hC2:=Qan hC1 hb2;have HM2:=LH (HMa.out.later hb2);have hlt:=Qb6 [a8,a9,a10,a11,a12,a13,a14];obtain ⟨cr,hcr⟩:∃cr,cr=Qbj [a8,a9,a10,a11,a12,a13,a14]:=⟨_,rfl⟩
   rw [← hcr] at hlt ⊢;have HCr:=LH hcr;clear hb2 hcr HMa;go_wp2_with fail;refine hK _ _ (fun _=>hC2) ?_;clear hK K;refine Qak hC2 ?_
   repeat (first|go_big_quiet_step (fail)|quiet_step (fail))
   refine wpQuiet_nil ?_;clear hC1 hC2
   by_cases e7:a15=cr
   case neg =>
    have e7':((a15:Int) == (cr:Int))=false:=by rw [beq_eq_false_iff_ne];omega
    have HH7:=LH (H7.out (by omega));have HF:=LH (fun w' h=>HP.out 0 [0,0,0,0,0,0,0,0] 25 w' (by rw [if_neg (by rw [← HH7.out];simp),if_pos (by rw [← HCr.out];exact e7)]) h);clear e7;refine Qal ?_;go_wp2_with (refine Qaa Qhy HM2.out 1 rfl rfl rfl rfl rfl rfl rfl rfl ?_;intro w6 h6 ht6;have H6:=LH h6;clear h6 ht6)
    refine bodyPost_ret (Qac (p:=2) (u:=3) rfl _ _ _ _ _ _ _ rfl (H6.out.exact 1 rfl) Tryz.underlying154 rfl (by kernel_rfl)) rfl ?_;exact HF.out _ H6.out.below
   have e7':((a15:Int) == (cr:Int))=true:=by rw [beq_iff_eq,e7]
   have HE7:Hid (a15=Qbj [a8,a9,a10,a11,a12,a13,a14]):=LH (by rw [← HCr.out];exact e7);clear e7;refine Qal ?_;go_wp2_with fail;exact ⟨⟨2,by omega,rfl,LH (fun _=>H7.out (by omega)),LH (fun _=>HE7.out),HM2⟩,by simp [intOf]⟩
  ·rw [show ((2:Nat):Int)=2 from rfl];have H7:=LH (H7.out (by omega));have H15:=LH (H15.out (by omega));have HP2:Hid (∀(n:Nat) (rs':List Int) (e:Int) w',(n,rs',e)=(if Qda a0 rs=true∧Qdl a0 rs=[a0,a1,a2,a3,a4,a5,a6,a7,a8,a9,a10,a11,a12,a13,a14,a15] then (a0,rs,0) else (0,[0,0,0,0,0,0,0,0],26))→Below w.heap.size w w'→Post (.returned (.tuple #[Qbg n rs',.int .i64 e])) w'):=LH (fun n rs' e w' h1 h2=>HP.out n rs' e w' (by rw [if_neg (show ¬(a7≠Qbj [a0,a1,a2,a3,a4,a5,a6]) from fun e=>e H7.out),if_neg (show ¬(a15≠Qbj [a8,a9,a10,a11,a12,a13,a14]) from fun e=>e H15.out)];exact h1) h2);clear H7 H15 HP;obtain ⟨f,hf⟩:∃f:Nat→Nat,f=fun k=>[Qce a1,Qce a2,Qce a3,Qce a4,Qce a9,Qce a10,Qce a11,Qce a12].getD k 0:=⟨_,rfl⟩
   have f0:f 0=Qce a1:=by rw [hf];rfl
   have f1:f 1=Qce a2:=by rw [hf];rfl
   have f2:f 2=Qce a3:=by rw [hf];rfl
   have f3:f 3=Qce a4:=by rw [hf];rfl
   have f4:f 4=Qce a9:=by rw [hf];rfl
   have f5:f 5=Qce a10:=by rw [hf];rfl
   have f6:f 6=Qce a11:=by rw [hf];rfl
   have f7:f 7=Qce a12:=by rw [hf];rfl
   have HAll:Hid (Qm3 f 8=rs.map (Value.int .i64)):=LH (by rw [HRs.out,hf];rfl);have HLr:Hid (rs.length=8):=LH (by rw [HRs.out];rfl);clear hf HRs;have e0:=HM.out.cell 0 0 rfl rfl;have HM2:Hid (Mem w (wr.alloc (.cells #[Qad a0,.int .i64 0,.int .i64 0,.int .i64 0,.int .i64 0,.int .i64 0,.int .i64 0,.int .i64 0,.int .i64 0] 154)) [⟨q1,113,[a0,a1,a2,a3,a4,a5,a6,a7,a8,a9,a10,a11,a12,a13,a14,a15].map Qad,true⟩,⟨q2,154,[.int .u64 0,.int .i64 0,.int .i64 0,.int .i64 0,.int .i64 0,.int .i64 0,.int .i64 0,.int .i64 0,.int .i64 0],true⟩,⟨wr.heap.size,154,Qad a0 :: Qm3 f 0,true⟩]):=LH (HM.out.alloc #[Qad a0,.int .i64 0,.int .i64 0,.int .i64 0,.int .i64 0,.int .i64 0,.int .i64 0,.int .i64 0,.int .i64 0] 154);go_upto_region 9 with fail;obtain ⟨q4,hq4⟩:∃q,q=wr.heap.size:=⟨_,rfl⟩
   rw [← hq4] at HM2 ⊢;generalize wr.alloc _=wa at *;clear hq4 e0 HM;go_wp2_with fail
   go_loopw [30] (fun iv wr=>∃i:Nat,i≤8∧iv=.int .i64 (i:Int)∧Hid (Mem w wr [⟨q1,113,[a0,a1,a2,a3,a4,a5,a6,a7,a8,a9,a10,a11,a12,a13,a14,a15].map Qad,true⟩,⟨q2,154,[.int .u64 0,.int .i64 0,.int .i64 0,.int .i64 0,.int .i64 0,.int .i64 0,.int .i64 0,.int .i64 0,.int .i64 0],true⟩,⟨q4,154,Qad a0 :: Qm3 f i,true⟩])) (fun iv _=>8-(intOf iv).toNat)
   case atStart=>exact ⟨0,by omega,rfl,HM2⟩
   case round =>
    obtain ⟨i,hi,rfl,HM⟩:=hrel;rcases (by omega:i=0∨i=1∨i=2∨i=3∨i=4∨i=5∨i=6∨i=7∨i=8) with rfl | rfl | rfl | rfl | rfl | rfl | rfl | rfl | rfl
    ·rw [show ((0:Nat):Int)=0 from rfl];have c1:=HM.out.cell 0 1 rfl rfl;obtain ⟨m,hm⟩:∃m:Nat,m=Qce a1:=⟨_,rfl⟩
     have hmn:(if (1099511627776:Int)<(a1:Int) then 1099511627776 else (a1:Int))=(m:Int):=by rw [hm];unfold Qce;omega
     have hmz:min (a1:Int) 1099511627776=(m:Int):=by rw [hm];unfold Qce;omega
     have hm9:m≤1099511627776:=by rw [hm];unfold Qce;omega
     obtain ⟨u,hu⟩:∃u,(Qad a0 :: Qm3 f 0)[1]?=some u:=⟨_,GE (by rw [List.length_cons,Qcy];omega)⟩
     have c2:wr.cell? ⟨q4,1,none⟩=some u:=HM.out.cell 2 1 rfl hu;have k2:=HM.out.frozen 2 1 rfl;have HS:Hid (Mem w (wr.setCell ⟨q4,1,none⟩ (.int .i64 (m:Int))) [⟨q1,113,[a0,a1,a2,a3,a4,a5,a6,a7,a8,a9,a10,a11,a12,a13,a14,a15].map Qad,true⟩,⟨q2,154,[.int .u64 0,.int .i64 0,.int .i64 0,.int .i64 0,.int .i64 0,.int .i64 0,.int .i64 0,.int .i64 0,.int .i64 0],true⟩,⟨q4,154,Qad a0 :: Qm3 f 1,true⟩]):=LH (by
      have:=HM.out.set 2 1 (.int .i64 (m:Int)) rfl (by rw [List.length_cons,Qcy];omega);rw [← Qf2 f (by omega:0<8),f0,← hm]
      exact this)
     clear hu hm;go_wp2_with fail;exact ⟨⟨1,by omega,rfl,HS⟩,by simp [intOf]⟩
    ·rw [show ((1:Nat):Int)=1 from rfl];have c1:=HM.out.cell 0 2 rfl rfl;obtain ⟨m,hm⟩:∃m:Nat,m=Qce a2:=⟨_,rfl⟩
     have hmn:(if (1099511627776:Int)<(a2:Int) then 1099511627776 else (a2:Int))=(m:Int):=by rw [hm];unfold Qce;omega
     have hmz:min (a2:Int) 1099511627776=(m:Int):=by rw [hm];unfold Qce;omega
     have hm9:m≤1099511627776:=by rw [hm];unfold Qce;omega
     obtain ⟨u,hu⟩:∃u,(Qad a0 :: Qm3 f 1)[2]?=some u:=⟨_,GE (by rw [List.length_cons,Qcy];omega)⟩
     have c2:wr.cell? ⟨q4,2,none⟩=some u:=HM.out.cell 2 2 rfl hu;have k2:=HM.out.frozen 2 2 rfl;have HS:Hid (Mem w (wr.setCell ⟨q4,2,none⟩ (.int .i64 (m:Int))) [⟨q1,113,[a0,a1,a2,a3,a4,a5,a6,a7,a8,a9,a10,a11,a12,a13,a14,a15].map Qad,true⟩,⟨q2,154,[.int .u64 0,.int .i64 0,.int .i64 0,.int .i64 0,.int .i64 0,.int .i64 0,.int .i64 0,.int .i64 0,.int .i64 0],true⟩,⟨q4,154,Qad a0 :: Qm3 f 2,true⟩]):=LH (by
      have:=HM.out.set 2 2 (.int .i64 (m:Int)) rfl (by rw [List.length_cons,Qcy];omega);rw [← Qf2 f (by omega:1<8),f1,← hm]
      exact this)
     clear hu hm;go_wp2_with fail;exact ⟨⟨2,by omega,rfl,HS⟩,by simp [intOf]⟩
    ·rw [show ((2:Nat):Int)=2 from rfl];have c1:=HM.out.cell 0 3 rfl rfl;obtain ⟨m,hm⟩:∃m:Nat,m=Qce a3:=⟨_,rfl⟩
     have hmn:(if (1099511627776:Int)<(a3:Int) then 1099511627776 else (a3:Int))=(m:Int):=by rw [hm];unfold Qce;omega
     have hmz:min (a3:Int) 1099511627776=(m:Int):=by rw [hm];unfold Qce;omega
     have hm9:m≤1099511627776:=by rw [hm];unfold Qce;omega
     obtain ⟨u,hu⟩:∃u,(Qad a0 :: Qm3 f 2)[3]?=some u:=⟨_,GE (by rw [List.length_cons,Qcy];omega)⟩
     have c2:wr.cell? ⟨q4,3,none⟩=some u:=HM.out.cell 2 3 rfl hu;have k2:=HM.out.frozen 2 3 rfl;have HS:Hid (Mem w (wr.setCell ⟨q4,3,none⟩ (.int .i64 (m:Int))) [⟨q1,113,[a0,a1,a2,a3,a4,a5,a6,a7,a8,a9,a10,a11,a12,a13,a14,a15].map Qad,true⟩,⟨q2,154,[.int .u64 0,.int .i64 0,.int .i64 0,.int .i64 0,.int .i64 0,.int .i64 0,.int .i64 0,.int .i64 0,.int .i64 0],true⟩,⟨q4,154,Qad a0 :: Qm3 f 3,true⟩]):=LH (by
      have:=HM.out.set 2 3 (.int .i64 (m:Int)) rfl (by rw [List.length_cons,Qcy];omega);rw [← Qf2 f (by omega:2<8),f2,← hm]
      exact this)
     clear hu hm;go_wp2_with fail;exact ⟨⟨3,by omega,rfl,HS⟩,by simp [intOf]⟩
    ·rw [show ((3:Nat):Int)=3 from rfl];have c1:=HM.out.cell 0 4 rfl rfl;obtain ⟨m,hm⟩:∃m:Nat,m=Qce a4:=⟨_,rfl⟩
     have hmn:(if (1099511627776:Int)<(a4:Int) then 1099511627776 else (a4:Int))=(m:Int):=by rw [hm];unfold Qce;omega
     have hmz:min (a4:Int) 1099511627776=(m:Int):=by rw [hm];unfold Qce;omega
     have hm9:m≤1099511627776:=by rw [hm];unfold Qce;omega
     obtain ⟨u,hu⟩:∃u,(Qad a0 :: Qm3 f 3)[4]?=some u:=⟨_,GE (by rw [List.length_cons,Qcy];omega)⟩
     have c2:wr.cell? ⟨q4,4,none⟩=some u:=HM.out.cell 2 4 rfl hu;have k2:=HM.out.frozen 2 4 rfl;have HS:Hid (Mem w (wr.setCell ⟨q4,4,none⟩ (.int .i64 (m:Int))) [⟨q1,113,[a0,a1,a2,a3,a4,a5,a6,a7,a8,a9,a10,a11,a12,a13,a14,a15].map Qad,true⟩,⟨q2,154,[.int .u64 0,.int .i64 0,.int .i64 0,.int .i64 0,.int .i64 0,.int .i64 0,.int .i64 0,.int .i64 0,.int .i64 0],true⟩,⟨q4,154,Qad a0 :: Qm3 f 4,true⟩]):=LH (by
      have:=HM.out.set 2 4 (.int .i64 (m:Int)) rfl (by rw [List.length_cons,Qcy];omega);rw [← Qf2 f (by omega:3<8),f3,← hm]
      exact this)
     clear hu hm;go_wp2_with fail;exact ⟨⟨4,by omega,rfl,HS⟩,by simp [intOf]⟩
    ·rw [show ((4:Nat):Int)=4 from rfl];have c1:=HM.out.cell 0 9 rfl rfl;obtain ⟨m,hm⟩:∃m:Nat,m=Qce a9:=⟨_,rfl⟩
     have hmn:(if (1099511627776:Int)<(a9:Int) then 1099511627776 else (a9:Int))=(m:Int):=by rw [hm];unfold Qce;omega
     have hmz:min (a9:Int) 1099511627776=(m:Int):=by rw [hm];unfold Qce;omega
     have hm9:m≤1099511627776:=by rw [hm];unfold Qce;omega
     obtain ⟨u,hu⟩:∃u,(Qad a0 :: Qm3 f 4)[5]?=some u:=⟨_,GE (by rw [List.length_cons,Qcy];omega)⟩
     have c2:wr.cell? ⟨q4,5,none⟩=some u:=HM.out.cell 2 5 rfl hu;have k2:=HM.out.frozen 2 5 rfl;have HS:Hid (Mem w (wr.setCell ⟨q4,5,none⟩ (.int .i64 (m:Int))) [⟨q1,113,[a0,a1,a2,a3,a4,a5,a6,a7,a8,a9,a10,a11,a12,a13,a14,a15].map Qad,true⟩,⟨q2,154,[.int .u64 0,.int .i64 0,.int .i64 0,.int .i64 0,.int .i64 0,.int .i64 0,.int .i64 0,.int .i64 0,.int .i64 0],true⟩,⟨q4,154,Qad a0 :: Qm3 f 5,true⟩]):=LH (by
      have:=HM.out.set 2 5 (.int .i64 (m:Int)) rfl (by rw [List.length_cons,Qcy];omega);rw [← Qf2 f (by omega:4<8),f4,← hm]
      exact this)
     clear hu hm;go_wp2_with fail;exact ⟨⟨5,by omega,rfl,HS⟩,by simp [intOf]⟩
    ·rw [show ((5:Nat):Int)=5 from rfl];have c1:=HM.out.cell 0 10 rfl rfl;obtain ⟨m,hm⟩:∃m:Nat,m=Qce a10:=⟨_,rfl⟩
     have hmn:(if (1099511627776:Int)<(a10:Int) then 1099511627776 else (a10:Int))=(m:Int):=by rw [hm];unfold Qce;omega
     have hmz:min (a10:Int) 1099511627776=(m:Int):=by rw [hm];unfold Qce;omega
     have hm9:m≤1099511627776:=by rw [hm];unfold Qce;omega
     obtain ⟨u,hu⟩:∃u,(Qad a0 :: Qm3 f 5)[6]?=some u:=⟨_,GE (by rw [List.length_cons,Qcy];omega)⟩
     have c2:wr.cell? ⟨q4,6,none⟩=some u:=HM.out.cell 2 6 rfl hu;have k2:=HM.out.frozen 2 6 rfl;have HS:Hid (Mem w (wr.setCell ⟨q4,6,none⟩ (.int .i64 (m:Int))) [⟨q1,113,[a0,a1,a2,a3,a4,a5,a6,a7,a8,a9,a10,a11,a12,a13,a14,a15].map Qad,true⟩,⟨q2,154,[.int .u64 0,.int .i64 0,.int .i64 0,.int .i64 0,.int .i64 0,.int .i64 0,.int .i64 0,.int .i64 0,.int .i64 0],true⟩,⟨q4,154,Qad a0 :: Qm3 f 6,true⟩]):=LH (by
      have:=HM.out.set 2 6 (.int .i64 (m:Int)) rfl (by rw [List.length_cons,Qcy];omega);rw [← Qf2 f (by omega:5<8),f5,← hm]
      exact this)
     clear hu hm;go_wp2_with fail;exact ⟨⟨6,by omega,rfl,HS⟩,by simp [intOf]⟩
    ·rw [show ((6:Nat):Int)=6 from rfl];have c1:=HM.out.cell 0 11 rfl rfl;obtain ⟨m,hm⟩:∃m:Nat,m=Qce a11:=⟨_,rfl⟩
     have hmn:(if (1099511627776:Int)<(a11:Int) then 1099511627776 else (a11:Int))=(m:Int):=by rw [hm];unfold Qce;omega
     have hmz:min (a11:Int) 1099511627776=(m:Int):=by rw [hm];unfold Qce;omega
     have hm9:m≤1099511627776:=by rw [hm];unfold Qce;omega
     obtain ⟨u,hu⟩:∃u,(Qad a0 :: Qm3 f 6)[7]?=some u:=⟨_,GE (by rw [List.length_cons,Qcy];omega)⟩
     have c2:wr.cell? ⟨q4,7,none⟩=some u:=HM.out.cell 2 7 rfl hu;have k2:=HM.out.frozen 2 7 rfl;have HS:Hid (Mem w (wr.setCell ⟨q4,7,none⟩ (.int .i64 (m:Int))) [⟨q1,113,[a0,a1,a2,a3,a4,a5,a6,a7,a8,a9,a10,a11,a12,a13,a14,a15].map Qad,true⟩,⟨q2,154,[.int .u64 0,.int .i64 0,.int .i64 0,.int .i64 0,.int .i64 0,.int .i64 0,.int .i64 0,.int .i64 0,.int .i64 0],true⟩,⟨q4,154,Qad a0 :: Qm3 f 7,true⟩]):=LH (by
      have:=HM.out.set 2 7 (.int .i64 (m:Int)) rfl (by rw [List.length_cons,Qcy];omega);rw [← Qf2 f (by omega:6<8),f6,← hm]
      exact this)
     clear hu hm;go_wp2_with fail;exact ⟨⟨7,by omega,rfl,HS⟩,by simp [intOf]⟩
    ·rw [show ((7:Nat):Int)=7 from rfl];have c1:=HM.out.cell 0 12 rfl rfl;obtain ⟨m,hm⟩:∃m:Nat,m=Qce a12:=⟨_,rfl⟩
     have hmn:(if (1099511627776:Int)<(a12:Int) then 1099511627776 else (a12:Int))=(m:Int):=by rw [hm];unfold Qce;omega
     have hmz:min (a12:Int) 1099511627776=(m:Int):=by rw [hm];unfold Qce;omega
     have hm9:m≤1099511627776:=by rw [hm];unfold Qce;omega
     obtain ⟨u,hu⟩:∃u,(Qad a0 :: Qm3 f 7)[8]?=some u:=⟨_,GE (by rw [List.length_cons,Qcy];omega)⟩
     have c2:wr.cell? ⟨q4,8,none⟩=some u:=HM.out.cell 2 8 rfl hu;have k2:=HM.out.frozen 2 8 rfl;have HS:Hid (Mem w (wr.setCell ⟨q4,8,none⟩ (.int .i64 (m:Int))) [⟨q1,113,[a0,a1,a2,a3,a4,a5,a6,a7,a8,a9,a10,a11,a12,a13,a14,a15].map Qad,true⟩,⟨q2,154,[.int .u64 0,.int .i64 0,.int .i64 0,.int .i64 0,.int .i64 0,.int .i64 0,.int .i64 0,.int .i64 0,.int .i64 0],true⟩,⟨q4,154,Qad a0 :: Qm3 f 8,true⟩]):=LH (by
      have:=HM.out.set 2 8 (.int .i64 (m:Int)) rfl (by rw [List.length_cons,Qcy];omega);rw [← Qf2 f (by omega:7<8),f7,← hm]
      exact this)
     clear hu hm;go_wp2_with fail;exact ⟨⟨8,by omega,rfl,HS⟩,by simp [intOf]⟩
    ·rw [show ((8:Nat):Int)=8 from rfl];rw [HAll.out] at HM;clear f0 f1 f2 f3 f4 f5 f6 f7 HAll;obtain ⟨r0,r1,r2,r3,r4,r5,r6,r7,rfl⟩:=Qcb HLr.out;rw [show [r0,r1,r2,r3,r4,r5,r6,r7].map (Value.int .i64)=[.int .i64 r0,.int .i64 r1,.int .i64 r2,.int .i64 r3,.int .i64 r4,.int .i64 r5,.int .i64 r6,.int .i64 r7] from rfl] at HM;have HRt:=LH (fun w=>Qnn a0 [r0,r1,r2,r3,r4,r5,r6,r7] rfl h0 w);have HEn:=LH (fun w=>Qlt a0 [r0,r1,r2,r3,r4,r5,r6,r7] rfl h0 w);have hsv:Qbg a0 [r0,r1,r2,r3,r4,r5,r6,r7]=.agg #[Qad a0,.int .i64 r0,.int .i64 r1,.int .i64 r2,.int .i64 r3,.int .i64 r4,.int .i64 r5,.int .i64 r6,.int .i64 r7]:=rfl;rw [hsv] at HRt HEn;obtain ⟨sw,hsw⟩:∃sw,sw=Qdl a0 [r0,r1,r2,r3,r4,r5,r6,r7]:=⟨_,rfl⟩
     have hlw:sw.length=16:=by rw [hsw];exact Qfu _ _
     unfold Qko at HEn;rw [← hsw] at HEn HP2;clear hsv HLr hsw;obtain ⟨b0,b1,b2,b3,b4,b5,b6,b7,b8,b9,b10,b11,b12,b13,b14,b15,rfl⟩:=Qcp hlw;clear hlw;rw [show Qgb [b0,b1,b2,b3,b4,b5,b6,b7,b8,b9,b10,b11,b12,b13,b14,b15]=.agg #[Qad b0,Qad b1,Qad b2,Qad b3,Qad b4,Qad b5,Qad b6,Qad b7,Qad b8,Qad b9,Qad b10,Qad b11,Qad b12,Qad b13,Qad b14,Qad b15] from rfl] at HEn;have e0:=HM.out.cell 2 0 rfl rfl;have e1:=HM.out.cell 2 1 rfl rfl;have e2:=HM.out.cell 2 2 rfl rfl;have e3:=HM.out.cell 2 3 rfl rfl;have e4:=HM.out.cell 2 4 rfl rfl;have e5:=HM.out.cell 2 5 rfl rfl;have e6:=HM.out.cell 2 6 rfl rfl;have e7:=HM.out.cell 2 7 rfl rfl;have e8:=HM.out.cell 2 8 rfl rfl;have g0:=HM.out.cell 0 0 rfl rfl;have g1:=HM.out.cell 0 1 rfl rfl;have g2:=HM.out.cell 0 2 rfl rfl;have g3:=HM.out.cell 0 3 rfl rfl;have g4:=HM.out.cell 0 4 rfl rfl;have g5:=HM.out.cell 0 5 rfl rfl;have g6:=HM.out.cell 0 6 rfl rfl;have g7:=HM.out.cell 0 7 rfl rfl;have g8:=HM.out.cell 0 8 rfl rfl;have g9:=HM.out.cell 0 9 rfl rfl;have g10:=HM.out.cell 0 10 rfl rfl;have g11:=HM.out.cell 0 11 rfl rfl;have g12:=HM.out.cell 0 12 rfl rfl;have g13:=HM.out.cell 0 13 rfl rfl;have g14:=HM.out.cell 0 14 rfl rfl;have g15:=HM.out.cell 0 15 rfl rfl;go_upto_region 14 with fail;have re0:=fun x=>Qab e0 x
     have re1:=fun x=>Qab e1 x
     have re2:=fun x=>Qab e2 x
     have re3:=fun x=>Qab e3 x
     have re4:=fun x=>Qab e4 x
     have re5:=fun x=>Qab e5 x
     have re6:=fun x=>Qab e6 x
     have re7:=fun x=>Qab e7 x
     have re8:=fun x=>Qab e8 x
     have rg0:=fun x=>Qab g0 x
     have rg1:=fun x=>Qab g1 x
     have rg2:=fun x=>Qab g2 x
     have rg3:=fun x=>Qab g3 x
     have rg4:=fun x=>Qab g4 x
     have rg5:=fun x=>Qab g5 x
     have rg6:=fun x=>Qab g6 x
     have rg7:=fun x=>Qab g7 x
     have rg8:=fun x=>Qab g8 x
     have rg9:=fun x=>Qab g9 x
     have rg10:=fun x=>Qab g10 x
     have rg11:=fun x=>Qab g11 x
     have rg12:=fun x=>Qab g12 x
     have rg13:=fun x=>Qab g13 x
     have rg14:=fun x=>Qab g14 x
     have rg15:=fun x=>Qab g15 x
     by_cases hr:Qda a0 [r0,r1,r2,r3,r4,r5,r6,r7]=true
     case neg =>
      have hrf:Qda a0 [r0,r1,r2,r3,r4,r5,r6,r7]=false:=by simpa using hr
      rw [hrf] at HRt;have HF:=LH (fun w' h=>HP2.out 0 [0,0,0,0,0,0,0,0] 26 w' (by rw [if_neg (fun hh=>hr hh.1)]) h);clear hr re0 re1 re2 re3 re4 re5 re6 re7 re8 rg0 rg1 rg2 rg3 rg4 rg5 rg6 rg7 rg8 rg9 rg10 rg11 rg12 rg13 rg14 rg15 g0 g1 g2 g3 g4 g5 g6 g7 g8 g9 g10 g11 g12 g13 g14 g15;refine Qai (C:=fun w'=>∃x:Qbi (wr),w'=x.val) [.sq [0,1,2,3] false,.fl [4,6],.sq [5] true,.sq [7,8] false] (by kernel_rfl) (by kernel_rfl) (by intro c a d v w h;cases d <;> exact h) ?_;simp only [Qdj,Qa3,List.getElem?_cons_succ,List.getElem?_cons_zero]
      have hC1:=Qaj (wr);refine Qah (fun K hK=>?_);go_wp2_with fail;refine (HRt.out _).mono ?_;rintro e w5 ⟨rfl,hb5⟩;have hC2:=Qan hC1 hb5;have HM5:=LH (HM.out.later (Qae hC2));clear hb5 e0 e1 e2 e3 e4 e5 e6 e7 e8;go_wp2_with fail;refine hK _ _ (fun h=>nomatch h) ?_;clear hK K;refine Qak hC2 ?_
      repeat (first|go_big_quiet_step (fail)|quiet_step (fail))
      refine wpQuiet_nil ?_;refine Qah (fun K hK=>?_);go_wp2_with fail;go_wp2_with fail;refine hK _ _ (fun _=>hC2) ?_;clear hK K;clear hC1 hC2;refine Qal ?_;go_wp2_with (refine Qaa Qhy HM5.out 1 rfl rfl rfl rfl rfl rfl rfl rfl ?_;intro w6 h6 ht6;have H6:=LH h6;clear h6 ht6)
      refine bodyPost_ret (Qac (p:=2) (u:=3) rfl _ _ _ _ _ _ _ rfl (H6.out.exact 1 rfl) Tryz.underlying154 rfl (by kernel_rfl)) rfl ?_;exact HF.out _ H6.out.below
     rw [hr] at HRt;have heq:∀w',(Op.equalIn 10000 113 (.agg #[Qad b0,Qad b1,Qad b2,Qad b3,Qad b4,Qad b5,Qad b6,Qad b7,Qad b8,Qad b9,Qad b10,Qad b11,Qad b12,Qad b13,Qad b14,Qad b15]) (.agg #[Qad a0,Qad a1,Qad a2,Qad a3,Qad a4,Qad a5,Qad a6,Qad a7,Qad a8,Qad a9,Qad a10,Qad a11,Qad a12,Qad a13,Qad a14,Qad a15])).run Tryz.prog w'=.ok (decide ([b0,b1,b2,b3,b4,b5,b6,b7,b8,b9,b10,b11,b12,b13,b14,b15]=[a0,a1,a2,a3,a4,a5,a6,a7,a8,a9,a10,a11,a12,a13,a14,a15])) w':=fun w'=>Qz8 w' [b0,b1,b2,b3,b4,b5,b6,b7,b8,b9,b10,b11,b12,b13,b14,b15] [a0,a1,a2,a3,a4,a5,a6,a7,a8,a9,a10,a11,a12,a13,a14,a15] rfl rfl
     clear g0 g1 g2 g3 g4 g5 g6 g7 g8 g9 g10 g11 g12 g13 g14 g15;refine Qai (C:=fun w'=>∃x:Qbi (wr),w'=x.val) [.sq [0,1,2,3] false,.fl [4,6],.sq [5] true,.sq [7,8] false] (by kernel_rfl) (by kernel_rfl) (by intro c a d v w h;cases d <;> exact h) ?_;simp only [Qdj,Qa3,List.getElem?_cons_succ,List.getElem?_cons_zero]
     have hC1:=Qaj (wr);refine Qah (fun K hK=>?_);go_wp2_with fail;refine (HRt.out _).mono ?_;rintro e w5 ⟨rfl,hb5⟩;have hC2:=Qan hC1 hb5;clear hb5 e0 e1 e2 e3 e4 e5 e6 e7 e8;go_wp2_with fail;refine hK _ _ (fun h=>nomatch h) ?_;clear hK K;refine Qak hC2 ?_
     repeat (first|go_big_quiet_step (fail)|quiet_step (fail))
     refine wpQuiet_nil ?_;clear re0 re1 re2 re3 re4 re5 re6 re7 re8 rg0 rg1 rg2 rg3 rg4 rg5 rg6 rg7 rg8 rg9 rg10 rg11 rg12 rg13 rg14 rg15;refine Qah (fun K hK=>?_);go_wp2_with fail;refine (HEn.out _).mono ?_;rintro e w6 ⟨rfl,hb6⟩;have hC3:=Qan hC2 hb6;have HM6:=LH (HM.out.later (Qae hC3));clear hb6;go_wp2_with fail;refine hK _ _ (fun _=>hC3) ?_;clear hK K;clear hC1 hC2 hC3
     by_cases hs:[b0,b1,b2,b3,b4,b5,b6,b7,b8,b9,b10,b11,b12,b13,b14,b15]=[a0,a1,a2,a3,a4,a5,a6,a7,a8,a9,a10,a11,a12,a13,a14,a15]
     ·rw [decide_eq_true hs] at heq;have HF2:=LH (fun w' h=>HP2.out a0 [r0,r1,r2,r3,r4,r5,r6,r7] 0 w' (by rw [if_pos ⟨hr,hs⟩]) h);clear hs hr;refine Qal ?_;go_wp2_with (first | (refine Qag Qhy HM6.out 2 rfl rfl rfl rfl rfl ?_) | (refine Qaa Qhy HM6.out 1 rfl rfl rfl rfl rfl rfl rfl rfl ?_;intro w6 h6 ht6;have H6:=LH h6;clear h6 ht6))
      refine bodyPost_ret (Qac (p:=2) (u:=3) rfl _ _ _ _ _ _ _ rfl (H6.out.exact 1 rfl) Tryz.underlying154 rfl (by kernel_rfl)) rfl ?_;exact HF2.out _ H6.out.below
     ·rw [decide_eq_false hs] at heq;have HF2:=LH (fun w' h=>HP2.out 0 [0,0,0,0,0,0,0,0] 26 w' (by rw [if_neg (fun hh=>hs hh.2)]) h);clear hs hr;refine Qal ?_;go_wp2_with (refine Qaa Qhy HM6.out 1 rfl rfl rfl rfl rfl rfl rfl rfl ?_;intro w6 h6 ht6;have H6:=LH h6;clear h6 ht6)
      refine bodyPost_ret (Qac (p:=2) (u:=3) rfl _ _ _ _ _ _ _ rfl (H6.out.exact 1 rfl) Tryz.underlying154 rfl (by kernel_rfl)) rfl ?_;exact HF2.out _ H6.out.below
theorem Qcu {P:Program} {fn:Func} {p s u:Tmp} {ty:TypeId} (h:fn.results=#[.cell p ty,.tmp s,.tmp u]) (tmps:Array Value) (w:World) (g:Nat) (t:TypeId) (cs:Array Value) (fr:Nat × Nat) (d:TypeDesc)
  (hp:tmps.getD p undef=.pointer (some ⟨g,0,none⟩)) (hg:w.heap[g]?=some (.cells cs t fr))
  (hu:P.underlying ty=some d) (hd:(match d with | .struct _ | .array _ _=>true | _=>false)=true) (hi:(P.info? ty).map (·.size)=some cs.size) :
  (results fn tmps).run P w=.ok (.tuple #[.agg cs,tmps.getD s undef,tmps.getD u undef]) w:=by
 have hp':tmps[p]?.getD undef=.pointer (some ⟨g,0,none⟩):=by simpa using hp
 simp [results,h,hp',asAddr,run_loadVar_row w g t ty cs fr d hg hu hd hi]
theorem Qil (ws:List Nat) (hu:∀z∈ws,z<18446744073709551616):(Qdv ws).1<18446744073709551616∧(Qdv ws).2.1.length=8∧0≤(Qdv ws).2.2∧(Qdv ws).2.2≤100:=by
 have h0:ws.getD 0 0<18446744073709551616:=by
  rw [GD]
  cases h:ws[0]? with
  | none=>simp
  | some x=>exact hu x (List.mem_of_getElem? h)
 unfold Qdv
 split
 ·simp
 ·split
  ·simp
  ·split
   ·exact ⟨h0,rfl,by simp,by simp⟩
   ·simp
def Qff (x y:Nat × List Int × Int):Nat × List Int × Int × Bool :=
 if x.2.2=0∧(y.2.2≠0∨y.1≤x.1) then (x.1,x.2.1,0,true) else
 if y.2.2=0 then (y.1,y.2.1,1,true) else (0,[0,0,0,0,0,0,0,0],0,false)
def SlC (r:Nat × List Int × Int × Bool) (w:World):Ending→World→Prop:=fun e w'=>e=.returned (.tuple #[Qbg r.1 r.2.1,.int .i64 r.2.2.1,.bool r.2.2.2])∧Below w.heap.size w w'
theorem Qsd (as1 bs1:List Nat) (hla:as1.length=16) (hlb:bs1.length=16) (hua:∀z∈as1,z<18446744073709551616) (hub:∀z∈bs1,z<18446744073709551616) (w:World) :
  Calls Tryz.prog 91 #[Qgb as1,Qgb bs1] w (SlC (Qff (Qdv as1) (Qdv bs1)) w):=by
 obtain ⟨⟨ex,rx,cx⟩,hx⟩:∃r,r=Qdv as1:=⟨_,rfl⟩
 obtain ⟨⟨ey,ry,cy⟩,hy⟩:∃r,r=Qdv bs1:=⟨_,rfl⟩
 have ox:=Qil as1 hua;have oy:=Qil bs1 hub;have HDa:=LH (fun w=>Ql2 as1 hla hua w);have HDb:=LH (fun w=>Ql2 bs1 hlb hub w);rw [← hx] at ox HDa ⊢;rw [← hy] at oy HDb ⊢;obtain ⟨hex,hrx,hcx0,hcx1⟩:=ox;obtain ⟨hey,hry,hcy0,hcy1⟩:=oy;simp only [] at hex hrx hcx0 hcx1 hey hry hcy0 hcy1
 clear hx hy hua hub;have HP:Hid (∀(n:Nat) (rs:List Int) (i:Int) (b:Bool) w',(n,rs,i,b)=Qff (ex,rx,cx) (ey,ry,cy)→Below w.heap.size w w'→SlC (Qff (ex,rx,cx) (ey,ry,cy)) w (.returned (.tuple #[Qbg n rs,.int .i64 i,.bool b])) w'):=LH (fun n id i b w' h1 h2=>by rw [← h1];exact ⟨rfl,h2⟩);generalize hPo:SlC (Qff (ex,rx,cx) (ey,ry,cy)) w=Post at *;clear hPo;have HX:Hid (∀w',cx=0→(cy≠0∨ey≤ex)→Below w.heap.size w w'→Post (.returned (.tuple #[Qbg ex rx,.int .i64 0,.bool true])) w'):=LH (fun w' h1 h2 h3=>HP.out _ _ _ _ w' (by unfold Qff;rw [if_pos ⟨h1,h2⟩]) h3);have HY:Hid (∀w',¬(cx=0∧(cy≠0∨ey≤ex))→cy=0→Below w.heap.size w w'→Post (.returned (.tuple #[Qbg ey ry,.int .i64 1,.bool true])) w'):=LH (fun w' h1 h2 h3=>HP.out _ _ _ _ w' (by unfold Qff;rw [if_neg h1,if_pos h2]) h3);have HZ:Hid (∀w',¬(cx=0∧(cy≠0∨ey≤ex))→cy≠0→Below w.heap.size w w'→Post (.returned (.tuple #[Qbg 0 [0,0,0,0,0,0,0,0],.int .i64 0,.bool false])) w'):=LH (fun w' h1 h2 h3=>HP.out _ _ _ _ w' (by unfold Qff;rw [if_neg h1,if_neg h2]) h3);clear HP;obtain ⟨x0,x1,x2,x3,x4,x5,x6,x7,rfl⟩:=Qcb hrx;obtain ⟨y0,y1,y2,y3,y4,y5,y6,y7,rfl⟩:=Qcb hry;obtain ⟨a0,a1,a2,a3,a4,a5,a6,a7,a8,a9,a10,a11,a12,a13,a14,a15,rfl⟩:=Qcp hla;obtain ⟨b0,b1,b2,b3,b4,b5,b6,b7,b8,b9,b10,b11,b12,b13,b14,b15,rfl⟩:=Qcp hlb;clear hrx hry hla hlb;rw [show Qgb [a0,a1,a2,a3,a4,a5,a6,a7,a8,a9,a10,a11,a12,a13,a14,a15]=.agg #[Qad a0,Qad a1,Qad a2,Qad a3,Qad a4,Qad a5,Qad a6,Qad a7,Qad a8,Qad a9,Qad a10,Qad a11,Qad a12,Qad a13,Qad a14,Qad a15] from rfl] at HDa ⊢;rw [show Qgb [b0,b1,b2,b3,b4,b5,b6,b7,b8,b9,b10,b11,b12,b13,b14,b15]=.agg #[Qad b0,Qad b1,Qad b2,Qad b3,Qad b4,Qad b5,Qad b6,Qad b7,Qad b8,Qad b9,Qad b10,Qad b11,Qad b12,Qad b13,Qad b14,Qad b15] from rfl] at HDb ⊢
 unfold SlD at HDa HDb;rw [show Qbg (ex,[x0,x1,x2,x3,x4,x5,x6,x7],cx).1 (ex,[x0,x1,x2,x3,x4,x5,x6,x7],cx).2.1=.agg #[Qad ex,.int .i64 x0,.int .i64 x1,.int .i64 x2,.int .i64 x3,.int .i64 x4,.int .i64 x5,.int .i64 x6,.int .i64 x7] from rfl] at HDa;rw [show Qbg (ey,[y0,y1,y2,y3,y4,y5,y6,y7],cy).1 (ey,[y0,y1,y2,y3,y4,y5,y6,y7],cy).2.1=.agg #[Qad ey,.int .i64 y0,.int .i64 y1,.int .i64 y2,.int .i64 y3,.int .i64 y4,.int .i64 y5,.int .i64 y6,.int .i64 y7] from rfl] at HDb;rw [show Qbg ex [x0,x1,x2,x3,x4,x5,x6,x7]=.agg #[Qad ex,.int .i64 x0,.int .i64 x1,.int .i64 x2,.int .i64 x3,.int .i64 x4,.int .i64 x5,.int .i64 x6,.int .i64 x7] from rfl] at HX;rw [show Qbg ey [y0,y1,y2,y3,y4,y5,y6,y7]=.agg #[Qad ey,.int .i64 y0,.int .i64 y1,.int .i64 y2,.int .i64 y3,.int .i64 y4,.int .i64 y5,.int .i64 y6,.int .i64 y7] from rfl] at HY;rw [show Qbg 0 [0,0,0,0,0,0,0,0]=.agg #[.int .u64 0,.int .i64 0,.int .i64 0,.int .i64 0,.int .i64 0,.int .i64 0,.int .i64 0,.int .i64 0,.int .i64 0] from rfl] at HZ;have HM:=LH ((Mem.two w #[Qad a0,Qad a1,Qad a2,Qad a3,Qad a4,Qad a5,Qad a6,Qad a7,Qad a8,Qad a9,Qad a10,Qad a11,Qad a12,Qad a13,Qad a14,Qad a15] 113 #[Qad b0,Qad b1,Qad b2,Qad b3,Qad b4,Qad b5,Qad b6,Qad b7,Qad b8,Qad b9,Qad b10,Qad b11,Qad b12,Qad b13,Qad b14,Qad b15] 113).alloc #[.int .u64 0,.int .i64 0,.int .i64 0,.int .i64 0,.int .i64 0,.int .i64 0,.int .i64 0,.int .i64 0,.int .i64 0] 154);go_enter Tryz.func91,Tryz.ntmps91;go_upto_region 1 with fail;obtain ⟨q1,hq1⟩:∃q,q=w.heap.size:=⟨_,rfl⟩
 obtain ⟨q2,hq2⟩:∃q,q=w.heap.size+1:=⟨_,rfl⟩
 obtain ⟨q3,hq3⟩:∃q,q=w.heap.size+1+1:=⟨_,rfl⟩
 simp only [World.size_alloc] at HM
 rw [← hq3,← hq2,← hq1] at HM ⊢;generalize ((w.alloc _).alloc _).alloc _=w1 at *;clear hq1 hq2 hq3;have HM1:Hid (Mem w w1 [⟨q1,113,[Qad a0,Qad a1,Qad a2,Qad a3,Qad a4,Qad a5,Qad a6,Qad a7,Qad a8,Qad a9,Qad a10,Qad a11,Qad a12,Qad a13,Qad a14,Qad a15],true⟩,⟨q2,113,[Qad b0,Qad b1,Qad b2,Qad b3,Qad b4,Qad b5,Qad b6,Qad b7,Qad b8,Qad b9,Qad b10,Qad b11,Qad b12,Qad b13,Qad b14,Qad b15],true⟩,⟨q3,154,[.int .u64 0,.int .i64 0,.int .i64 0,.int .i64 0,.int .i64 0,.int .i64 0,.int .i64 0,.int .i64 0,.int .i64 0],true⟩]):=LH (by simpa using HM.out);clear HM;go_wp2_with (refine Qag Qib HM1.out 0 rfl rfl rfl rfl rfl ?_)
 refine (HDa.out _).mono ?_;rintro e w2 ⟨rfl,hb2⟩;have HM2:=LH (HM1.out.later hb2);have HM3:=LH (HM2.out.alloc #[Qad ex,.int .i64 x0,.int .i64 x1,.int .i64 x2,.int .i64 x3,.int .i64 x4,.int .i64 x5,.int .i64 x6,.int .i64 x7] 154);clear hb2 HM1;go_upto_region 2 with fail;obtain ⟨q5,hq5⟩:∃q,q=w2.heap.size:=⟨_,rfl⟩
 rw [← hq5] at HM3 ⊢;generalize w2.alloc _=w3 at *;clear hq5 HM2;have HM3':Hid (Mem w w3 [⟨q1,113,[Qad a0,Qad a1,Qad a2,Qad a3,Qad a4,Qad a5,Qad a6,Qad a7,Qad a8,Qad a9,Qad a10,Qad a11,Qad a12,Qad a13,Qad a14,Qad a15],true⟩,⟨q2,113,[Qad b0,Qad b1,Qad b2,Qad b3,Qad b4,Qad b5,Qad b6,Qad b7,Qad b8,Qad b9,Qad b10,Qad b11,Qad b12,Qad b13,Qad b14,Qad b15],true⟩,⟨q3,154,[.int .u64 0,.int .i64 0,.int .i64 0,.int .i64 0,.int .i64 0,.int .i64 0,.int .i64 0,.int .i64 0,.int .i64 0],true⟩,⟨q5,154,[Qad ex,.int .i64 x0,.int .i64 x1,.int .i64 x2,.int .i64 x3,.int .i64 x4,.int .i64 x5,.int .i64 x6,.int .i64 x7],true⟩]):=LH (by simpa using HM3.out);clear HM3;go_wp2_with (refine Qag Qib HM3'.out 1 rfl rfl rfl rfl rfl ?_)
 refine (HDb.out _).mono ?_;rintro e w4 ⟨rfl,hb4⟩;have HM4:=LH (HM3'.out.later hb4);have HM5:=LH (HM4.out.alloc #[Qad ey,.int .i64 y0,.int .i64 y1,.int .i64 y2,.int .i64 y3,.int .i64 y4,.int .i64 y5,.int .i64 y6,.int .i64 y7] 154);clear hb4 HM3';go_upto_region 3 with fail;obtain ⟨q6,hq6⟩:∃q,q=w4.heap.size:=⟨_,rfl⟩
 rw [← hq6] at HM5 ⊢;generalize w4.alloc _=w5 at *;clear hq6 HM4;have HM6:Hid (Mem w w5 [⟨q1,113,[Qad a0,Qad a1,Qad a2,Qad a3,Qad a4,Qad a5,Qad a6,Qad a7,Qad a8,Qad a9,Qad a10,Qad a11,Qad a12,Qad a13,Qad a14,Qad a15],true⟩,⟨q2,113,[Qad b0,Qad b1,Qad b2,Qad b3,Qad b4,Qad b5,Qad b6,Qad b7,Qad b8,Qad b9,Qad b10,Qad b11,Qad b12,Qad b13,Qad b14,Qad b15],true⟩,⟨q3,154,[.int .u64 0,.int .i64 0,.int .i64 0,.int .i64 0,.int .i64 0,.int .i64 0,.int .i64 0,.int .i64 0,.int .i64 0],true⟩,⟨q5,154,[Qad ex,.int .i64 x0,.int .i64 x1,.int .i64 x2,.int .i64 x3,.int .i64 x4,.int .i64 x5,.int .i64 x6,.int .i64 x7],true⟩,⟨q6,154,[Qad ey,.int .i64 y0,.int .i64 y1,.int .i64 y2,.int .i64 y3,.int .i64 y4,.int .i64 y5,.int .i64 y6,.int .i64 y7],true⟩]):=LH (by simpa using HM5.out);clear HM5;have cx0:=HM6.out.cell 3 0 rfl rfl;have cy0:=HM6.out.cell 4 0 rfl rfl
 by_cases hx:cx=0
 ·by_cases hy:cy=0
  ·by_cases hg:ey≤ex
   ·have HF:=LH (fun w' h=>HX.out w' hx (.inr hg) h);subst hx hy;have hgd:decide ((ey:Int)≤(ex:Int))=true:=by simp;exact hg
    go_wp2_with (first | (refine Qag Qhy HM6.out 3 rfl rfl rfl rfl rfl ?_) | (refine Qaa Qhy HM6.out 2 rfl rfl rfl rfl rfl rfl rfl rfl ?_;intro w6 h6 ht6;have H6:=LH h6;clear h6 ht6))
    refine bodyPost_ret (Qcu (p:=4) (s:=5) (u:=6) rfl _ _ _ _ _ _ _ rfl (H6.out.exact 2 rfl) Tryz.underlying154 rfl (by kernel_rfl)) rfl ?_;exact HF.out _ H6.out.below
   ·have HF:=LH (fun w' h=>HY.out w' (fun hh=>hh.2.elim (fun h=>h hy) hg) hy h);subst hx hy;have hgd:decide ((ey:Int)≤(ex:Int))=false:=by simp;omega
    go_wp2_with (first | (refine Qag Qhy HM6.out 4 rfl rfl rfl rfl rfl ?_) | (refine Qaa Qhy HM6.out 2 rfl rfl rfl rfl rfl rfl rfl rfl ?_;intro w6 h6 ht6;have H6:=LH h6;clear h6 ht6))
    refine bodyPost_ret (Qcu (p:=4) (s:=5) (u:=6) rfl _ _ _ _ _ _ _ rfl (H6.out.exact 2 rfl) Tryz.underlying154 rfl (by kernel_rfl)) rfl ?_;exact HF.out _ H6.out.below
  ·have HF:=LH (fun w' h=>HX.out w' hx (.inl hy) h);subst hx;have e1:(cy == 0)=false:=by rw [beq_eq_false_iff_ne];exact hy
   have e2:(cy != 0)=true:=by rw [bne_iff_ne];exact hy
   clear hy;go_wp2_with (first | (refine Qag Qhy HM6.out 3 rfl rfl rfl rfl rfl ?_) | (refine Qaa Qhy HM6.out 2 rfl rfl rfl rfl rfl rfl rfl rfl ?_;intro w6 h6 ht6;have H6:=LH h6;clear h6 ht6))
   refine bodyPost_ret (Qcu (p:=4) (s:=5) (u:=6) rfl _ _ _ _ _ _ _ rfl (H6.out.exact 2 rfl) Tryz.underlying154 rfl (by kernel_rfl)) rfl ?_;exact HF.out _ H6.out.below
 ·have e3:(cx == 0)=false:=by rw [beq_eq_false_iff_ne];exact hx
  by_cases hy:cy=0
  ·have HF:=LH (fun w' h=>HY.out w' (fun hh=>hx hh.1) hy h);subst hy;clear hx;go_wp2_with (first | (refine Qag Qhy HM6.out 4 rfl rfl rfl rfl rfl ?_) | (refine Qaa Qhy HM6.out 2 rfl rfl rfl rfl rfl rfl rfl rfl ?_;intro w6 h6 ht6;have H6:=LH h6;clear h6 ht6))
   refine bodyPost_ret (Qcu (p:=4) (s:=5) (u:=6) rfl _ _ _ _ _ _ _ rfl (H6.out.exact 2 rfl) Tryz.underlying154 rfl (by kernel_rfl)) rfl ?_;exact HF.out _ H6.out.below
  ·have HF:=LH (fun w' h=>HZ.out w' (fun hh=>hx hh.1) hy h);have e1:(cy == 0)=false:=by rw [beq_eq_false_iff_ne];exact hy
   clear hx hy;go_wp2_with (first | (refine Qaa Qhy HM6.out 2 rfl rfl rfl rfl rfl rfl rfl rfl ?_;intro w6 h6 ht6;have H6:=LH h6;clear h6 ht6))
   refine bodyPost_ret (Qcu (p:=4) (s:=5) (u:=6) rfl _ _ _ _ _ _ _ rfl (H6.out.exact 2 rfl) Tryz.underlying154 rfl (by kernel_rfl)) rfl ?_;exact HF.out _ H6.out.below
theorem Jav {w:World} {B B' e size n:Nat} {v:Value} {xs:List Value} (h:w.ownsRow B e size v n xs) (hB:B'≤B):w.ownsRow B' e size v n xs:=by
 refine ⟨h.1,?_⟩;rcases h.2 with hn | ⟨g,cap,cur,rfl,h1,r⟩
 ·exact .inl hn
 ·exact .inr ⟨g,cap,cur,rfl,Nat.le_trans hB h1,r⟩
def lnP (ep:Nat) (ns:List Nat) (n k:Nat):List Nat:=ep :: (List.range k).map (fun j=>ns.getD (4*n+j) 0)
theorem Jeh (ep:Nat) (ns:List Nat) (n k:Nat):lnP ep ns n (k+1)=lnP ep ns n k ++ [ns.getD (4*n+k) 0]:=by
 unfold lnP;rw [List.range_succ,List.map_append];rfl
theorem Jel {ep:Nat} {ns:List Nat} {n:Nat} (hep:ep<18446744073709551616) (hn:n≤1) (hs:∀r∈ns,r<131072):∀z∈Qd8 ep ns n,z<18446744073709551616:=by
 have hg:∀i,ns.getD i 0<131072:=fun i=>by
  rw [GD]
  cases h:ns[i]? with
  | none=>simp
  | some x=>exact hs x (List.mem_of_getElem? h)
 intro z hz;unfold Qd8 at hz;simp only [List.mem_cons,List.not_mem_nil,or_false] at hz
 have h0:=hg (4*n);have h1:=hg (4*n+1);have h2:=hg (4*n+2);have h3:=hg (4*n+3);rcases hz with rfl | rfl | rfl | rfl | rfl | rfl | rfl <;> omega
def Qzi (ep:Nat) (ns:List Nat) (n:Nat) (w:World):Ending→World→Prop:=fun e w'=>∃v,e=.returned v∧w'.ownsRow w.heap.size 40 1 v 8 ((Qg2 ep ns n).map Qad)∧Below w.heap.size w w'
theorem Qt9 (ep:Nat) (ns:List Nat) (n:Nat) (hl:ns.length=8) (hn:n≤1) (hep:ep<18446744073709551616) (hs:∀r∈ns,r<131072) (w:World) :
  Calls Tryz.prog 86 #[Qbg ep (ns.map (fun n:Nat=>(n:Int))),.int .i64 (n:Int)] w (Qzi ep ns n w):=by
 have HP:Hid (∀v w',w'.ownsRow w.heap.size 40 1 v 8 ((Qg2 ep ns n).map Qad)→Below w.heap.size w w'→Qzi ep ns n w (.returned v) w'):=LH (fun v w' h1 h2=>⟨v,rfl,h1,h2⟩);generalize Qzi ep ns n w=Post at *;have HHl:=LH (Jel hep hn hs);have HM:=LH (Mem.one w (Qad ep :: (ns.map (fun n:Nat=>(n:Int))).map (Value.int .i64)).toArray 55);unfold Qbg;have HNs:Hid (∀k,k<8→ns.getD k 0<131072∧(Qad ep :: (ns.map (fun n:Nat=>(n:Int))).map (Value.int .i64))[1+k]?=some (.int .i64 ((ns.getD k 0:Nat):Int))):=LH (fun k hk=>by
  have hk':k<ns.length:=by omega
  refine ⟨?_,?_⟩
  ·rw [GD,GE hk'];exact hs _ (List.getElem_mem hk')
  ·rw [show 1+k=k+1 from by omega,List.getElem?_cons_succ]
   simp [GD,GE hk'])
 generalize hvs:(Qad ep :: (ns.map (fun n:Nat=>(n:Int))).map (Value.int .i64))=vs at *;have HV0:Hid (vs[0]?=some (Qad ep)):=LH (by rw [← hvs];rfl);clear hvs hl hs;go_enter Tryz.func86,Tryz.ntmps86;go_upto_region 1 with fail;obtain ⟨q,hq⟩:∃q,q=w.heap.size:=⟨_,rfl⟩
 rw [← hq] at HM ⊢;generalize w.alloc _=w1 at *;have HQ:=LH hq;clear hq;have c0:w1.cell? ⟨q,0,none⟩=some (Qad ep):=HM.out.cell 0 0 rfl HV0.out;have HO1:Hid ((w1.alloc (.cells #[Qad ep] 40)).ownsRow w1.heap.size 40 1 (.slice (some ⟨w1.heap.size,0,none⟩) 1 1) 1 ((lnP ep ns n 0).map Qad)) :=
  LH ⟨rfl,.inr ⟨w1.heap.size,1,#[Qad ep],rfl,Nat.le_refl _,heap_alloc_new w1 _,Nat.le_refl _,(by decide),rfl,rfl⟩⟩
 have HB1:=LH (Qaf w1 (.cells #[Qad ep] 40));go_wp2_with fail
 go_loopw [5,6] (fun v iv wr=>∃k:Nat,k≤4∧iv=.int .i64 (k:Int)∧Hid (wr.ownsRow w1.heap.size 40 1 v (k+1) ((lnP ep ns n k).map Qad))∧Hid (Below w1.heap.size w1 wr)) (fun _ iv _=>4-(intOf iv).toNat)
 case atStart=>exact ⟨0,by omega,rfl,HO1,HB1⟩
 case round =>
  obtain ⟨k,hk,rfl,HO,HB⟩:=hrel
  by_cases hlt:k<4
  ·obtain ⟨hx,hxc⟩:=HNs.out (4*n+k) (by omega);have c1:wr.cell? ⟨q,1+(4*n+k),none⟩=some (.int .i64 ((ns.getD (4*n+k) 0:Nat):Int)):=by
    rw [HB.out.cell (p:=⟨q,_,none⟩) (HM.out.glt 0 rfl)];exact HM.out.cell 0 _ rfl hxc
   clear hxc;have HNx:=LH (Jeh ep ns n k);generalize ns.getD (4*n+k) 0=x at *;have hlt':(k:Int)<4:=by omega
   have hsz:=LH HB.out.size;have hk9:k+1<1000000000000:=by omega
   go_wp2_with (at_builtin;refine Qdy Qyy HO.out rfl hk9 (by decide) hsz.out rfl rfl rfl rfl ?_;intro v' w2 ho2 hg2 _;have HO2:=LH ho2;have HG2:=LH hg2;clear ho2 hg2)
   refine ⟨⟨k+1,by omega,Qb2 (by omega),LH ?_,LH (Qav HB.out HO.out HG2.out NR NR)⟩,by simp [intOf];omega⟩;rw [HNx.out,List.map_append];exact HO2.out
  ·have hk4:k=4:=by omega
   subst hk4;rw [show ((4:Nat):Int)=4 from rfl];have HBa:=LH (HB.out.trans ((Qaf wr (.cells #[.int .u64 (n:Int),.int .u64 0] 40)).mono HB.out.size));have HOa:=LH (HO.out.alloc (.cells #[.int .u64 (n:Int),.int .u64 0] 40));have HCa:Hid (Qaq (wr.alloc (.cells #[.int .u64 (n:Int),.int .u64 0] 40)) (some ⟨wr.heap.size,0,none⟩) [Qad n,Qad 0]):=LH (Qa6.cells ⟨_,heap_alloc_new _ _,[],rfl⟩);have h1c:∀u∈[Qad n,Qad 0],u.oneCell'=true:=by intro u hu;simp only [List.mem_cons,List.not_mem_nil,or_false] at hu;rcases hu with rfl | rfl <;> rfl
   have H1c:=LH h1c;clear h1c;have hba:=LH HBa.out.size;go_upto_region 7 with (at_builtin;refine Qbb (m:=2) (ys:=[Qad n,Qad 0]) Qyy HOa.out HCa.out rfl H1c.out (by decide) (by decide) hba.out rfl rfl rfl rfl ?_;intro v2 w2 ho2 hg2 hv2;have HO2:=LH ho2;have HG2:=LH hg2;have HV2:=LH hv2;clear ho2 hg2 hv2)
   have HH:Hid ((lnP ep ns n 4).map Qad ++ [Qad n,Qad 0]=(Qd8 ep ns n).map Qad):=LH rfl;have HO3:=HO2.out;rw [HH.out] at HO3;obtain ⟨g,c,rfl,h3,h4,h5,h6⟩:=Qih HO3 (fun e=>by have:=(HV2.out e).2;simp at this);have HO4:=LH HO3;have HB2:Hid (Below w1.heap.size w1 w2):=LH (Qav HBa.out HOa.out HG2.out NR NR);have HC2:Hid (Qaq w2 (some ⟨g,0,none⟩) ((Qd8 ep ns n).map Qad)):=LH h6.cells;clear HO3 h3 h4 h5 h6 HV2 HO2 HOa HCa HBa HO HB HG2 hba;go_wp2_with fail;refine (Qdz (some ⟨g,0,none⟩) c (Qd8 ep ns n) rfl w2 HC2.out HHl.out (by simp [Qd8])).mono ?_;rintro e w5 ⟨rfl,hb5⟩;have hlt:=Qb6 (Qd8 ep ns n);have HS:Hid ((Qg2 ep ns n).map Qad=(Qd8 ep ns n).map Qad ++ [Qad (Qbj (Qd8 ep ns n))]):=LH (by unfold Qg2;rw [List.map_append];rfl);generalize Qbj (Qd8 ep ns n)=cr at *;have HO5:=LH (Qcc HO4.out hb5 NR);have HB5:=LH (HB2.out.trans (hb5.mono HB2.out.size));have hb9:=LH HB5.out.size;clear hb5;go_wp2_with (at_builtin;refine Qdy Qyy HO5.out rfl (by decide) (by decide) hb9.out rfl rfl rfl rfl ?_;intro v' w6 ho6 hg6 _;have HO6:=LH ho6;have HG6:=LH hg6;clear ho6 hg6)
   have HB6:=LH (Qav HB5.out HO5.out HG6.out NR NR);have h9:=HO6.out;rw [← HS.out] at h9;exact HP.out _ _ (Jav h9 (by rw [← HQ.out];exact Nat.le_of_lt (HM.out.glt 0 rfl))) (HM.out.below.trans (HB6.out.mono HM.out.below.size))
theorem Qek:Agg Tryz.prog 55 #[.int .u64 0,.int .i64 0,.int .i64 0,.int .i64 0,.int .i64 0,.int .i64 0,.int .i64 0,.int .i64 0,.int .i64 0]:=⟨⟨_,Tryz.underlying55,rfl⟩,by kernel_rfl⟩
theorem Jba (ep:Nat) (ns:List Nat):(Qox ep ns).length=16:=rfl
theorem Qkf (ep:Nat) (rs:List Int) (hl:rs.length=8) (hep:ep<18446744073709551616) (w:World) :
  Calls Tryz.prog 41 #[Qbg ep rs] w (Qko ep rs w):=by
 have HP:Hid (∀w',Below w.heap.size w w'→Qko ep rs w (.returned (Qgb (Qdl ep rs))) w'):=LH (fun w' h=>⟨rfl,h⟩);generalize hPo:Qko ep rs w=Post at *;clear hPo;have HRt:=LH (fun w=>Qlx ep rs hl hep w);have HNat:=LH (fun (h:Qda ep rs=true)=>Qhz h);have HWd:Hid (Qdl ep rs=if Qda ep rs=true then Qox ep (rs.map Int.toNat) else List.replicate 16 0):=LH rfl;obtain ⟨a0,a1,a2,a3,a4,a5,a6,a7,rfl⟩:=Qcb hl;have hsv:Qbg ep [a0,a1,a2,a3,a4,a5,a6,a7]=.agg #[Qad ep,.int .i64 a0,.int .i64 a1,.int .i64 a2,.int .i64 a3,.int .i64 a4,.int .i64 a5,.int .i64 a6,.int .i64 a7]:=rfl;rw [hsv];rw [hsv] at HRt;have HM:=LH ((Mem.two w #[Qad ep,.int .i64 a0,.int .i64 a1,.int .i64 a2,.int .i64 a3,.int .i64 a4,.int .i64 a5,.int .i64 a6,.int .i64 a7] 55 #[.int .u64 0,.int .u64 0,.int .u64 0,.int .u64 0,.int .u64 0,.int .u64 0,.int .u64 0,.int .u64 0,.int .u64 0,.int .u64 0,.int .u64 0,.int .u64 0,.int .u64 0,.int .u64 0,.int .u64 0,.int .u64 0] 113).alloc #[.int .u64 0,.int .u64 0,.int .u64 0,.int .u64 0,.int .u64 0,.int .u64 0,.int .u64 0,.int .u64 0,.int .u64 0,.int .u64 0,.int .u64 0,.int .u64 0,.int .u64 0,.int .u64 0,.int .u64 0,.int .u64 0] 113);clear hsv hl;go_enter Tryz.func41,Tryz.ntmps41;go_upto_region 2 with fail;obtain ⟨q1,hq1⟩:∃q,q=w.heap.size:=⟨_,rfl⟩
 obtain ⟨q2,hq2⟩:∃q,q=w.heap.size+1:=⟨_,rfl⟩
 obtain ⟨q3,hq3⟩:∃q,q=w.heap.size+1+1:=⟨_,rfl⟩
 simp only [World.size_alloc] at HM
 rw [← hq3,← hq2,← hq1] at HM ⊢;generalize ((w.alloc _).alloc _).alloc _=w1 at *;clear hq1 hq2 hq3;have HM0:Hid (Mem w w1 [⟨q1,55,[Qad ep,.int .i64 a0,.int .i64 a1,.int .i64 a2,.int .i64 a3,.int .i64 a4,.int .i64 a5,.int .i64 a6,.int .i64 a7],true⟩,⟨q2,113,(List.replicate 16 0).map Qad,true⟩,⟨q3,113,(List.replicate 16 0).map Qad,true⟩]):=LH HM.out;clear HM;go_wp2_with (refine Qag Qek HM0.out 0 rfl rfl rfl rfl rfl ?_)
 refine (HRt.out w1).mono ?_;rintro e w2 ⟨rfl,hb2⟩;have HM2:=LH (HM0.out.later hb2);clear hb2 HM0
 by_cases hr:Qda ep [a0,a1,a2,a3,a4,a5,a6,a7]=true
 case neg =>
  have hrf:Qda ep [a0,a1,a2,a3,a4,a5,a6,a7]=false:=by simpa using hr
  rw [hrf];have HF:=LH (fun w' h=>HP.out w' h);rw [HWd.out,if_neg hr] at HF;clear hr;go_wp2_with (first
   | (refine Qag Qib HM2.out 2 rfl rfl rfl rfl rfl ?_)
   | (refine Qaa Qib HM2.out 1 rfl rfl rfl rfl rfl rfl rfl rfl ?_;intro w6 h6 ht6;have H6:=LH h6;clear h6 ht6))
  refine bodyPost_ret (results_cell_row (p:=2) rfl _ _ _ _ _ _ _ rfl (H6.out.exact 1 rfl) Tryz.underlying113 rfl (by kernel_rfl)) rfl ?_;exact HF.out _ H6.out.below
 rw [hr];have HF:=LH (fun w' h=>HP.out w' h);rw [HWd.out,if_pos hr] at HF;obtain ⟨n0,rfl,hn0⟩:=HNat.out hr a0 (by simp);obtain ⟨n1,rfl,hn1⟩:=HNat.out hr a1 (by simp);obtain ⟨n2,rfl,hn2⟩:=HNat.out hr a2 (by simp);obtain ⟨n3,rfl,hn3⟩:=HNat.out hr a3 (by simp);obtain ⟨n4,rfl,hn4⟩:=HNat.out hr a4 (by simp);obtain ⟨n5,rfl,hn5⟩:=HNat.out hr a5 (by simp);obtain ⟨n6,rfl,hn6⟩:=HNat.out hr a6 (by simp);obtain ⟨n7,rfl,hn7⟩:=HNat.out hr a7 (by simp);rw [show [(n0:Int),n1,n2,n3,n4,n5,n6,n7].map Int.toNat=[n0,n1,n2,n3,n4,n5,n6,n7] from rfl] at HF;obtain ⟨ns,hns⟩:∃ns,ns=[n0,n1,n2,n3,n4,n5,n6,n7]:=⟨_,rfl⟩
 have hlt:∀r∈ns,r<131072:=by
  intro r h;rw [hns] at h;simp only [List.mem_cons,List.not_mem_nil,or_false] at h
  rcases h with rfl | rfl | rfl | rfl | rfl | rfl | rfl | rfl <;> assumption
 have HL0:=LH (fun w=>Qt9 ep ns 0 (by rw [hns];rfl) (by decide) hep hlt w);have HL1:=LH (fun w=>Qt9 ep ns 1 (by rw [hns];rfl) (by decide) hep hlt w);have hsv:Qbg ep (ns.map (fun n:Nat=>(n:Int)))=.agg #[Qad ep,.int .i64 (n0:Int),.int .i64 (n1:Int),.int .i64 (n2:Int),.int .i64 (n3:Int),.int .i64 (n4:Int),.int .i64 (n5:Int),.int .i64 (n6:Int),.int .i64 (n7:Int)]:=by rw [hns];rfl
 rw [hsv] at HL0 HL1;rw [← hns] at HF;have hel:=Jba ep ns;have HEa:Hid ((Qg2 ep ns 0).map Qad ++ (Qg2 ep ns 1).map Qad=(Qox ep ns).map Qad):=LH (by unfold Qox;rw [List.map_append]);generalize Qox ep ns=sE at *;obtain ⟨f,hf⟩:∃f:Nat→Nat,f=fun k=>sE.getD k 0:=⟨_,rfl⟩
 have HEl:Hid (sE.length=16):=LH hel;have HAll:Hid (Qck 16 f 16=sE):=LH (by
  rw [Qit,hf]
  apply List.ext_getElem (by simp [hel])
  intro i h1 h2
  simp [GD,h2])
 have HAt:Hid (∀i,i<16→(sE.map Qad)[i]?=some (Qad (f i))):=LH (fun i hi=>by
  rw [hf,List.getElem?_map,GE (by omega)]
  simp [GD,show i<sE.length by omega])
 clear hf hel hsv hns hlt hr HWd HNat;have e0:=HM2.out.cell 0 0 rfl rfl;have e1:=HM2.out.cell 0 1 rfl rfl;have e2:=HM2.out.cell 0 2 rfl rfl;have e3:=HM2.out.cell 0 3 rfl rfl;have e4:=HM2.out.cell 0 4 rfl rfl;have e5:=HM2.out.cell 0 5 rfl rfl;have e6:=HM2.out.cell 0 6 rfl rfl;have e7:=HM2.out.cell 0 7 rfl rfl;have e8:=HM2.out.cell 0 8 rfl rfl;go_upto_region 3 with fail;have re0:=fun x=>Qab e0 x
 have re1:=fun x=>Qab e1 x
 have re2:=fun x=>Qab e2 x
 have re3:=fun x=>Qab e3 x
 have re4:=fun x=>Qab e4 x
 have re5:=fun x=>Qab e5 x
 have re6:=fun x=>Qab e6 x
 have re7:=fun x=>Qab e7 x
 have re8:=fun x=>Qab e8 x
 refine Qai (C:=fun w'=>∃x:Qbi (w2),w'=x.val) [.fl [0,2],.sq [1] true,.sq [3,4,5] false] (by kernel_rfl) (by kernel_rfl) (by intro c a d v w h;cases d <;> exact h) ?_;simp only [Qdj,Qa3,List.getElem?_cons_succ,List.getElem?_cons_zero]
 have hC1:=Qaj (w2);refine Qak hC1 ?_
 repeat (first|go_big_quiet_step (fail)|quiet_step (fail))
 refine wpQuiet_nil ?_;clear re0 re1 re2 re3 re4 re5 re6 re7 re8 e0 e1 e2 e3 e4 e5 e6 e7 e8;refine Qah (fun K hK=>?_);go_wp2_with fail;refine (HL0.out _).mono ?_;rintro e w5 ⟨v0,rfl,ho0,hb5⟩;have hC2:=Qan hC1 hb5;have HO0:Hid (w5.ownsRow w2.heap.size 40 1 v0 8 ((Qg2 ep ns 0).map Qad)):=LH (Jav ho0 (Qae hC1).size);have HMa:=LH (HM2.out.later (Qae hC2));have HBa:=LH (Qae hC2);clear hb5 ho0;go_wp2_with fail;refine hK _ _ (fun _=>hC2) ?_;clear hK K;clear hC1 hC2;refine Qal ?_;go_wp2_with fail;refine (HL1.out _).mono ?_;rintro e w6 ⟨v1,rfl,ho1,hb6⟩;obtain ⟨a1,c1,rfl,_,_⟩:=Qbe ho1;have HO1:=LH (Qcc HO0.out hb6 NR);have HC1:=LH (Qaq.owned ho1);have HBb:=LH (HBa.out.trans (hb6.mono HBa.out.size));have hsz:=LH HBb.out.size;have H1c:Hid (∀u∈(Qg2 ep ns 1).map Qad,u.oneCell'=true):=LH (Qd9 _);clear hb6 ho1 HMa HO0 HBa;go_wp2_with (at_builtin;refine Qbb (m:=8) Qyy HO1.out HC1.out rfl H1c.out (by decide) (by decide) hsz.out rfl rfl rfl rfl ?_;intro v2 w7 ho2 hg2 hv2;have HO2:=LH ho2;have HG2:=LH hg2;have HV2:=LH hv2;clear ho2 hg2 hv2)
 have ho9:=HO2.out;rw [HEa.out] at ho9;obtain ⟨g,c,rfl,h3,h4,h5,h6⟩:=Qih ho9 (fun e=>by have:=(HV2.out e).2;simp at this);have HB7:Hid (Below w2.heap.size w2 w7):=LH (Qav HBb.out HO1.out HG2.out NR NR);have HM7:Hid (Mem w w7 [⟨q1,55,[Qad ep,.int .i64 (n0:Int),.int .i64 (n1:Int),.int .i64 (n2:Int),.int .i64 (n3:Int),.int .i64 (n4:Int),.int .i64 (n5:Int),.int .i64 (n6:Int),.int .i64 (n7:Int)],true⟩,⟨q2,113,(List.replicate 16 0).map Qad,true⟩,⟨q3,113,(List.replicate 16 0).map Qad,true⟩,⟨g,40,sE.map Qad,false⟩]):=LH (HM2.out.row HB7.out h6 h3);rw [← Qnd 16 f] at HM7;clear ho9 h3 h4 h5 h6 HB7 HG2 HV2 HO2 hsz HBb HO1 HC1 H1c HM2;have hL:(Qg2 ep ns 0).length=8:=rfl;clear hL;rw [show 8+8=16 from rfl];go_wp2_with fail
 go_loopw [5] (fun iv wr=>∃i:Nat,i≤16∧iv=.int .i64 (i:Int)∧Hid (Mem w wr [⟨q1,55,[Qad ep,.int .i64 (n0:Int),.int .i64 (n1:Int),.int .i64 (n2:Int),.int .i64 (n3:Int),.int .i64 (n4:Int),.int .i64 (n5:Int),.int .i64 (n6:Int),.int .i64 (n7:Int)],true⟩,⟨q2,113,(Qck 16 f 0).map Qad,true⟩,⟨q3,113,(Qck 16 f i).map Qad,true⟩,⟨g,40,sE.map Qad,false⟩])) (fun iv _=>16-(intOf iv).toNat)
 case atStart=>exact ⟨0,by omega,rfl,HM7⟩
 case round =>
  obtain ⟨i,hi,rfl,HM⟩:=hrel
  by_cases hlt:i<16
  ·have hlt':(i:Int)<16:=by omega
   have c1:wr.cell? ⟨g,i,none⟩=some (Qad (f i)):=HM.out.cell 3 i rfl (HAt.out i hlt);obtain ⟨u,hu⟩:∃u,((Qck 16 f i).map Qad)[i]?=some u:=⟨_,GE (by rw [List.length_map,Qba];exact hlt)⟩
   have c0:wr.cell? ⟨q3,i,none⟩=some u:=HM.out.cell 2 i rfl hu;have f0:=HM.out.frozen 2 i rfl;have HS:Hid (Mem w (wr.setCell ⟨q3,i,none⟩ (Qad (f i))) [⟨q1,55,[Qad ep,.int .i64 (n0:Int),.int .i64 (n1:Int),.int .i64 (n2:Int),.int .i64 (n3:Int),.int .i64 (n4:Int),.int .i64 (n5:Int),.int .i64 (n6:Int),.int .i64 (n7:Int)],true⟩,⟨q2,113,(Qck 16 f 0).map Qad,true⟩,⟨q3,113,(Qck 16 f (i+1)).map Qad,true⟩,⟨g,40,sE.map Qad,false⟩]):=LH (by
    have:=HM.out.set 2 i (Qad (f i)) rfl (by rw [List.length_map,Qba];exact hlt);rw [← Qch f hlt,List.map_set]
    exact this)
   clear hu;go_wp2_with fail;exact ⟨⟨i+1,by omega,Qb2 (by omega),HS⟩,by simp [intOf];omega⟩
  ·have hi8:i=16:=by omega
   have hltd:decide ((i:Int)<16)=false:=by simp;omega
   rw [hi8,HAll.out] at HM;clear hi8;rw [Qnd] at HM;have hel:=HEl.out;have HEl2:=LH (show ((sE.map Qad).toArray).size=16 by simpa using hel);clear hel;go_wp2_with (first
    | (refine Qag Qib HM.out 2 rfl rfl rfl rfl (by rw [List.length_map,HEl.out];rfl) ?_)
    | (refine Qaa Qib HM.out 1 rfl rfl rfl rfl rfl (by rw [HEl2.out];rfl) (by simp [HEl.out]) (by simp [Value.oneCell']) ?_;intro w6 h6 ht6;have H6:=LH h6;clear h6 ht6))
   refine bodyPost_ret (results_cell_row (p:=2) rfl _ _ _ _ _ _ _ rfl (H6.out.exact 1 rfl) Tryz.underlying113 rfl (by rw [HEl2.out];kernel_rfl)) rfl ?_;exact HF.out _ H6.out.below
end Go.Proofs.YtpohaahihdhleaaGreat
