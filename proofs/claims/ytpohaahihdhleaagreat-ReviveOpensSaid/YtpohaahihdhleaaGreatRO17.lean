/- Parts of the proof of one statement of the seat. -/
import Derived.Test.YtpohaahihdhleaaGreatRO16
import Derived.OpenShut
import Derived.Lib.SmallJoins
set_option linter.unusedVariables false
set_option maxHeartbeats 16000000
set_option maxRecDepth 100000
open Go.RowKit
namespace Go.Proofs.YtpohaahihdhleaaGreat
section
theorem Qdq {P:Program} {fn:Func} {p u z:Tmp} {ty ty2:TypeId} (h:fn.results=#[.cell p ty,.cell u ty2,.tmp z]) (tmps:Array Value) (w:World) (g k:Nat) (t t2:TypeId) (cs cs2:Array Value) (fr fr2:Nat × Nat) (d d2:TypeDesc)
  (hp:tmps.getD p undef=.pointer (some ⟨g,0,none⟩)) (hg:w.heap[g]?=some (.cells cs t fr)) (hu:P.underlying ty=some d) (hd:(match d with | .struct _ | .array _ _=>true | _=>false)=true) (hi:(P.info? ty).map (·.size)=some cs.size)
  (hp2:tmps.getD u undef=.pointer (some ⟨k,0,none⟩)) (hg2:w.heap[k]?=some (.cells cs2 t2 fr2)) (hu2:P.underlying ty2=some d2) (hd2:(match d2 with | .struct _ | .array _ _=>true | _=>false)=true) (hi2:(P.info? ty2).map (·.size)=some cs2.size) :
  (results fn tmps).run P w=.ok (.tuple #[.agg cs,.agg cs2,tmps.getD z undef]) w:=by
 have hp':tmps[p]?.getD undef=.pointer (some ⟨g,0,none⟩):=by simpa using hp
 have hp2':tmps[u]?.getD undef=.pointer (some ⟨k,0,none⟩):=by simpa using hp2
 simp [results,h,hp',hp2',asAddr,run_loadVar_row w g t ty cs fr d hg hu hd hi,run_loadVar_row w k t2 ty2 cs2 fr2 d2 hg2 hu2 hd2 hi2]
theorem Jbl.list {E:Array Value} {n id ep:Nat} {rs:List Int} {ls ls' lv:Value} (h:Jbl E n id ep rs ls lv) (h1:ls'.oneCell'=true) (hr:rs.length=8):Jbl (E.toList.set 2 ls').toArray n id ep rs ls' lv:=by
 have hl:E.toList.length=30:=by simpa using h.size
 have hne:∀i,i≠2→(E.toList.set 2 ls')[i]?=E.toList[i]?:=fun i hi=>List.getElem?_set_ne (Ne.symm hi)
 refine ⟨by simpa using h.size,?_,?_,?_,?_,?_,fun j v hv=>?_,?_⟩
 ·rw [List.all_eq_true];intro x hx;rcases List.mem_or_eq_of_mem_set hx with c | c
  ·exact List.all_eq_true.1 h.one x c
  ·rw [c];exact h1
 ·exact (hne 0 (by omega)).trans h.c0
 ·exact (hne 1 (by omega)).trans h.c1
 ·exact List.getElem?_set_self (by omega)
 ·exact (hne 11 (by omega)).trans h.c11
 ·exact (hne (12+j) (by omega)).trans (h.c12 j v hv)
 ·exact (hne 29 (by omega)).trans h.c29
theorem Jh4 {w W:World} {x y z:Ent} {g e:Nat} {E:Array Value} {v:Value} (h:Mem w W [x,y,z,⟨g,e,E.toList,true⟩]) (hv:E.toList[2]?=some v):W.cell? ⟨g,2,none⟩=some v:=h.cell 3 2 rfl hv
theorem Qtl {D:Array Value} (h:D.size=8):(Tryz.prog.info? 38).map (·.size)=some D.size:=by
 rw [h];kernel_rfl
theorem Je3 {E:Array Value} (h:E.size=30):(Tryz.prog.info? 59).map (·.size)=some E.size:=by
 rw [h];kernel_rfl
def Qns (S : Dev) (m : Nat) (v : Value) (w : World) : Ending → World → Prop := fun e w' => Below w.heap.size w w' ∧
  ((Qbx S ≠ 0 ∧ e = .returned (.tuple #[v, .agg Qkk, .int .i64 (Qbx S)])) ∨
   (Qbx S = 0 ∧ ∃ (ys : List Nat) (D : Array Value), ys.Pairwise (· < ·) ∧ (∀ x, x ∈ ys ↔ Rch (okN S (Qay S)) (Qcn S) (Qe7 S) x) ∧ RAt w' (.agg D) m (S.rewrite (Qay S) (Qa2 (Qay S) ys) (Qbo S).1).dev.ref ∧ (∀ b, RIn (.agg D) b → RIn v b ∨ w.heap.size ≤ b) ∧
     (((S.rewrite (Qay S) (Qa2 (Qay S) ys) (Qbo S).1).err ≠ 0 ∧ e = .returned (.tuple #[.agg D, .agg Qkk, .int .i64 (S.rewrite (Qay S) (Qa2 (Qay S) ys) (Qbo S).1).err])) ∨
      ((S.rewrite (Qay S) (Qa2 (Qay S) ys) (Qbo S).1).err = 0 ∧ ∃ (E : Array Value) (lg lc : Nat) (va : Option Addr) (vc : Nat), e = .returned (.tuple #[.agg D, .agg E, .int .i64 0]) ∧
        Jbl E (Qbo S).1 (Qbo S).2.1 (Qa5 S).1 (Qa5 S).2.1 (.slice (some ⟨lg, 0, none⟩) (Qbo S).1 lc) (.slice va ys.length vc) ∧ Qa6 w' lg 105 (Qbt (Qa2 (Qay S) ys)) ∧ w.heap.size ≤ lg ∧ Qcs w' (.slice va ys.length vc) ys ∧ (∀ b, Qbc (.slice va ys.length vc) = some b → w.heap.size ≤ b)))))
theorem Quv {w:World} {v:Value} {S:Dev} {m N:Nat} (hm:S.dirty.length=m) (h:RAt w v m S.ref) (hN:N≤800000000) (hf:S.fit N) (hm5:m≤100000) :
  Calls Tryz.prog 32 #[v] w (Qns S m v w):=by
 obtain ⟨D,rfl⟩:=h.agg;have HArr:=LH h.arr;have HP1:Hid (∀w',Qbx S≠0→Below w.heap.size w w'→Qns S m (.agg D) w (.returned (.tuple #[.agg D,.agg Qkk,.int .i64 (Qbx S)])) w'):=LH (fun w' h1 h2=>⟨h2,.inl ⟨h1,rfl⟩⟩);have HP2:Hid (∀(ys:List Nat) (D':Array Value) (R:Qdi) w',Qbx S=0→ys.Pairwise (· < ·)→(∀x,x∈ys↔Rch (okN S (Qay S)) (Qcn S) (Qe7 S) x)→R=S.rewrite (Qay S) (Qa2 (Qay S) ys) (Qbo S).1→RAt w' (.agg D') m R.dev.ref→(∀b,RIn (.agg D') b→RIn (.agg D) b∨w.heap.size≤b)→R.err≠0→Below w.heap.size w w'→
   Qns S m (.agg D) w (.returned (.tuple #[.agg D',.agg Qkk,.int .i64 R.err])) w'):=LH (fun ys D' R w' h1 h2 h3 h4 h5 hri h6 h7=>by
  subst h4
  exact ⟨h7,.inr ⟨h1,ys,D',h2,h3,h5,hri,.inl ⟨h6,rfl⟩⟩⟩)
 have HP3:Hid (∀(ys:List Nat) (D' E:Array Value) (lg lc:Nat) (va:Option Addr) (vl vc:Nat) (R:Qdi) w',Qbx S=0→ys.Pairwise (· < ·)→(∀x,x∈ys↔Rch (okN S (Qay S)) (Qcn S) (Qe7 S) x)→vl=ys.length→R=S.rewrite (Qay S) (Qa2 (Qay S) ys) (Qbo S).1→RAt w' (.agg D') m R.dev.ref→(∀b,RIn (.agg D') b→RIn (.agg D) b∨w.heap.size≤b)→R.err=0→Below w.heap.size w w'→
   Jbl E (Qbo S).1 (Qbo S).2.1 (Qa5 S).1 (Qa5 S).2.1 (.slice (some ⟨lg,0,none⟩) (Qbo S).1 lc) (.slice va vl vc)→Qa6 w' lg 105 (Qbt (Qa2 (Qay S) ys))→w.heap.size≤lg→Qcs w' (.slice va vl vc) ys→(∀b,Qbc (.slice va vl vc)=some b→w.heap.size≤b)→
   Qns S m (.agg D) w (.returned (.tuple #[.agg D',.agg E,.int .i64 0])) w'):=LH (fun ys D' E lg lc va vl vc R w' h1 h2 h3 h4 h5 h6 hri h7 h8 h9 h10 h11 h12 h13=>by
  subst h5 h4
  exact ⟨h8,.inr ⟨h1,ys,D',h2,h3,h6,hri,.inr ⟨h7,E,lg,lc,va,vc,rfl,h9,h10,h11,h12,h13⟩⟩⟩)
 generalize Qns S m (.agg D) w=Post at *;have HA:=LH h;have HFt:=LH hf;have HMx:=LH (((Mem.one w D 38).alloc #[.slice none 0 0,.slice none 0 0,.slice none 0 0,.slice none 0 0,.slice none 0 0,.int .i64 0,.int .i64 0,.bool false] 38).alloc #[.int .i64 0,.int .u64 0,.slice none 0 0,.slice none 0 0,.slice none 0 0,.slice none 0 0,.slice none 0 0,.slice none 0 0,.int .i64 0,.int .i64 0,.bool false,.int .u64 0,.int .i64 0,.int .i64 0,.int .i64 0,.int .i64 0,.int .i64 0,.int .i64 0,.int .i64 0,.int .i64 0,.int .i64 0,.int .i64 0,.int .i64 0,.int .i64 0,.int .i64 0,.int .i64 0,.int .i64 0,.int .i64 0,.int .i64 0,.slice none 0 0] 59);have hD8:=h.arr.1;clear h hf;go_enter Tryz.func32,Tryz.ntmps32;go_upto_region 1 with fail;obtain ⟨q1,hq1⟩:∃q,q=w.heap.size:=⟨_,rfl⟩
 obtain ⟨q2,hq2⟩:∃q,q=w.heap.size+1:=⟨_,rfl⟩
 obtain ⟨q3,hq3⟩:∃q,q=w.heap.size+1+1:=⟨_,rfl⟩
 simp only [World.size_alloc] at HMx
 rw [← hq3,← hq2,← hq1] at HMx ⊢;generalize ((w.alloc _).alloc _).alloc _=w1 at *;have HM1:Hid (Mem w w1 [⟨q1,38,D.toList,true⟩,⟨q2,38,Qfz.toList,true⟩,⟨q3,59,Qkk.toList,true⟩]):=LH HMx.out;have HQq:Hid (q1<q2∧q2<q3∧q3<w1.heap.size∧w.heap.size≤q1):=LH ⟨by omega,by omega,HM1.out.glt 2 rfl,by omega⟩;clear hq1 hq2 hq3 HMx;go_wp2_with (refine Qbn Qbk HM1.out 0 rfl hD8 rfl rfl rfl ?_)
 refine (Qzb hm (HA.out.below HM1.out.below NR) HFt.out hm5).mono ?_;rintro e w2 ⟨hb2,hcase⟩;have HMy:=LH ((HM1.out.later hb2).alloc #[.int .i64 0,.int .u64 0,.slice none 0 0,.slice none 0 0,.slice none 0 0,.slice none 0 0,.slice none 0 0,.slice none 0 0,.int .i64 0,.int .i64 0,.bool false,.int .u64 0,.int .i64 0,.int .i64 0,.int .i64 0,.int .i64 0,.int .i64 0,.int .i64 0,.int .i64 0,.int .i64 0,.int .i64 0,.int .i64 0,.int .i64 0,.int .i64 0,.int .i64 0,.int .i64 0,.int .i64 0,.int .i64 0,.int .i64 0,.slice none 0 0] 59);rcases hcase with ⟨hlk,D',lg,lc,lv,ys,hDD,rfl,hrow,hlg,hlc,hlv,hso,hys,hrw⟩|⟨hlk,rfl⟩
 case inr =>
  obtain ⟨le,hle⟩:∃le,le=Qbx S:=⟨_,rfl⟩
  rw [← hle] at hlk HP1 ⊢;have hle0:(le != 0)=true:=by simpa using hlk
  have HF:=LH (fun w'=>HP1.out w' hlk);clear hb2 hle hlk HP1 HP2 HP3 HM1;go_upto_region 2 with (refine Qaa Qe2 HMy.out 3 rfl rfl rfl rfl rfl rfl rfl rfl ?_;intro w3 h3 ht3;have H3:=LH h3;clear h3 ht3)
  clear HMy;go_wp2_with (first | (refine Qbn Qbk H3.out 0 rfl hD8 rfl rfl rfl ?_) | (refine Qaa Qbk H3.out 1 rfl rfl rfl rfl rfl hD8 hD8.symm HArr.out.2 ?_;intro w4 h4 ht4;have H4:=LH h4;clear h4 ht4) | (refine Qaa Qe2 H4.out 2 rfl rfl rfl rfl rfl rfl rfl rfl ?_;intro w5 h5 ht5;have H5:=LH h5;clear h5 ht5))
  refine bodyPost_ret (Qdq (p:=2) (u:=3) (z:=4) rfl _ _ _ _ _ _ _ _ _ _ _ _ rfl (H5.out.exact 1 rfl) Tryz.underlying38 rfl (Qtl hD8) rfl (H5.out.exact 2 rfl) Tryz.underlying59 rfl (by kernel_rfl)) rfl ?_;exact HF.out _ H5.out.below
 cases hDD
 obtain ⟨h0,_,_,_⟩:=Qfi hlk;have hsz:=Qij h0;have hrr:=Qfs (S:=S) HFt.out.wf.u64C;have hLl:(Qay S).length=(Qbo S).1:=by unfold Qay;exact Qbs _ _
 have hnd:ys.Nodup:=hso.imp (fun h=>Nat.ne_of_lt h);have hyb:∀x∈ys,x<512*(Qbo S).1:=fun x hx=>by
  have:=(Ql9 ((hys x).1 hx).ok').2;rw [hLl] at this;exact this
 have hyl0:ys.length≤512*(Qbo S).1:=Qgr _ _ hyb (Qhr hnd);have hcl:S.cache.length=8*m:=by rw [← hm];exact HFt.out.wf.lenD
 have hm0:0<m:=by omega
 obtain ⟨va,vc,hv,_⟩:=hlv.cells;obtain ⟨vl,hvl⟩:∃l,l=ys.length:=⟨_,rfl⟩
 rw [← hvl] at hv hyl0;subst hv;obtain ⟨E,hE,hW⟩:=Jer (n:=(Qbo S).1) (id:=(Qbo S).2.1) (ls:=.slice (some ⟨lg,0,none⟩) (Qbo S).1 lc) (D:=D) (ep:=(Qa5 S).1) (rs:=(Qa5 S).2.1) (i:=(Qa5 S).2.2.1) (lv:=.slice va vl vc) HArr.out.1 HArr.out.2 hrr.2.1 rfl rfl;rw [hE];have HWt:=LH hW;have HRow:=LH hrow;have HLv:=LH hlv;have HSo:=LH hso;have HYs:=LH hys;have HYb:=LH hyb;have HVl:=LH hvl;have HLz:=LH hlk;have hn2:=hsz.1;have hn256:=hsz.2.1;have hrl:=hrr.2.1;have HNq:Hid (lg≠q1∧lg≠q2∧lg≠q3∧lg<w2.heap.size∧∀b,Qbc (.slice va vl vc)=some b→b≠q1∧b≠q2∧b≠q3∧b<w2.heap.size):=LH (by
  have:=HQq.out;refine ⟨by omega,by omega,by omega,hrow.lt,fun b hb=>?_⟩;have h1:=hrw b hb
  exact ⟨by omega,by omega,by omega,hlv.lt b hb⟩)
 have HRw:Hid (∀b,Qbc (.slice va vl vc)=some b→w.heap.size≤b):=LH (fun b hb=>by have:=hrw b hb;have:=HQq.out;omega);have HAp0:Hid (∀b,RIn (.agg D) b→b<q1):=LH (fun b hb=>by have:=HA.out.oldp hm0 b hb;have:=HQq.out;omega);have HLl:Hid ((Qay S).length=(Qbo S).1):=LH hLl;clear hE hW hrow hlv hso hys hyb hvl hlk hsz hrr hnd h0 hlg hrw hcl HP1;go_upto_region 2 with (refine Qaa Qe2 HMy.out 3 rfl rfl rfl rfl rfl HWt.out.size HWt.out.size.symm HWt.out.one ?_;intro w3 h3 ht3;have H3:=LH h3;have HT3:=LH ht3;clear h3 ht3)
 obtain ⟨q5,hq5⟩:∃q,q=w2.heap.size:=⟨_,rfl⟩
 have HB23:Hid (Below w2.heap.size w2 w3):=LH ((Qaf w2 (.cells #[.int .i64 0,.int .u64 0,.slice none 0 0,.slice none 0 0,.slice none 0 0,.slice none 0 0,.slice none 0 0,.slice none 0 0,.int .i64 0,.int .i64 0,.bool false,.int .u64 0,.int .i64 0,.int .i64 0,.int .i64 0,.int .i64 0,.int .i64 0,.int .i64 0,.int .i64 0,.int .i64 0,.int .i64 0,.int .i64 0,.int .i64 0,.int .i64 0,.int .i64 0,.int .i64 0,.int .i64 0,.int .i64 0,.int .i64 0,.slice none 0 0] 59)).trans (HT3.out.below (by simp) (by simp)));rw [← hq5] at H3 HNq ⊢;have HM3:Hid (Mem w w3 [⟨q1,38,D.toList,true⟩,⟨q2,38,Qfz.toList,true⟩,⟨q3,59,Qkk.toList,true⟩,⟨q5,59,E.toList,true⟩]):=LH H3.out;have HQ5:Hid (q3<q5∧q5<w3.heap.size):=LH ⟨by have:=HQq.out;have:=hb2.size;omega,HM3.out.glt 3 rfl⟩;have HRow3:=LH (HRow.out.below HB23.out);have HLv3:=LH (HLv.out.keep (fun b hb=>HB23.out.block b (HLv.out.lt b hb)));have HA3:=LH (HA.out.below HM3.out.below NR);clear hq5 H3 HT3 HMy hb2 HM1 HRow HLv HB23 HA;obtain ⟨va',vc',hv',hvc3,_⟩:=HLv3.out.cells;injection hv' with hv1 hv2 hv3
 subst hv1 hv3;have HCv3:=LH hvc3;have c2:=Jh4 HM3.out HWt.out.c2;have c29:=HM3.out.cell 3 29 rfl HWt.out.c29;clear hv2 hvc3;go_wp2_with fail;refine (Qzy HLl.out (by omega) (by omega) HRow3.out va vl vc ys HVl.out.symm HCv3.out (by omega) (fun x hx=>by have:=HYb.out x hx;omega)).mono ?_;rintro e w4 ⟨kg,kc,rfl,hkg,hkc,hkrow,hb4⟩;rw [HLl.out] at hkc ⊢;have HM4:=LH (HM3.out.later hb4);have HA4:=LH (HA3.out.below hb4 NR);have HRow4:=LH (HRow3.out.below hb4);have HLv4:=LH (HLv3.out.keep (fun b hb=>hb4.block b (HLv3.out.lt b hb)));have HKr4:=LH hkrow;have HKg:Hid (w.heap.size≤kg):=LH (Nat.le_trans HM3.out.below.size hkg);have HNk:Hid (kg≠q1∧kg≠q2∧kg≠q3∧kg≠q5):=LH (by have:=HQq.out;have:=HQ5.out;omega);have HKl:Hid ((Qa2 (Qay S) ys).length=(Qbo S).1):=LH (by rw [Qdf];exact HLl.out);clear hb4 hkrow hkg c2 c29 HM3 HA3 HRow3 HLv3 HCv3 hLl;obtain ⟨R,hR⟩:∃R,R=S.rewrite (Qay S) (Qa2 (Qay S) ys) (Qbo S).1:=⟨_,rfl⟩
 have HR:Hid (∀D:Qdi,D=(if Qer (Qay S) (Qa2 (Qay S) ys) 1 (Qbo S).1=[] then ⟨S,0⟩ else (S.stores (Qer (Qay S) (Qa2 (Qay S) ys) 1 (Qbo S).1)).bind (fun T=>T.persist 257 (((Qbo S).1:Int)-1)))→D=R):=LH (fun D h=>by
  rw [h,hR];unfold Dev.rewrite
  rfl)
 have HQ2:Hid (∀(D':Array Value) (R':Qdi) w',R'=R→RAt w' (.agg D') m R'.dev.ref→(∀b,RIn (.agg D') b→RIn (.agg D) b∨w.heap.size≤b)→R'.err≠0→Below w.heap.size w w'→Post (.returned (.tuple #[.agg D',.agg Qkk,.int .i64 R'.err])) w'):=LH (fun D' R' w' h1 h2 hri h3 h4=>HP2.out ys D' R' w' HLz.out HSo.out HYs.out (h1.trans hR) h2 hri h3 h4);have HQ3:Hid (∀(D' E:Array Value) (kc:Nat) (R':Qdi) w',R'=R→RAt w' (.agg D') m R'.dev.ref→(∀b,RIn (.agg D') b→RIn (.agg D) b∨w.heap.size≤b)→R'.err=0→Below w.heap.size w w'→Jbl E (Qbo S).1 (Qbo S).2.1 (Qa5 S).1 (Qa5 S).2.1 (.slice (some ⟨kg,0,none⟩) (Qbo S).1 kc) (.slice va vl vc)→Qa6 w' kg 105 (Qbt (Qa2 (Qay S) ys))→Qcs w' (.slice va vl vc) ys→Post (.returned (.tuple #[.agg D',.agg E,.int .i64 0])) w'):=LH (fun D' E kc R' w' h1 h2 hri h3 h4 h5 h6 h7=>HP3.out ys D' E kg kc va vl vc R' w' HLz.out HSo.out HYs.out HVl.out (h1.trans hR) h2 hri h3 h4 h5 h6 HKg.out h7 HRw.out);clear hR HP2 HP3;generalize Qa2 (Qay S) ys=KL at *;generalize Qay S=L at *;generalize (Qbo S).1=n at *;generalize (Qbo S).2.1=id at *;generalize (Qa5 S).1=ep at *;generalize (Qa5 S).2.1=rs at *;generalize (Qa5 S).2.2.1=ri at *;have hfit0:=HFt.out;have HDl0:Hid (S.dirty.length=m):=LH hm;have HAp4:Hid (∀b,RIn (.agg D) b→b≠q1∧b≠q2∧b≠q3∧b≠q5):=LH (fun b hb=>by have:=HAp0.out b hb;have:=HQq.out;have:=HQ5.out;omega);go_wp2_with fail
 go_loopw [6,8,9] (fun ev cv iv wr=>∃(b:Nat) (T:Dev) (ch:Bool) (Dd:Array Value),1≤b∧b≤n∧ev=.int .i64 0∧cv=.bool ch∧iv=.int .i64 (b:Int)∧Hid (RAt wr (.agg Dd) m T.ref)∧Hid (T.fit (N+b))∧Hid (T.dirty.length=m)∧
  Hid (T.stores (Qer L KL b n)=S.stores (Qer L KL 1 n))∧Hid ((ch=false→Qer L KL 1 n=Qer L KL b n)∧(ch=true→Qer L KL 1 n≠[]))∧
  Hid (Mem w wr [⟨q1,38,Dd.toList,true⟩,⟨q2,38,Qfz.toList,true⟩,⟨q3,59,Qkk.toList,true⟩,⟨q5,59,E.toList,true⟩])∧
  Hid (∀b,RIn (.agg Dd) b→b≠q1∧b≠q2∧b≠q3∧b≠q5)∧Hid (∀b,RIn (.agg Dd) b→RIn (.agg D) b∨w.heap.size≤b)∧Hid (Qa6 wr lg 105 (Qbt L))∧Hid (Qa6 wr kg 105 (Qbt KL))∧Hid (Qcs wr (.slice va vl vc) ys)) (fun _ _ iv _=>n-(RowKit.intOf iv).toNat)
 case atStart=>exact ⟨1,S,false,D,Nat.le_refl _,by omega,rfl,rfl,rfl,HA4,LH (hfit0.mono (by omega)),HDl0,LH rfl,LH ⟨fun _=>rfl,fun h=>by cases h⟩,HM4,HAp4,LH (fun b hb=>.inl hb),HRow4,HKr4,HLv4⟩
 case round =>
  obtain ⟨b,T,ch,Dd,hb1,hb2,rfl,rfl,rfl,HAr,HFr,HDr,HSt,HCh,HMr,HAp,HRi,HLr,HKr,HVr⟩:=hrel;clear HA4 hfit0 HDl0 HM4 HAp4 HRow4 HKr4 HLv4;have HArd:=LH HAr.out.arr;have hDd8:=HAr.out.arr.1;have c2:=HMr.out.cell 3 2 rfl HWt.out.c2
  by_cases hlt:b<n
  case neg =>
   have hbe:b=n:=by omega
   have hlt':decide ((b:Int)<(n:Int))=false:=by simp;omega
   have HWs:Hid (Jbl (E.toList.set 2 (.slice (some ⟨kg,0,none⟩) n kc)).toArray n id ep rs (.slice (some ⟨kg,0,none⟩) n kc) (.slice va vl vc)):=LH (HWt.out.list rfl hrl)
   cases hch:ch with
   | false =>
    have HTS:Hid (T=S):=LH (by
     have h1:=HSt.out;rw [HCh.out.1 hch,hbe,Qiq] at h1
     exact congrArg Qdi.dev h1)
    have HRR:=LH (HR.out ⟨S,0⟩ (by rw [if_pos (by rw [HCh.out.1 hch,hbe];exact Qiq _ _ _)]));have HAs:Hid (RAt wr (.agg Dd) m S.ref):=LH (by rw [← HTS.out];exact HAr.out);clear HAr HSt HCh HTS hbe;go_upto_region 18 with fail;obtain ⟨E2,hE2e⟩:∃E2,E2=(E.toList.set 2 (.slice (some ⟨kg,0,none⟩) n kc)).toArray:=⟨_,rfl⟩
    have hE2l:E2.toList=E.toList.set 2 (.slice (some ⟨kg,0,none⟩) n kc):=by rw [hE2e]
    have k2:=HMr.out.frozen 3 2 rfl;have c2':=HMr.out.cell 3 2 rfl HWt.out.c2;have HM18:Hid (Mem w (wr.setCell ⟨q5,2,none⟩ (.slice (some ⟨kg,0,none⟩) n kc)) [⟨q1,38,Dd.toList,true⟩,⟨q2,38,Qfz.toList,true⟩,⟨q3,59,Qkk.toList,true⟩,⟨q5,59,E2.toList,true⟩]):=LH (by
     have:=HMr.out.set 3 2 (.slice (some ⟨kg,0,none⟩) n kc) rfl (by have:=HWt.out.size;simp;omega)
     rw [hE2l];exact this)
    have HT18:Hid (Qam [q5] wr (wr.setCell ⟨q5,2,none⟩ (.slice (some ⟨kg,0,none⟩) n kc))):=LH (Qam.setCell _ (by simp) _);go_upto_region 19 with fail;generalize wr.setCell ⟨q5,2,none⟩ (.slice (some ⟨kg,0,none⟩) n kc)=w18 at *;have HA18:=LH (HAs.out.touch HT18.out (.inr (fun b hb=>by simp;exact (HAp.out b hb).2.2.2)));have HK18:=LH (HKr.out.keep (HT18.out.block kg HKr.out.lt (by simp;exact HNk.out.2.2.2)));have HV18:=LH (HVr.out.keep (fun b hb=>HT18.out.block b (HVr.out.lt b hb) (by simp;have:=HNq.out.2.2.2.2 b hb;omega)));have hE2:=HWs.out.size;have hE2o:=HWs.out.one;rw [← hE2e] at HWs hE2 hE2o;clear k2 c2' hE2e hE2l c2 HT18;have hC1:(∀i v,Dd.toList[i]?=some v→w18.drew.cell? ⟨q1,0+i,none⟩=some v)∧(∀i v,E2.toList[i]?=some v→w18.drew.cell? ⟨q5,0+i,none⟩=some v):=by
     have hm:=HM18.out.later (Qae (Qaj w18));exact ⟨fun i v hi=>by rw [Nat.zero_add];exact hm.cell 0 i rfl hi,fun i v hi=>by rw [Nat.zero_add];exact hm.cell 3 i rfl hi⟩
    refine Qds (C:=fun w'=>(∀i v,Dd.toList[i]?=some v→w'.cell? ⟨q1,0+i,none⟩=some v)∧(∀i v,E2.toList[i]?=some v→w'.cell? ⟨q5,0+i,none⟩=some v)) (.fl [0,1] (.sq [2] true (.sq [3,4] false (.nil)))) (by kernel_rfl) (by kernel_rfl) (by intro c a d v w h;cases d <;> exact h) ?_;simp only [trO,Qa3,List.getElem?_cons_succ,List.getElem?_cons_zero]
    refine Qjm hC1 ?_
    repeat (first | (refine Qbf Qbk Dd (fun _ h=>h.1) hDd8 rfl rfl rfl ?_) | (refine Qbf Qe2 E2 (fun _ h=>h.2) hE2 rfl rfl rfl ?_) | go_big_quiet_step (fail) | quiet_step (fail))
    refine wpQuiet_nil ?_;have hbd:=Qae (Qaj w18);have HM19:=LH (HM18.out.later hbd);have HA19:=LH (HA18.out.below hbd NR);have HK19:=LH (HK18.out.below hbd);have HV19:=LH (HV18.out.keep (fun b hb=>hbd.block b (HV18.out.lt b hb)));generalize w18.drew=w19 at *;clear hbd HM18 HA18 HK18 HV18 hC1;refine Qb8 (fun K hK=>?_);go_wp2_with (refine Qaa Qbk HM19.out 1 rfl rfl rfl rfl rfl hDd8 hDd8.symm HArd.out.2 ?_;intro w20 h20 ht20;have H20:=LH h20;have HT20:=LH ht20;clear h20 ht20)
    refine hK _ _ (fun _=>⟨fun i v hi=>by rw [Nat.zero_add];exact H20.out.cell 0 i rfl hi,fun i v hi=>by rw [Nat.zero_add];exact H20.out.cell 3 i rfl hi⟩) ?_;clear hK K;refine Qcr ?_;go_wp2_with (refine Qaa Qe2 H20.out 2 rfl rfl rfl rfl rfl hE2 hE2.symm hE2o ?_;intro w21 h21 ht21;have H21:=LH h21;have HT21:=LH ht21;clear h21 ht21)
    refine bodyPost_ret (Qdq (p:=2) (u:=3) (z:=4) rfl _ _ _ _ _ _ _ _ _ _ _ _ rfl (H21.out.exact 1 rfl) Tryz.underlying38 rfl (Qtl hDd8) rfl (H21.out.exact 2 rfl) Tryz.underlying59 rfl (Je3 hE2)) rfl ?_;refine HQ3.out Dd E2 kc ⟨S,0⟩ _ HRR.out ?_ HRi.out rfl H21.out.below HWs.out ?_ ?_
    ·exact (HA19.out.touch HT20.out (.inr (fun b hb=>by simp;exact (HAp.out b hb).2.1))).touch HT21.out (.inr (fun b hb=>by simp;exact (HAp.out b hb).2.2.1))
    ·have h1:=HK19.out.keep (HT20.out.block kg HK19.out.lt (by simp;exact HNk.out.2.1));exact h1.keep (HT21.out.block kg h1.lt (by simp;exact HNk.out.2.2.1))
    ·have h1:=HV19.out.keep (fun b hb=>HT20.out.block b (HV19.out.lt b hb) (by simp;exact (HNq.out.2.2.2.2 b hb).2.1));exact h1.keep (fun b hb=>HT21.out.block b (h1.lt b hb) (by simp;exact (HNq.out.2.2.2.2 b hb).2.2.1))
   | true =>
    have HNe:Hid (Qer L KL 1 n≠[]):=LH (HCh.out.2 hch);have HRR:=LH (fun D' h=>HR.out D' (by rw [if_neg HNe.out,← HSt.out,hbe,Qiq];exact h));have HFb:Hid (T.fit (N+b)):=HFr;obtain ⟨n1,hn1⟩:∃x,x=n-1:=⟨_,rfl⟩
    have hn1I:(n:Int)-1=(n1:Int):=by omega
    have HN1:=LH hn1I;clear HSt HCh hbe hn1 HR;go_wp2_with (refine Qbn Qbk HMr.out 0 rfl hDd8 rfl rfl rfl ?_)
    refine (Qy2 HDr.out HAr.out (N:=N+b) (by omega) HFb.out 257 (n1:Int)).mono ?_;rintro e w5 ⟨v,rfl,hra,hri,hb5⟩;obtain ⟨D',rfl⟩:=hra.agg;have HRp:Hid (T.persist 257 (n1:Int)=R):=LH (HRR.out _ (by rw [← HN1.out];exact (Qdi.bind_ok T (fun T=>T.persist 257 ((n:Int)-1))).symm));have HA5:=LH hra;have HA5d:=LH hra.arr;have hD58:=hra.arr.1;have HM5:=LH (HMr.out.later hb5);have HAp5:Hid (∀b,RIn (.agg D') b→b≠q1∧b≠q2∧b≠q3∧b≠q5):=LH (fun b hb=>by
     rcases hri b hb with c | c
     ·exact HAp.out b c
     ·have h1:=HMr.out.glt 0 rfl;have h2:=HMr.out.glt 1 rfl;have h3:=HMr.out.glt 2 rfl;have h4:=HMr.out.glt 3 rfl
      exact ⟨by omega,by omega,by omega,by omega⟩)
    have HRi5:Hid (∀b,RIn (.agg D') b→RIn (.agg D) b∨w.heap.size≤b):=LH (fun b hb=>(hri b hb).elim (HRi.out b) (fun c=>.inr (Nat.le_trans HMr.out.below.size c)));have HK5:=LH (HKr.out.below hb5);have HV5:=LH (HVr.out.keep (fun b hb=>hb5.block b (HVr.out.lt b hb)));rw [HRp.out] at HA5 ⊢;clear hra hri hb5 HRR HRp HAr HMr HLr HKr HVr HFr HFb
    by_cases he:R.err=0
    case neg =>
     have he':(R.err != 0)=true:=by simpa using he
     go_wp2_with (first | (refine Qaa Qbk HM5.out 0 rfl rfl rfl rfl rfl hD58 (hDd8.trans hD58.symm) HA5d.out.2 ?_;intro w6 h6 ht6;have H6:=LH h6;have HT6:=LH ht6;clear h6 ht6) | (refine Qbn Qbk H6.out 0 rfl hD58 rfl rfl rfl ?_) | (refine Qaa Qbk H6.out 1 rfl rfl rfl rfl rfl hD58 hD58.symm HA5d.out.2 ?_;intro w30 h30 ht30;have H30:=LH h30;have HT30:=LH ht30;clear h30 ht30) | (refine Qaa Qe2 H30.out 2 rfl rfl rfl rfl rfl rfl rfl rfl ?_;intro w31 h31 ht31;have H31:=LH h31;have HT31:=LH ht31;clear h31 ht31))
     refine bodyPost_ret (Qdq (p:=2) (u:=3) (z:=4) rfl _ _ _ _ _ _ _ _ _ _ _ _ rfl (H31.out.exact 1 rfl) Tryz.underlying38 rfl (Qtl hD58) rfl (H31.out.exact 2 rfl) Tryz.underlying59 rfl (by kernel_rfl)) rfl ?_;refine HQ2.out D' R _ rfl ?_ HRi5.out he H31.out.below;exact ((HA5.out.touch HT6.out (.inr (fun b hb=>by simp;exact (HAp5.out b hb).1))).touch HT30.out (.inr (fun b hb=>by simp;exact (HAp5.out b hb).2.1))).touch HT31.out (.inr (fun b hb=>by simp;exact (HAp5.out b hb).2.2.1))
    have he':(R.err != 0)=false:=by simp [he]
    go_upto_region 18 with (refine Qaa Qbk HM5.out 0 rfl rfl rfl rfl rfl hD58 (hDd8.trans hD58.symm) HA5d.out.2 ?_;intro w6 h6 ht6;have H6:=LH h6;have HT6:=LH ht6;clear h6 ht6)
    have HM6:=LH H6.out;have HA6:=LH (HA5.out.touch HT6.out (.inr (fun b hb=>by simp;exact (HAp5.out b hb).1)));have HK6:=LH (HK5.out.keep (HT6.out.block kg HK5.out.lt (by simp;exact HNk.out.1)));have HV6:=LH (HV5.out.keep (fun b hb=>HT6.out.block b (HV5.out.lt b hb) (by simp;exact (HNq.out.2.2.2.2 b hb).1)));have HM6:Hid (Mem w w6 [⟨q1,38,D'.toList,true⟩,⟨q2,38,Qfz.toList,true⟩,⟨q3,59,Qkk.toList,true⟩,⟨q5,59,E.toList,true⟩]):=LH H6.out;have c2:=HM6.out.cell 3 2 rfl HWt.out.c2;clear H6 HT6 HA5 HK5 HV5 HM5;obtain ⟨E2,hE2e⟩:∃E2,E2=(E.toList.set 2 (.slice (some ⟨kg,0,none⟩) n kc)).toArray:=⟨_,rfl⟩
    have hE2l:E2.toList=E.toList.set 2 (.slice (some ⟨kg,0,none⟩) n kc):=by rw [hE2e]
    have k2:=HM6.out.frozen 3 2 rfl;have c2':=HM6.out.cell 3 2 rfl HWt.out.c2;have HM18:Hid (Mem w (w6.setCell ⟨q5,2,none⟩ (.slice (some ⟨kg,0,none⟩) n kc)) [⟨q1,38,D'.toList,true⟩,⟨q2,38,Qfz.toList,true⟩,⟨q3,59,Qkk.toList,true⟩,⟨q5,59,E2.toList,true⟩]):=LH (by
     have:=HM6.out.set 3 2 (.slice (some ⟨kg,0,none⟩) n kc) rfl (by have:=HWt.out.size;simp;omega)
     rw [hE2l];exact this)
    have HT18:Hid (Qam [q5] w6 (w6.setCell ⟨q5,2,none⟩ (.slice (some ⟨kg,0,none⟩) n kc))):=LH (Qam.setCell _ (by simp) _);go_upto_region 19 with fail;generalize w6.setCell ⟨q5,2,none⟩ (.slice (some ⟨kg,0,none⟩) n kc)=w18 at *;have HA18:=LH (HA6.out.touch HT18.out (.inr (fun b hb=>by simp;exact (HAp5.out b hb).2.2.2)));have HK18:=LH (HK6.out.keep (HT18.out.block kg HK6.out.lt (by simp;exact HNk.out.2.2.2)));have HV18:=LH (HV6.out.keep (fun b hb=>HT18.out.block b (HV6.out.lt b hb) (by simp;have:=HNq.out.2.2.2.2 b hb;omega)));have hE2:=HWs.out.size;have hE2o:=HWs.out.one;rw [← hE2e] at HWs hE2 hE2o;clear k2 c2' hE2e hE2l c2 HT18;have hC1:(∀i v,D'.toList[i]?=some v→w18.drew.cell? ⟨q1,0+i,none⟩=some v)∧(∀i v,E2.toList[i]?=some v→w18.drew.cell? ⟨q5,0+i,none⟩=some v):=by
     have hm:=HM18.out.later (Qae (Qaj w18));exact ⟨fun i v hi=>by rw [Nat.zero_add];exact hm.cell 0 i rfl hi,fun i v hi=>by rw [Nat.zero_add];exact hm.cell 3 i rfl hi⟩
    refine Qds (C:=fun w'=>(∀i v,D'.toList[i]?=some v→w'.cell? ⟨q1,0+i,none⟩=some v)∧(∀i v,E2.toList[i]?=some v→w'.cell? ⟨q5,0+i,none⟩=some v)) (.fl [0,1] (.sq [2] true (.sq [3,4] false (.nil)))) (by kernel_rfl) (by kernel_rfl) (by intro c a d v w h;cases d <;> exact h) ?_;simp only [trO,Qa3,List.getElem?_cons_succ,List.getElem?_cons_zero]
    refine Qjm hC1 ?_
    repeat (first | (refine Qbf Qbk D' (fun _ h=>h.1) hD58 rfl rfl rfl ?_) | (refine Qbf Qe2 E2 (fun _ h=>h.2) hE2 rfl rfl rfl ?_) | go_big_quiet_step (fail) | quiet_step (fail))
    refine wpQuiet_nil ?_;have hbd:=Qae (Qaj w18);have HM19:=LH (HM18.out.later hbd);have HA19:=LH (HA18.out.below hbd NR);have HK19:=LH (HK18.out.below hbd);have HV19:=LH (HV18.out.keep (fun b hb=>hbd.block b (HV18.out.lt b hb)));generalize w18.drew=w19 at *;clear hbd HM18 HA18 HK18 HV18 hC1;refine Qb8 (fun K hK=>?_);go_wp2_with (refine Qaa Qbk HM19.out 1 rfl rfl rfl rfl rfl hD58 hD58.symm HA5d.out.2 ?_;intro w20 h20 ht20;have H20:=LH h20;have HT20:=LH ht20;clear h20 ht20)
    refine hK _ _ (fun _=>⟨fun i v hi=>by rw [Nat.zero_add];exact H20.out.cell 0 i rfl hi,fun i v hi=>by rw [Nat.zero_add];exact H20.out.cell 3 i rfl hi⟩) ?_;clear hK K;refine Qcr ?_;go_wp2_with (refine Qaa Qe2 H20.out 2 rfl rfl rfl rfl rfl hE2 hE2.symm hE2o ?_;intro w21 h21 ht21;have H21:=LH h21;have HT21:=LH ht21;clear h21 ht21)
    refine bodyPost_ret (Qdq (p:=2) (u:=3) (z:=4) rfl _ _ _ _ _ _ _ _ _ _ _ _ rfl (H21.out.exact 1 rfl) Tryz.underlying38 rfl (Qtl hD58) rfl (H21.out.exact 2 rfl) Tryz.underlying59 rfl (Je3 hE2)) rfl ?_;refine HQ3.out D' E2 kc R _ rfl ?_ HRi5.out he H21.out.below HWs.out ?_ ?_
    ·exact (HA19.out.touch HT20.out (.inr (fun b hb=>by simp;exact (HAp5.out b hb).2.1))).touch HT21.out (.inr (fun b hb=>by simp;exact (HAp5.out b hb).2.2.1))
    ·have h1:=HK19.out.keep (HT20.out.block kg HK19.out.lt (by simp;exact HNk.out.2.1));exact h1.keep (HT21.out.block kg h1.lt (by simp;exact HNk.out.2.2.1))
    ·have h1:=HV19.out.keep (fun b hb=>HT20.out.block b (HV19.out.lt b hb) (by simp;exact (HNq.out.2.2.2.2 b hb).2.1));exact h1.keep (fun b hb=>HT21.out.block b (h1.lt b hb) (by simp;exact (HNq.out.2.2.2.2 b hb).2.2.1))
  have hlt':(b:Int)<(n:Int):=by omega
  obtain ⟨k1,c1,z1,he1⟩:=Qe5 L b;obtain ⟨k2,c2',z2,he2⟩:=Qe5 KL b;obtain ⟨bw,ow,qw,x0,x1,x2⟩:=Qcq HLr.out.cells (by rw [HLl.out];exact hlt) he1;obtain ⟨bn,on,qn,y0,y1,y2⟩:=Qcq HKr.out.cells (by rw [HKl.out];exact hlt) he2;injection qw with qw
  injection qw with qw1 qw2
  injection qn with qn
  injection qn with qn1 qn2
  subst qw1 qw2 qn1 qn2;rw [Nat.zero_add] at x0 x1 x2 y0 y1 y2;have rx0:=fun x=>Qab x0 x
  have rx1:=fun x=>Qab x1 x
  have rx2:=fun x=>Qab x2 x
  have ry0:=fun x=>Qab y0 x
  have ry1:=fun x=>Qab y1 x
  have ry2:=fun x=>Qab y2 x
  have rc2:=fun x=>Qab c2 x
  have HE1:=LH he1;have HE2:=LH he2;have hgd:=Jil;clear he1 he2 x0 x1 x2
  by_cases hqe:(⟨k1,c1,z1⟩:Hd)=⟨k2,c2',z2⟩
  ·have heq:∀w',(Op.equalIn 10000 105 (.agg #[.int .i64 k2,.int .i64 c2',.int .i64 z2]) (.agg #[.int .i64 k1,.int .i64 c1,.int .i64 z1])).run Tryz.prog w'=.ok true w':=fun w'=>Qrd w' _ _ _ _ _ _ _ (by rw [← Qi7];simp [hqe])
   have HSk:=LH (Qs4 (was:=L) (now:=KL) hlt (by rw [HE1.out,HE2.out,hqe]));have HSt2:Hid (T.stores (Qer L KL (b+1) n)=S.stores (Qer L KL 1 n)):=LH (by rw [← HSk.out];exact HSt.out);have HCh2:Hid ((ch=false→Qer L KL 1 n=Qer L KL (b+1) n)∧(ch=true→Qer L KL 1 n≠[])):=LH (by rw [← HSk.out];exact HCh.out);clear hqe y0 y1 y2;go_upto_region 9 with fail;refine Qbh (by kernel_rfl) (by kernel_rfl) ?_
   repeat (first|go_big_quiet_step (fail)|quiet_step (fail))
   refine wpQuiet_nil ?_;rintro w5 ⟨z,hz⟩;have hbz:Below wr.heap.size wr w5:=by rw [hz];exact z.below
   have HA5:=LH (HAr.out.below hbz NR);have HM5:=LH (HMr.out.later hbz);have HL5:=LH (HLr.out.below hbz);have HK5:=LH (HKr.out.below hbz);have HV5:=LH (HVr.out.keep (fun b hb=>hbz.block b (HVr.out.lt b hb)));clear hz hbz rx0 rx1 rx2 ry0 ry1 ry2 rc2 c2 HAr HMr HLr HKr HVr heq;go_wp2_with fail;exact ⟨⟨b+1,T,ch,Dd,by omega,by omega,rfl,rfl,Qb2 (by omega),HA5,LH (HFr.out.mono (by omega)),HDr,HSt2,HCh2,HM5,HAp,HRi,HL5,HK5,HV5⟩,by simp [RowKit.intOf];omega⟩
  have heq:∀w',(Op.equalIn 10000 105 (.agg #[.int .i64 k2,.int .i64 c2',.int .i64 z2]) (.agg #[.int .i64 k1,.int .i64 c1,.int .i64 z1])).run Tryz.prog w'=.ok false w':=fun w'=>Qrd w' _ _ _ _ _ _ _ (by rw [← Qi7];exact (decide_eq_false (fun h=>hqe h.symm)).symm)
  have HCo:=LH (Qtn (was:=L) (now:=KL) hlt (by rw [HE1.out,HE2.out];exact hqe));rw [HE2.out] at HCo;dsimp only at HCo;have HSt1:=LH (by rw [HCo.out] at HSt;exact HSt.out);obtain ⟨x,hx⟩:∃x,x=Qeq (b:Int) k2 c2' z2:=⟨_,rfl⟩
  have HXl:Hid (x<18446744073709551616):=LH (by rw [hx];exact Qfx _ _ _ _);have HXe:=LH hx;rw [← hx] at HSt1;have HSc:=LH (Qb9 T (256+b) x (Qer L KL (b+1) n));have HSt2:=LH (HSc.out.symm.trans HSt1.out);have HNe:Hid (Qer L KL 1 n≠[]):=LH (by
   cases hch:ch with
   | true=>exact HCh.out.2 hch
   | false=>rw [HCh.out.1 hch,HCo.out];simp)
  obtain ⟨j,hj⟩:∃j,j=256+b:=⟨_,rfl⟩
  have hjI:(256:Int)+(b:Int)=(j:Int):=by omega
  have hj9:j≤2000:=by omega
  rw [← hj] at HSt2;clear HSt HSt1 HSc HCo HCh hqe hx hj;go_upto_region 9 with fail;refine Qbh (by kernel_rfl) (by kernel_rfl) ?_
  repeat (first|go_big_quiet_step (fail)|quiet_step (fail))
  refine wpQuiet_nil ?_;rintro w5 ⟨z,hz⟩;have hbz:Below wr.heap.size wr w5:=by rw [hz];exact z.below
  have HA5:=LH (HAr.out.below hbz NR);have HM5:=LH (HMr.out.later hbz);have HL5:=LH (HLr.out.below hbz);have HK5:=LH (HKr.out.below hbz);have HV5:=LH (HVr.out.keep (fun b hb=>hbz.block b (HVr.out.lt b hb)));have y0':=Qaz hbz y0 NR;have y1':=Qaz hbz y1 NR;have y2':=Qaz hbz y2 NR;clear hz hbz rx0 rx1 rx2 ry0 ry1 ry2 rc2 c2 HAr HMr HLr HKr HVr heq y0 y1 y2;have ry0:=fun x=>Qab y0' x
  have ry1:=fun x=>Qab y1' x
  have ry2:=fun x=>Qab y2' x
  have hld:∀w',(∃x:Qbi w5,w'=x.val)→∀(i:Nat) (v:Value),Dd.toList[i]?=some v→w'.cell? ⟨q1,0+i,none⟩=some v:=by
   rintro w' ⟨x,rfl⟩ i v hi;rw [Nat.zero_add];exact Qab (HM5.out.cell 0 i rfl hi) x
  go_upto_region 11 with fail;refine Qds (C:=fun w'=>∃x:Qbi (w5),w'=x.val) (.fl [0,1,2,3,4,5,6,7] (.sq [8] true (.sq [9,10] false (.pu [11,12] (.sq [13,14] false (.nil)))))) (by kernel_rfl) (by kernel_rfl) (by intro c a d v w h;cases d <;> exact h) ?_;simp only [trO,Qa3,List.getElem?_cons_succ,List.getElem?_cons_zero]
  have hC1:=Qaj (w5);refine Qjm hC1 ?_
  repeat (first | (refine Qbf Qbk Dd hld hDd8 rfl rfl rfl ?_) | go_big_quiet_step (fail) | quiet_step (fail))
  refine wpQuiet_nil ?_;clear ry0 ry1 ry2 y0' y1' y2' hld;generalize w5.drew=wd at *;refine Qb8 (fun K hK=>?_);go_wp2_with fail;refine (Qji (b:Int) k2 c2' z2 (by omega) (by omega) wd).mono ?_;rintro e w6 ⟨rfl,hb6⟩;rw [← HXe.out];have hC2:=Qan hC1 hb6;have hb56:=Qae hC2;have HA6:=LH (HA5.out.below hb56 NR);have HM6:=LH (HM5.out.later hb56);have HL6:=LH (HL5.out.below hb56);have HK6:=LH (HK5.out.below hb56);have HV6:=LH (HV5.out.keep (fun b hb=>hb56.block b (HV5.out.lt b hb)));clear hb6 hb56 HA5 HM5 HL5 HK5 HV5;go_wp2_with fail;refine hK _ _ (fun _=>hC2) ?_;clear hK K;refine Qb8 (fun K hK=>?_);go_wp2_with fail;refine (Jd2 HDr.out HA6.out (N:=N+b) (by omega) HFr.out (j:Int) x HXl.out (by omega)).mono ?_;rintro e w7 ⟨v,rfl,hra,hri,hb7⟩;obtain ⟨D',rfl⟩:=hra.agg;have HA7:=LH hra;have HA7d:=LH hra.arr;have hD78:=hra.arr.1;have HM7:=LH (HM6.out.later hb7);have HAp7:Hid (∀b,RIn (.agg D') b→b≠q1∧b≠q2∧b≠q3∧b≠q5):=LH (fun b hb=>by
   rcases hri b hb with c | c
   ·exact HAp.out b c
   ·have h1:=HM6.out.glt 0 rfl;have h2:=HM6.out.glt 1 rfl;have h3:=HM6.out.glt 2 rfl;have h4:=HM6.out.glt 3 rfl
    exact ⟨by omega,by omega,by omega,by omega⟩)
  have HRi7:Hid (∀b,RIn (.agg D') b→RIn (.agg D) b∨w.heap.size≤b):=LH (fun b hb=>(hri b hb).elim (HRi.out b) (fun c=>.inr (Nat.le_trans HM6.out.below.size c)));have HL7:=LH (HL6.out.below hb7);have HK7:=LH (HK6.out.below hb7);have HV7:=LH (HV6.out.keep (fun b hb=>hb7.block b (HV6.out.lt b hb)));have HF7:=LH (Dev.store_fit HFr.out (j:Int) x HXl.out);have HD7:Hid ((T.store (j:Int) x).dirty.length=m):=LH ((Dev.store_dl _ _ _).trans HDr.out);generalize T.store (j:Int) x=T' at *;generalize T.storeE (j:Int)=er at *;clear hra hri hb7 HA6 HM6 HL6 HK6 HV6 HAp HRi HFr HDr;go_wp2_with fail;refine hK _ _ (fun h=>nomatch h) ?_;clear hK K;clear hC1 hC2;refine Qg9 ?_
  repeat (first|go_big_quiet_step (fail)|quiet_step (fail))
  refine wpQuiet_nil ?_
  by_cases he:er=0
  case neg =>
   have he':(er != 0)=true:=by simpa using he
   have HRR:Hid ((⟨T',er⟩:Qdi)=R):=LH (HR.out _ (by rw [if_neg HNe.out,← HSt2.out,if_pos he,Qdi.bind_err _ he]));refine Qcr ?_;go_wp2_with (first | (refine Qaa Qbk HM7.out 0 rfl rfl rfl rfl rfl hD78 (hDd8.trans hD78.symm) HA7d.out.2 ?_;intro w8 h8 ht8;have H8:=LH h8;have HT8:=LH ht8;clear h8 ht8) | (refine Qbn Qbk H8.out 0 rfl hD78 rfl rfl rfl ?_) | (refine Qaa Qbk H8.out 1 rfl rfl rfl rfl rfl hD78 hD78.symm HA7d.out.2 ?_;intro w30 h30 ht30;have H30:=LH h30;have HT30:=LH ht30;clear h30 ht30) | (refine Qaa Qe2 H30.out 2 rfl rfl rfl rfl rfl rfl rfl rfl ?_;intro w31 h31 ht31;have H31:=LH h31;have HT31:=LH ht31;clear h31 ht31))
   refine bodyPost_ret (Qdq (p:=2) (u:=3) (z:=4) rfl _ _ _ _ _ _ _ _ _ _ _ _ rfl (H31.out.exact 1 rfl) Tryz.underlying38 rfl (Qtl hD78) rfl (H31.out.exact 2 rfl) Tryz.underlying59 rfl (by kernel_rfl)) rfl ?_;refine HQ2.out D' ⟨T',er⟩ _ HRR.out ?_ HRi7.out he H31.out.below;exact ((HA7.out.touch HT8.out (.inr (fun b hb=>by simp;exact (HAp7.out b hb).1))).touch HT30.out (.inr (fun b hb=>by simp;exact (HAp7.out b hb).2.1))).touch HT31.out (.inr (fun b hb=>by simp;exact (HAp7.out b hb).2.2.1))
  subst he;have HSt3:Hid (T'.stores (Qer L KL (b+1) n)=S.stores (Qer L KL 1 n)):=LH (by rw [← HSt2.out,if_neg (by simp)]);refine Qcr ?_;go_wp2_with (refine Qaa Qbk HM7.out 0 rfl rfl rfl rfl rfl hD78 (hDd8.trans hD78.symm) HA7d.out.2 ?_;intro w8 h8 ht8;have H8:=LH h8;have HT8:=LH ht8;clear h8 ht8)
  have HM8:Hid (Mem w w8 [⟨q1,38,D'.toList,true⟩,⟨q2,38,Qfz.toList,true⟩,⟨q3,59,Qkk.toList,true⟩,⟨q5,59,E.toList,true⟩]):=LH H8.out;have HA8:=LH (HA7.out.touch HT8.out (.inr (fun b hb=>by simp;exact (HAp7.out b hb).1)));have HL8:=LH (HL7.out.keep (HT8.out.block lg HL7.out.lt (by simp;exact HNq.out.1)));have HK8:=LH (HK7.out.keep (HT8.out.block kg HK7.out.lt (by simp;exact HNk.out.1)));have HV8:=LH (HV7.out.keep (fun b hb=>HT8.out.block b (HV7.out.lt b hb) (by simp;exact (HNq.out.2.2.2.2 b hb).1)));exact ⟨⟨b+1,T',true,D',by omega,by omega,rfl,rfl,Qb2 (by omega),HA8,LH (HF7.out.mono (by omega)),HD7,HSt3,LH ⟨fun h=>(by cases h),fun _=>HNe.out⟩,HM8,HAp7,HRi7,HL8,HK8,HV8⟩,by simp [RowKit.intOf];omega⟩
section
variable {P:Nat→Nat→Prop} {D:Dev}
end
section
variable {S:Dev} {L M:List Hd} {ys:List Nat}
end
theorem Jch {S:Dev} {L:List Hd} {ys:List Nat} (h:Qow S L ys):(Qa2 L ys).getD 0 default=default:=by
 rcases h.cases 0 with c | ⟨c,_⟩
 ·exact c
 ·rw [c];exact h.zero
def Dev.calmD (S:Dev):Dev:={ S with dead:=false,armed:=false }
theorem Qqd.calm {B:Nat} {bm:Bm} (h:Qqd B bm):Qqd B ⟨bm.dev.calmD,bm.list,bm.free⟩ :=
 ⟨h.lenL,h.lenF,⟨⟨⟨h.clean.inv.wf.lenL,h.clean.inv.wf.lenF,h.clean.inv.wf.lenP,h.clean.inv.wf.lenD,h.clean.inv.wf.small,h.clean.inv.wf.u64L,h.clean.inv.wf.u64C,h.clean.inv.wf.u64F⟩,h.clean.inv.sound,h.clean.inv.pend⟩,h.clean.fits,h.clean.clean⟩,h.right,h.word,h.free,h.large⟩
theorem Qvr (S:Dev) (L:List Hd) (x:Int):Qax S.calmD L x=Qax S L x:=rfl
structure Opd (S:Dev) (ys:List Nat) (m:Al):Prop where
 list:m.bm.list=Qa2 (Qay S) ys
 ones:Qey m.used=ys
 free:∀k l,k<32→l.Pairwise (·≤·)→(∀a,l.count a=m.fl.cnt k a)→l=Qdo (fun y=>ys.contains y) (Qa2 (Qay S) ys) k ((Qbo S).1-1)
 upto:m.fl.upto 200000
theorem Qlu.full {S : Dev} (hS : Clr S) {F : Qb0} {w w' : World} {e : Ending} (h : Qlu S F w e w') : Qam F.list w w' ∧
    ((Qbx S ≠ 0 ∧ e = .returned (.tuple #[.agg stZ, .int .i64 (Qbx S)]) ∧ Qa7 w' F S) ∨
     (Qbx S = 0 ∧ ∃ ys : List Nat, ys.Pairwise (· < ·) ∧ (∀ x, x ∈ ys ↔ Rch (okN S (Qay S)) (Qcn S) (Qe7 S) x) ∧
       (((S.rewrite (Qay S) (Qa2 (Qay S) ys) (Qbo S).1).err ≠ 0 ∧ e = .returned (.tuple #[.agg stZ, .int .i64 (S.rewrite (Qay S) (Qa2 (Qay S) ys) (Qbo S).1).err]) ∧ Qa7 w' F (S.rewrite (Qay S) (Qa2 (Qay S) ys) (Qbo S).1).dev) ∨
        ((S.rewrite (Qay S) (Qa2 (Qay S) ys) (Qbo S).1).err = 0 ∧ ∃ (A : AF) (nn g : Nat) (m : Al) (va : Option Addr) (vc : Nat),
          e = .returned (.tuple #[.agg #[.int .i64 ((Qbo S).1 : Int), Qad (Qbo S).2.1, .int .i64 ((Qbo S).1 : Int), Qeb A, .pointer (some ⟨g, 0, none⟩), .slice va ys.length vc], .int .i64 0]) ∧
          Qfy w' A nn (Qbo S).1 m ∧ Qdb w' g F (Qa5 S).1 (Qa5 S).2.1 (Qa5 S).2.2.1 ∧ Qcs w' (.slice va ys.length vc) ys ∧ (∀ k ∈ A.list, k ∈ F.list ∨ w.heap.size ≤ k) ∧ (∀ b, Qbc (.slice va ys.length vc) = some b → w.heap.size ≤ b) ∧ w.heap.size ≤ g ∧ Qa7 w' F (S.rewrite (Qay S) (Qa2 (Qay S) ys) (Qbo S).1).dev ∧ Opd S ys m)))) := by
  obtain ⟨ht, h | ⟨hl, ys, hso, hys, h⟩⟩ := h
  · exact ⟨ht, .inl h⟩
  refine ⟨ht, .inr ⟨hl, ys, hso, hys, ?_⟩⟩;rcases h with h | ⟨he, A, nn, g, lv, rfl, hAF, hnn, hal, hrt, hlvv, hAl, hrw, hgw⟩
  · exact .inl h
  obtain ⟨h1, h2, _, _⟩ := Qfi hl;obtain ⟨s1, s2, s3⟩ := Qij h1;have hnd : ys.Nodup := hso.imp (fun h => Nat.ne_of_lt h);have hlv : Qow S (Qay S) ys := Qr5 hl (fun x hx => ((hys x).1 hx).ok');obtain ⟨o1, _, _, o4, _, o6⟩ := Qt0 (S := S) (n := (Qbo S).1) rfl rfl rfl rfl hS.1 hS.2 hl (fun x hx => ((hys x).1 hx).ok') hnd he;have hw : ∀ b, 1 ≤ b → b < (Qbo S).1 → S.cache.getD (256 + b) 0 = Qeq (b : Int) ((Qay S).getD b default).k ((Qay S).getD b default).c ((Qay S).getD b default).l := fun b b1 b2 => by
    rw [← Qkv];unfold Qay;exact (Qri h2 b1 b2).1
  obtain ⟨r1, r2, r3, r4⟩ := Qqf hS.1 s3.symm s1 (fun b _ _ => hS.2 _) hw he;obtain ⟨va, vc, rfl, hcv, _⟩ := hlvv.cells;have hdv := hal.man.dev;rw [hAF] at hdv;have hlist : hds (Qaw (S.rewrite (Qay S) (Qa2 (Qay S) ys) (Qbo S).1).dev) (Qbo S).1 = Qa2 (Qay S) ys := by
    apply List.ext_getElem (by rw [Qbs, Qdf]; unfold Qay; rw [Qbs])
    intro i h1 h2;have : (hds (Qaw (S.rewrite (Qay S) (Qa2 (Qay S) ys) (Qbo S).1).dev) (Qbo S).1).getD i default = (Qa2 (Qay S) ys).getD i default := by
      by_cases c : 1 ≤ i
      · exact o6 i c
      · obtain rfl : i = 0 := by omega
        rw [Jch hlv, Qp3 _ (by rw [Qbs] at h1; exact h1)];unfold hdF;rw [if_pos rfl]; rfl
    rw [GD, GE h1, GD, GE h2] at this;exact this
  generalize (S.rewrite (Qay S) (Qa2 (Qay S) ys) (Qbo S).1).dev = T at *;have hpl : ∀ x ∈ ys, Qax T (Qa2 (Qay S) ys) (x : Int) = Qax S (Qay S) (x : Int) := fun x hx => hlv.placed (fun j hj => r4 j (.inr (by omega))) r2 hx
  have hlt : ∀ x ∈ ys, x < (List.replicate T.cache.length false).length := fun x hx => by
    have := (hlv.room hx).2.1;have hLl : (Qay S).length = (Qbo S).1 := by unfold Qay; exact Qbs _ _
    rw [List.length_replicate, o4];omega
  have hmk : ∀ x, (Qdu (List.replicate T.cache.length false) ys).getD x false = decide (x ∈ ys) := fun x => by
    rw [Qpv _ _ hlt];have : (List.replicate T.cache.length false).getD x false = false := by
      simp only [GD, List.getElem?_replicate]; split <;> rfl
    rw [this, Bool.false_or]
  have hK : Jgx (Qbo S).1 ⟨⟨T.calmD, (Qog T (Qbo S).1).list, (Qog T (Qbo S).1).free⟩, Qdu (List.replicate T.cache.length false) ys, Qc5 (Qdu (List.replicate T.cache.length false) ys) (Qog T (Qbo S).1).list ((Qbo S).1 - 1)⟩ := by
    refine ⟨o1.calm, ⟨rfl, rfl⟩, o4, by dsimp only; rw [Qoe, List.length_replicate]; exact o4, fun x hx => ?_, fun k x hk => ?_⟩
    · dsimp only at hx ⊢
      rw [hmk] at hx;have hx' := of_decide_eq_true hx;rw [Qvr, show (Qog T (Qbo S).1).list = Qa2 (Qay S) ys from hlist, hpl x hx'];exact hlv.ok x hx'
    · dsimp only
      rw [Qnj o1 _ _ (by omega)]
      congr 1
      refine propext ⟨fun ⟨h1, h2, _⟩ => ⟨h1, h2⟩, fun ⟨h1, h2⟩ => ⟨h1, h2, ?_⟩⟩;have := h1.2.1;rw [o1.lenL] at this;omega
  have hfu : (fun y => ys.contains y) = fun y => (Qdu (List.replicate T.cache.length false) ys).getD y false := by
    funext y
    rw [Bool.eq_iff_iff, List.contains_iff_mem, hmk];simp
  refine .inr ⟨he, A, nn, g, _, va, vc, rfl, hal, hrt, hlvv, hAl, hrw, hgw, hdv, ⟨hlist, ?_, fun k l hk hl hc => ?_, hK.upto.mono (by omega)⟩⟩
  · refine Ja5 (Qxt _) hso (fun a => ?_)
    rw [Jcq];dsimp only;rw [hmk];simp
  · have := hK.free_is hk hl hc (by omega)
    dsimp only at this;rw [this, hfu, show (Qog T (Qbo S).1).list = Qa2 (Qay S) ys from hlist]
theorem Mem.of1 {w W:World} {x:Ent} (hb:Below w.heap.size w W) (hx:Qmk W x) (hg:w.heap.size≤x.g):Mem w W [x] :=
 ⟨hb,fun y hy=>by simp at hy;subst hy;exact hx,fun y hy=>by simp at hy;subst hy;exact hg,by simp⟩
theorem Qlu.told {S : Dev} (hS : Clr S) {F : Qb0} {w w' : World} {e : Ending} (h : Qlu S F w e w') : Qam F.list w w' ∧ ∃ (C : Array Value) (le : Int) (V : Dev), e = .returned (.tuple #[.agg C, .int .i64 le]) ∧ C.size = 6 ∧ C.toList.all (·.oneCell') = true ∧ Qa7 w' F V ∧ (le ≠ 0 → C.toList[3]? = some (.pointer none)) ∧
  ((Qbx S ≠ 0 ∧ V = S ∧ le = Qbx S) ∨ (Qbx S = 0 ∧ ∃ ys : List Nat, ys.Pairwise (· < ·) ∧ (∀ x, x ∈ ys ↔ Rch (okN S (Qay S)) (Qcn S) (Qe7 S) x) ∧ V = (S.rewrite (Qay S) (Qa2 (Qay S) ys) (Qbo S).1).dev ∧ le = (S.rewrite (Qay S) (Qa2 (Qay S) ys) (Qbo S).1).err ∧
   (le = 0 → ∃ (A : AF) (nn g : Nat) (m : Al) (va : Option Addr) (vc : Nat), C = #[.int .i64 ((Qbo S).1 : Int), Qad (Qbo S).2.1, .int .i64 ((Qbo S).1 : Int), Qeb A, .pointer (some ⟨g, 0, none⟩), .slice va ys.length vc] ∧ Qfy w' A nn (Qbo S).1 m ∧ Qdb w' g F (Qa5 S).1 (Qa5 S).2.1 (Qa5 S).2.2.1 ∧ Qcs w' (.slice va ys.length vc) ys ∧ (∀ k ∈ A.list, k ∈ F.list ∨ w.heap.size ≤ k) ∧ (∀ b, Qbc (.slice va ys.length vc) = some b → w.heap.size ≤ b) ∧ w.heap.size ≤ g ∧ Opd S ys m))) := by
 obtain ⟨ht, ⟨hl, rfl, hd⟩ | ⟨hl, ys, hso, hys, ⟨he, rfl, hd⟩ | ⟨he, A, nn, g, m, va, vc, rfl, hal, hrt, hcv, hAl, hrw, hgw, hd, ho⟩⟩⟩ := h.full hS
 ·exact ⟨ht, _, _, S, rfl, rfl, rfl, hd, fun _ => rfl, .inl ⟨hl, rfl, rfl⟩⟩
 ·exact ⟨ht, _, _, _, rfl, rfl, rfl, hd, fun _ => rfl, .inr ⟨hl, ys, hso, hys, rfl, rfl, fun h => absurd h he⟩⟩
 ·exact ⟨ht, _, _, _, rfl, rfl, rfl, hd, fun h => absurd rfl h, .inr ⟨hl, ys, hso, hys, rfl, he.symm, fun _ => ⟨A, nn, g, m, va, vc, rfl, hal, hrt, hcv, hAl, hrw, hgw, ho⟩⟩⟩
theorem Qns.told {S : Dev} {m : Nat} {D : Array Value} {w w' : World} {e : Ending} (hA : RAt w (.agg D) m S.ref) (h : Qns S m (.agg D) w e w') : Below w.heap.size w w' ∧ ∃ (D2 E : Array Value) (lf : Int) (V : Dev), e = .returned (.tuple #[.agg D2, .agg E, .int .i64 lf]) ∧ E.size = 30 ∧ E.toList.all (·.oneCell') = true ∧ RAt w' (.agg D2) m V.ref ∧ (∀ b, RIn (.agg D2) b → RIn (.agg D) b ∨ w.heap.size ≤ b) ∧
  ((Qbx S ≠ 0 ∧ V = S ∧ lf = Qbx S) ∨ (Qbx S = 0 ∧ ∃ ys : List Nat, ys.Pairwise (· < ·) ∧ (∀ x, x ∈ ys ↔ Rch (okN S (Qay S)) (Qcn S) (Qe7 S) x) ∧ V = (S.rewrite (Qay S) (Qa2 (Qay S) ys) (Qbo S).1).dev ∧ lf = (S.rewrite (Qay S) (Qa2 (Qay S) ys) (Qbo S).1).err ∧
   (lf = 0 → ∃ (lg lc : Nat) (va : Option Addr) (vc : Nat), Jbl E (Qbo S).1 (Qbo S).2.1 (Qa5 S).1 (Qa5 S).2.1 (.slice (some ⟨lg, 0, none⟩) (Qbo S).1 lc) (.slice va ys.length vc) ∧ Qa6 w' lg 105 (Qbt (Qa2 (Qay S) ys)) ∧ w.heap.size ≤ lg ∧ Qcs w' (.slice va ys.length vc) ys ∧ (∀ b, Qbc (.slice va ys.length vc) = some b → w.heap.size ≤ b)))) := by
 obtain ⟨hb, ⟨hl, rfl⟩ | ⟨hl, ys, D2, hso, hys, hra, hri, ⟨he, rfl⟩ | ⟨he, E, lg, lc, va, vc, rfl, hw, hr, hlg, hc, hrw⟩⟩⟩ := h
 ·exact ⟨hb, _, _, _, S, rfl, rfl, rfl, hA.below hb NR, fun b hb => .inl hb, .inl ⟨hl, rfl, rfl⟩⟩
 ·exact ⟨hb, _, _, _, _, rfl, rfl, rfl, hra, hri, .inr ⟨hl, ys, hso, hys, rfl, rfl, fun h => absurd h he⟩⟩
 ·exact ⟨hb, _, _, _, _, rfl, hw.size, hw.one, hra, hri, .inr ⟨hl, ys, hso, hys, rfl, he.symm, fun _ => ⟨lg, lc, va, vc, hw, hr, hlg, hc, hrw⟩⟩⟩
theorem reviveOpens_any {w:World} {I:Img} (h:I.In w) (fu:Int) (hfu:-32768≤fu∧fu≤32767) :
  Calls Tryz.prog 6 #[.agg I.cs,.int .i16 fu] w (Qjt (.bool true) w):=by
 have HP:Hid (∀w',Below w.heap.size w w'→Qjt (.bool true) w (.returned (.bool true)) w'):=LH (fun w' h=>⟨rfl,h⟩);generalize Qjt (.bool true) w=Post at *;have HI:=LH h;obtain ⟨ha,nh,hc,ta,nt,tc,r0,r1,r2,r3,r4,r5,r6,r7,E0,E1,ua,nu,uc,hcs0,f1,f2,f3,f4⟩:=I.form;have HCs:=LH hcs0;rw [hcs0];have HM:=LH (Mem.one w #[.slice ha nh hc,.slice ta nt tc,.int .i64 r0,.int .i64 r1,.int .i64 r2,.int .i64 r3,.int .i64 r4,.int .i64 r5,.int .i64 r6,.int .i64 r7,.int .u8 (E0:Int),.int .u8 (E1:Int),.slice ua nu uc] 28);clear f1 f2 f3 f4 h hcs0;go_enter Tryz.func6,Tryz.ntmps6;go_upto_region 1 with fail;obtain ⟨q,hq⟩:∃q,q=w.heap.size:=⟨_,rfl⟩
 rw [← hq] at HM ⊢;generalize w.alloc _=w0 at *;have HM0:Hid (Mem w w0 [⟨q,28,I.cs.toList,true⟩]):=LH (by rw [HCs.out];simpa using HM.out);clear hq HM;go_wp2_with fail;refine (Qu2 w0).mono ?_;rintro e w1 ⟨rfl,hb1⟩;have HM1:=LH (HM0.out.later hb1);clear hb1 HM0;go_wp2_with (refine Qbn Jdw HM1.out 0 rfl rfl rfl rfl rfl ?_)
 refine (Jbx (HI.out.below HM1.out.below)).mono ?_;rintro e w2 ⟨hb2,b,rfl,hsm⟩;have HM2:=LH (HM1.out.later hb2)
 cases b
 case false =>
  have HF:=LH (HP.out w2 HM2.out.below);go_wp2_with fail;exact HF.out
 have hsm':=hsm rfl;have HSm:=LH hsm';have hn7:=hsm'.h7;clear hb2 hsm HM1 hsm';go_wp2_with (refine Qbn Jdw HM2.out 0 rfl rfl rfl rfl rfl ?_)
 refine (Qug (HI.out.below HM2.out.below) HSm.out).mono ?_;rintro e w3 ⟨hb3,g,ws,rfl,hws,hg,hrow⟩;obtain ⟨n,hn⟩:∃n,n=1+I.nh:=⟨_,rfl⟩
 rw [← hn] at hws ⊢;have hn8:n≤8:=by omega
 obtain ⟨N,hN⟩:∃N,N=512*n:=⟨_,rfl⟩
 obtain ⟨m,hm⟩:∃m,m=64*n:=⟨_,rfl⟩
 rw [← hN] at hws ⊢;have hm8:(N+7)/8=m:=by omega
 have hNm:ws.length=8*m:=by rw [hws.1];omega
 have hmb:m≤512:=by omega
 have hm0:0<m:=by omega
 have hNb:N≤4096:=by omega
 obtain ⟨p1,p2⟩:=Jby ws m hNm;have hwf:=(Qrz hNm (by omega) hws.2).wf;have HFt:=LH (Qxi hwf);have HCl:Hid (Clr (Qa8 ws m)):=LH (Qt7 hNm (by omega) hws.2);have HAf:Hid (0≤fu→((Qa8 ws m).arm fu).fit 33000):=LH (fun h0=>⟨HCl.out.arm fu |>.1.wf,by
  unfold Dev.ok Dev.arm Qa8;simp
  omega,fun _=>h0⟩)
 have HLd:=LH (Ja7 g 0 N ws hws.1 w3 (fun i v hi=>by rw [Nat.zero_add];exact hrow.cell hi) (by omega) hws.2);have HRl:=LH (fun w' (hc:Qaq w' (some ⟨g,0,none⟩) (ws.map Qad))=>Jc6 (some ⟨g,0,none⟩) N N ws hws.1 w' hc (by omega) hws.2);rw [hm8,p2] at HLd;rw [hm8,p1] at HRl;have HB3:=LH (HM2.out.below.trans (hb3.mono HM2.out.below.size));have HR:=LH hrow;have hSm:(Qa8 ws m).dirty.length=m:=List.length_replicate;have HSl:Hid ((Qa8 ws m).cache.length=8*m):=LH hNm;clear hb3 hws hg hrow hn hN hm hm8 hNm p1 p2 hwf HI HSm HM2;generalize Qa8 ws m=S at *;go_wp2_with fail;refine HLd.out.mono ?_;rintro e w4 ⟨F,rfl,hFn,hd4,hb4⟩;have HD4:=LH hd4;have HFl:Hid (∀k∈F.list,w3.heap.size≤k∧k<w4.heap.size):=LH (fun k hk=>⟨hFn k hk,hd4.mem k hk⟩);have HB34:Hid (Below w3.heap.size w3 w4):=LH hb4;have HR4:=LH (HR.out.keep (hb4.block g HR.out.lt));clear hd4 hb4 hFn HLd HR;go_wp2_with fail;refine (HRl.out w4 HR4.out.cells).mono ?_;rintro e w5 ⟨v,rfl,hra,hloc,hb5⟩;obtain ⟨D,rfl⟩:=hra.agg;have HA5:=LH hra;have HArr:=LH hra.arr;have HIn5:Hid (∀b,RIn (.agg D) b→w4.heap.size≤b∧b<w5.heap.size):=LH (fun b h=>⟨by
  obtain ⟨cs,hcs,i,x,n',c',hi,rfl⟩:=h
  exact hloc cs hcs i x n' c' hi,hra.oldp hm0 b h⟩)
 have HD5:=LH (HD4.out.below hb5);have HB35:=LH (HB34.out.trans (hb5.mono HB34.out.size));have HS45:Hid (w4.heap.size≤w5.heap.size):=LH hb5.size;have HMz:=LH (Mem.one w5 Qfz 38);clear hra hb5 hloc HRl HR4 HD4 HB34;go_upto_region 7 with (refine Qaa Qbk HMz.out 0 rfl rfl rfl rfl rfl HArr.out.1 HArr.out.1.symm HArr.out.2 ?_;intro w6 h6 ht6;have H6:=LH h6;clear h6 ht6)
 obtain ⟨q5,hq5⟩:∃q,q=w5.heap.size:=⟨_,rfl⟩
 rw [← hq5] at H6 HIn5 ⊢;have HM6:Hid (Mem w5 w6 [⟨q5,38,D.toList,true⟩]):=LH (by simpa using H6.out);have HQ:Hid (w3.heap.size≤q5∧q5∉F.list):=LH ⟨by have:=HB35.out.size;omega,fun hm=>by have:=(HFl.out _ hm).2;have:=HS45.out;omega⟩;have HX6:Hid (Qmk w6 ⟨q5,38,D.toList,true⟩):=LH (HM6.out.rows _ List.mem_cons_self);have HB36:Hid (Below w3.heap.size w3 w6):=LH (HB35.out.trans (HM6.out.below.mono HB35.out.size));have HD6:=LH (HD5.out.below HM6.out.below);have HA6:=LH (HA5.out.below HM6.out.below NR);have HIn6:Hid (∀b,RIn (.agg D) b→b≠q5∧b∉F.list):=LH (fun b h=>⟨by have:=(HIn5.out b h).2;omega,fun hm=>by have:=(HFl.out _ hm).2;have:=(HIn5.out b h).1;omega⟩);have HF3:Hid (∀k∈F.list,w3.heap.size≤k):=LH (fun k hk=>(HFl.out k hk).1);clear hq5 H6 HMz HM6 HB35 HS45 HIn5 HD5 HA5 HFl
 go_upto_if 25 with fail
 go_cut [] (fun wc=>∃(U:Dev) (D':Array Value),Hid (Clr U)∧Hid (Qa7 wc F U)∧Hid (RAt wc (.agg D') m U.ref)∧Hid (U.fit 33000)∧Hid (U.dirty.length=m)∧Hid (Qmk wc ⟨q5,38,D'.toList,true⟩)∧Hid (Below w3.heap.size w3 wc)∧Hid (∀b,RIn (.agg D') b→b≠q5∧b∉F.list)∧Hid (U.cache.length=8*m))
 case first =>
  by_cases hf0:0≤fu
  ·skip
   go_wp2_with fail;refine (Jd6 HD6.out fu).mono ?_;rintro e w7 ⟨rfl,hd7,ht7⟩;have HD7:=LH hd7;have hfd:∀k∈[F.d],k∈F.list:=fun k hk=>by simp [Qb0.list] at hk ⊢;simp [hk]
   have HX7:=LH (HX6.out.keep (ht7.block q5 HX6.out.lt (fun hm=>HQ.out.2 (hfd _ hm))));have HA7:=LH (HA6.out.touch ht7 (.inr (fun b hb hm=>(HIn6.out b hb).2 (hfd _ hm))));have HB37:Hid (Below w3.heap.size w3 w7):=LH (HB36.out.trans (ht7.below HB36.out.size (fun k hk=>HF3.out k (hfd k hk))));clear hd7 ht7;obtain ⟨an,cn,al,cl,aw,cw,ad,cd,ap,cp,hDe,x1,x2,x3,x4,x5⟩:=HA7.out.ex;injection hDe with hDe
   subst hDe;have HM7:Hid (Mem w3 w7 [⟨q5,38,[.slice an m cn,.slice al m cl,.slice aw m cw,.slice ad m cd,.slice ap m cp,.int .i64 S.ref.steps,.int .i64 S.ref.fuse,.bool S.ref.dead],true⟩]):=LH (Mem.of1 HB37.out HX7.out HQ.out.1);have c6:=HM7.out.cell 0 6 rfl rfl;have k6:=HM7.out.frozen 0 6 rfl;have HM8:Hid (Mem w3 (w7.setCell ⟨q5,6,none⟩ (.int .i64 fu)) [⟨q5,38,[.slice an m cn,.slice al m cl,.slice aw m cw,.slice ad m cd,.slice ap m cp,.int .i64 S.ref.steps,.int .i64 fu,.bool S.ref.dead],true⟩]):=LH (HM7.out.set 0 6 (.int .i64 fu) rfl (by simp));have HT8:Hid (Qam [q5] w7 (w7.setCell ⟨q5,6,none⟩ (.int .i64 fu))):=LH (Qam.setCell _ (by simp) _);have HA8:Hid (RAt (w7.setCell ⟨q5,6,none⟩ (.int .i64 fu)) (.agg #[.slice an m cn,.slice al m cl,.slice aw m cw,.slice ad m cd,.slice ap m cp,.int .i64 S.ref.steps,.int .i64 fu,.bool S.ref.dead]) m (S.arm fu).ref):=LH (by
    have h1:=HA7.out.touch HT8.out (.inr (fun b hb=>by simp;exact (HIn6.out b hb).1));obtain ⟨an',cn',al',cl',aw',cw',ad',cd',ap',cp',he,y1,y2,y3,y4,y5⟩:=h1.ex;injection he with he
    simp only [Array.mk.injEq,List.cons.injEq,Value.slice.injEq,and_true,true_and] at he
    obtain ⟨⟨rfl,rfl⟩,⟨rfl,rfl⟩,⟨rfl,rfl⟩,⟨rfl,rfl⟩,⟨rfl,rfl⟩⟩:=he;have hfz:(S.arm fu).ref.fuse=fu:=by unfold Dev.ref Dev.arm;simp [hf0]
    exact ⟨⟨_,_,_,_,_,_,_,_,_,_,by rw [hfz];rfl,y1,y2,y3,y4,y5⟩,h1.lenN,h1.lenL,h1.lenW,h1.lenD,h1.lenP,h1.u64N,h1.u64L,h1.u64W⟩)
   have HD8:=LH (HD7.out.keep (fun k hk=>HT8.out.block k (HD7.out.mem k hk) (by simp;intro e;exact HQ.out.2 (e ▸ hk))));have HIn8:Hid (∀b,RIn (.agg #[.slice an m cn,.slice al m cl,.slice aw m cw,.slice ad m cd,.slice ap m cp,.int .i64 S.ref.steps,.int .i64 fu,.bool S.ref.dead]) b→b≠q5∧b∉F.list):=LH (fun b hb=>HIn6.out b (Jg5.2 (Jg5.1 hb)));clear x1 x2 x3 x4 x5 HM7;go_wp2_with fail
   go_meet
   case rel=>exact ⟨S.arm fu,_,LH (HCl.out.arm fu),HD8,HA8,LH (HAf.out hf0),LH hSm,LH (HM8.out.rows _ List.mem_cons_self),LH HM8.out.below,HIn8,HSl⟩
  ·have hf0':decide (0≤fu)=false:=by simp;omega
   go_wp2_with fail
   go_meet
   case rel=>exact ⟨S,D,HCl,HD6,HA6,LH (HFt.out.mono (by omega)),LH hSm,HX6,HB36,HIn6,HSl⟩
 case rest =>
  obtain ⟨U,D',HUc,HDc,HAc,HFc,HDl,HXc,HBc,HInc,HUl⟩:=hcut;clear HD6 HA6 HX6 HB36 HIn6 HFt HCl HAf HSl HArr hSm hfu;have hD8:=HAc.out.arr.1;have HOp:=LH (Qpe HDc.out HUc.out.1 HUc.out.2 (N:=33000) (by omega) HFc.out.ok (by rw [HUl.out];omega));go_wp2_with fail;refine HOp.out.mono ?_;intro e w7 h7;obtain ⟨ht7,C,le,V,rfl,hc6,hco,hdv,hc3,hcase⟩:=h7.told HUc.out;have HB7:Hid (Below w3.heap.size w3 w7):=LH (HBc.out.trans (ht7.below HBc.out.size (fun k hk=>HF3.out k hk)));have HX7:=LH (HXc.out.keep (ht7.block q5 HXc.out.lt HQ.out.2));have HA7:=LH (HAc.out.touch ht7 (.inr (fun b hb=>(HInc.out b hb).2)));have HQ7:Hid (q5<wc.heap.size):=LH HXc.out.lt;have HWc7:Hid (wc.heap.size≤w7.heap.size):=LH ht7.size;have HDv:=LH hdv;have HC6:=LH hc6;have HCo:=LH hco;have HC3:=LH hc3;have HCase:=LH hcase;have HMz:=LH (Mem.one w7 #[.int .i64 0,.int .u64 0,.int .i64 0,.pointer none,.pointer none,.slice none 0 0] 49);clear h7 ht7 hc6 hco hdv hc3 hcase HOp HBc HXc HAc HDc;go_upto_region 11 with (refine Qaa Qoa HMz.out 0 rfl rfl rfl rfl rfl HC6.out HC6.out.symm HCo.out ?_;intro w8 h8 ht8;have H8:=LH h8;clear h8 ht8)
  obtain ⟨q8,hq8⟩:∃q,q=w7.heap.size:=⟨_,rfl⟩
  have HS78:Hid (w7.heap.size=q8):=LH hq8.symm;rw [← hq8] at H8 ⊢;have HM8:Hid (Mem w7 w8 [⟨q8,49,C.toList,true⟩]):=LH (by simpa using H8.out);have HB8:Hid (Below w3.heap.size w3 w8):=LH (HB7.out.trans (HM8.out.below.mono HB7.out.size));have HMd:Hid (Mem w3 w8 [⟨q5,38,D'.toList,true⟩]):=LH (Mem.of1 HB8.out (HX7.out.keep (HM8.out.below.block q5 HX7.out.lt)) HQ.out.1);have HA8:=LH (HA7.out.below HM8.out.below NR);clear hq8 H8 HMz HA7 HX7;go_wp2_with (refine Qbn Qbk HMd.out 0 rfl hD8 rfl rfl rfl ?_)
  refine (Quv HDl.out HA8.out (N:=33000) (by omega) HFc.out (by omega)).mono ?_;intro e w9 h9;obtain ⟨hb9,D2,E,lf,V2,rfl,hE,hEo,hra,hri,hcase2⟩:=h9.told HA8.out;obtain ⟨hVe,hle,hgood⟩:V2=V∧lf=le∧(le=0→∃(ys:List Nat) (A:AF) (nn g:Nat) (m1:Al) (va:Option Addr) (vc lg lc:Nat) (vb:Option Addr) (vd:Nat),Qbx U=0∧(∀x∈ys,okN U (Qay U) x)∧ys.Nodup∧
    C=#[.int .i64 ((Qbo U).1:Int),Qad (Qbo U).2.1,.int .i64 ((Qbo U).1:Int),Qeb A,.pointer (some ⟨g,0,none⟩),.slice va ys.length vc]∧Qfy w7 A nn (Qbo U).1 m1∧Qdb w7 g F (Qa5 U).1 (Qa5 U).2.1 (Qa5 U).2.2.1∧Qcs w7 (.slice va ys.length vc) ys∧
    (∀k∈A.list,k∈F.list∨wc.heap.size≤k)∧(∀b,Qbc (.slice va ys.length vc)=some b→wc.heap.size≤b)∧wc.heap.size≤g∧Opd U ys m1∧
    Jbl E (Qbo U).1 (Qbo U).2.1 (Qa5 U).1 (Qa5 U).2.1 (.slice (some ⟨lg,0,none⟩) (Qbo U).1 lc) (.slice vb ys.length vd)∧Qa6 w9 lg 105 (Qbt (Qa2 (Qay U) ys))∧w8.heap.size≤lg∧Qcs w9 (.slice vb ys.length vd) ys∧(∀b,Qbc (.slice vb ys.length vd)=some b→w8.heap.size≤b)):=by
   rcases HCase.out with ⟨a1,a2,a3⟩|⟨a1,ys,a2,a3,a4,a5,a6⟩
   ·rcases hcase2 with ⟨_,b2,b3⟩|⟨b1,_⟩
    ·exact ⟨by rw [b2,a2],by rw [b3,a3],fun h=>absurd (a3.symm.trans h) a1⟩
    ·exact absurd b1 a1
   ·rcases hcase2 with ⟨b1,_⟩|⟨_,ys2,b2,b3,b4,b5,b6⟩
    ·exact absurd a1 b1
    ·have e:ys=ys2:=Ja5 a2 b2 (fun x=>(a3 x).trans (b3 x).symm);subst e;refine ⟨by rw [a4,b4],by rw [a5,b5],fun h=>?_⟩;obtain ⟨A,nn,g,m1,va,vc,c1,c2,c3,c4,c5,c6,c7,c8⟩:=a6 h;obtain ⟨lg,lc,vb,vd,d1,d2,d3,d4,d5⟩:=b6 (b5.trans (a5.symm.trans h));exact ⟨ys,A,nn,g,m1,va,vc,lg,lc,vb,vd,a1,fun x hx=>((a3 x).1 hx).ok',a2.imp (fun h=>Nat.ne_of_lt h),c1,c2,c3,c4,c5,c6,c7,c8,d1,d2,d3,d4,d5⟩
  subst hVe hle;have HGd:=LH hgood;have HE:=LH hE;have HEo:=LH hEo;have HA9:=LH hra;have HA9d:=LH hra.arr;have hD28:=hra.arr.1;have HIn9:Hid (∀b,RIn (.agg D2) b→b≠q5):=LH (fun b hb=>by
   rcases hri b hb with c | c
   ·exact (HInc.out b c).1
   ·have h1:=HMd.out.glt 0 rfl
    omega)
  have HB79:Hid (Below w7.heap.size w7 w9):=LH (HM8.out.below.trans (hb9.mono HM8.out.below.size));have HM9:=LH (HM8.out.later hb9);have HQ58:Hid (q5<q8):=LH (by have:=HQ7.out;have:=HS78.out;have:=HWc7.out;omega);have HS89:Hid (w8.heap.size≤w9.heap.size∧q8<w8.heap.size∧q5<w8.heap.size):=LH ⟨hb9.size,HM8.out.glt 0 rfl,HMd.out.glt 0 rfl⟩;have HMy:=LH ((HMd.out.later hb9).alloc #[.int .i64 0,.int .u64 0,.slice none 0 0,.slice none 0 0,.slice none 0 0,.slice none 0 0,.slice none 0 0,.slice none 0 0,.int .i64 0,.int .i64 0,.bool false,.int .u64 0,.int .i64 0,.int .i64 0,.int .i64 0,.int .i64 0,.int .i64 0,.int .i64 0,.int .i64 0,.int .i64 0,.int .i64 0,.int .i64 0,.int .i64 0,.int .i64 0,.int .i64 0,.int .i64 0,.int .i64 0,.int .i64 0,.int .i64 0,.slice none 0 0] 59);have HTa:Hid (Qam [q5] w9 (w9.alloc (.cells #[.int .i64 0,.int .u64 0,.slice none 0 0,.slice none 0 0,.slice none 0 0,.slice none 0 0,.slice none 0 0,.slice none 0 0,.int .i64 0,.int .i64 0,.bool false,.int .u64 0,.int .i64 0,.int .i64 0,.int .i64 0,.int .i64 0,.int .i64 0,.int .i64 0,.int .i64 0,.int .i64 0,.int .i64 0,.int .i64 0,.int .i64 0,.int .i64 0,.int .i64 0,.int .i64 0,.int .i64 0,.int .i64 0,.int .i64 0,.slice none 0 0] 59))):=LH (Qam.ofBelow (Qaf _ _));clear h9 hb9 hE hEo hra hri hcase2 hgood HCase HMd HA8 HM8 HInc HFc HDl;go_upto_region 12 with (first | (refine Qaa Qbk HMy.out 0 rfl rfl rfl rfl rfl hD28 (hD8.trans hD28.symm) HA9d.out.2 ?_;intro w10 h10 ht10;have H10:=LH h10;have HT10:=LH ht10;clear h10 ht10) | (refine Qaa Qe2 H10.out 1 rfl rfl rfl rfl rfl HE.out HE.out.symm HEo.out ?_;intro w11 h11 ht11;have H11:=LH h11;have HT11:=LH ht11;clear h11 ht11))
  obtain ⟨q10,hq10⟩:∃q,q=w9.heap.size:=⟨_,rfl⟩
  have HT:Hid (Qam [q5] w9 w11):=LH ((HTa.out.trans HT10.out).own HT11.out (fun k hk=>.inl (by simp at hk;omega)));rw [← hq10] at H11 ⊢;have HM11:Hid (Mem w3 w11 [⟨q5,38,D2.toList,true⟩,⟨q10,59,E.toList,true⟩]):=LH H11.out;have HQ10:Hid (w9.heap.size=q10):=LH hq10.symm;have HT7:Hid (Qam [q5] w7 w11):=LH ((Qam.ofBelow HB79.out).trans HT.out);have HA11:=LH (HA9.out.touch HT.out (.inr (fun b hb=>by simp;exact HIn9.out b hb)));have HDv11:=LH (HDv.out.keep (fun k hk=>HT7.out.block k (HDv.out.mem k hk) (by simp;intro e;exact HQ.out.2 (e ▸ hk))));have HMs:Hid (Mem w3 w11 [⟨q5,38,D2.toList,true⟩,⟨q10,59,E.toList,true⟩,⟨q8,49,C.toList,true⟩]):=LH (by
   have h1:=HM9.out.rows _ List.mem_cons_self;have h8:=HS89.out;have h78:=HS78.out;have h10:=HQ10.out;have h7:=HQ7.out;have hb7:=HB7.out.size;refine ⟨HM11.out.below,fun x hx=>?_,fun x hx=>?_,?_⟩
   ·simp only [List.mem_cons,List.not_mem_nil,or_false] at hx
    rcases hx with rfl | rfl | rfl
    ·exact HM11.out.rows _ (by simp)
    ·exact HM11.out.rows _ (by simp)
    ·exact h1.keep (HT.out.block q8 (by show q8<_;omega) (by simp;have:=HQ58.out;omega))
   ·simp only [List.mem_cons,List.not_mem_nil,or_false] at hx
    rcases hx with rfl | rfl | rfl
    ·exact HM11.out.base _ (by simp)
    ·exact HM11.out.base _ (by simp)
    ·show w3.heap.size≤q8;omega
   ·have:=HQ58.out;simp
    omega)
  have HVl:Hid (V2.dirty.length=m):=LH HA11.out.lenD;have HSa:=LH (Jcg HVl.out HDv11.out HA11.out);have hle2:(lf != lf)=false:=by simp
  clear hq10 H10 H11 HT10 HT11 HTa HMy HM11 HDv11 HA11 HA9 HDv HM9;go_wp2_with (refine Qo0 (by rfl) ?_;refine Qbn Qbk HMs.out 0 rfl HA9d.out.1 rfl rfl rfl ?_)
  refine HSa.out.mono ?_;rintro e w12 ⟨rfl,hb12⟩;have HM12:=LH (HMs.out.later hb12);have HT712:Hid (Qam [q5] w7 w12):=LH (HT7.out.later hb12);have HT912:Hid (Qam [q5] w9 w12):=LH (HT.out.later hb12);have HBw:Hid (Below w.heap.size w w12):=LH (HB3.out.trans (HM12.out.below.mono HB3.out.size));clear hb12 HMs HT7 HT HSa
  by_cases hl0:lf=0
  case neg =>
   have hl0':(lf != 0)=true:=by simpa using hl0
   have c3:=HM12.out.cell 2 3 rfl (HC3.out hl0);have HF:=LH (HP.out w12 HBw.out);clear hl0;go_wp2_with fail;exact HF.out
  subst hl0;obtain ⟨ys,A,nn,g1,m1,va,vc,lg,lc,vb,vd,hU0,hyo,hnd,rfl,hal,hrt,hov,hAl,hrv,hgv,hop,hW,hrw2,hlg,hob,hrb⟩:=HGd.out rfl;obtain ⟨h0,_,_,_⟩:=Qfi hU0;have hsz:=Qij h0;have hLl:(Qay U).length=(Qbo U).1:=by unfold Qay;exact Qbs _ _
  have hrr:=Qfs (S:=U) HUc.out.1.wf.u64C;have hyl0:ys.length≤512*(Qbo U).1:=Qgr _ _ (fun x hx=>by
   have:=(Ql9 (hyo x hx)).2
   rw [hLl] at this;exact this) (Qhr hnd)
  have HAl:Hid (Qfy w12 A nn (Qbo U).1 m1):=LH (hal.keep (fun k hk=>HT712.out.block k (hal.mem k hk) (by
   simp
   intro e;rcases hAl k hk with c | c
   ·exact HQ.out.2 (e ▸ c)
   ·have:=HQ7.out;omega)))
  have HRt:Hid (Qdb w12 g1 F (Qa5 U).1 (Qa5 U).2.1 (Qa5 U).2.2.1):=LH ((HT712.out.block g1 (Qbu hrt) (by simp;have:=HQ7.out;omega)).trans hrt);have HOv:Hid (Qcs w12 (.slice va ys.length vc) ys):=LH (hov.keep (fun b hb=>HT712.out.block b (hov.lt b hb) (by simp;have:=hrv b hb;have:=HQ7.out;omega)));have HRw:Hid (Qa6 w12 lg 105 (Qbt (Qa2 (Qay U) ys))):=LH (hrw2.keep (HT912.out.block lg hrw2.lt (by simp;have:=HS89.out;omega)));have HOb:Hid (Qcs w12 (.slice vb ys.length vd) ys):=LH (hob.keep (fun b hb=>HT912.out.block b (hob.lt b hb) (by simp;have:=hrb b hb;have:=HS89.out;omega)));obtain ⟨vl,hvl⟩:∃l,l=ys.length:=⟨_,rfl⟩
  rw [← hvl] at HOv HOb HM12 hW hyl0;obtain ⟨a1,x1,y1,hcv,_⟩:=HOv.out.cells;injection y1 with y1 y2 y3
  subst y1 y3;obtain ⟨a2,x2,z1,hcb,_⟩:=HOb.out.cells;injection z1 with z1 z2 z3
  subst z1 z3;have HCv:=LH hcv;have HCb:=LH hcb;have HVn:=LH hvl;have HWt:=LH hW;have HOd:=LH hop;have hrl:=hrr.2.1;have hnb:=hsz.2.1;have hnb2:=hsz.1;have hnb8:(Qbo U).1≤8:=by have h1:=hsz.2.2;have h2:=HUl.out;omega
  have hvl9:vl≤1000000:=by omega
  have HKl:Hid ((Qa2 (Qay U) ys).length=(Qbo U).1):=LH (by rw [Qdf];exact hLl);have HL1:Hid (m1.bm.list=Qa2 (Qay U) ys):=LH hop.list;have HFr:Hid (∀k l,k<32→l.Pairwise (·≤·)→(∀a,l.count a=m1.fl.cnt k a)→l=Qdo (fun y=>ys.contains y) (Qa2 (Qay U) ys) k ((Qbo U).1-1)):=LH hop.free;clear hU0 hyo hnd hal hrt hov hAl hrv hgv hop hW hrw2 hlg hob hrb h0 hsz hLl hrr y2 z2 hcv hcb hvl hyl0 HT712 HT912 HOv HOb HGd HC6 HCo HC3;generalize Qa2 (Qay U) ys=KL at *;generalize (Qbo U).1=nb at *;generalize (Qbo U).2.1=id at *;generalize (Qa5 U).1=ep at *;generalize (Qa5 U).2.1=rs at *;generalize (Qa5 U).2.2.1=ri at *;have p3:=HM12.out.cell 2 3 rfl rfl;have c2:=HM12.out.cell 1 2 rfl HWt.out.c2;have c29:=HM12.out.cell 1 29 rfl HWt.out.c29;have t1:=HAl.out.c0;have u1:w12.cell? ⟨A.X.m,0,none⟩=some (.pointer (some ⟨A.X.t,0,none⟩)):=cell_of_row _ _ 0 _ _ _ HAl.out.man.head;have rp3:=fun x=>Qab p3 x
  have rc2:=fun x=>Qab c2 x
  have rc29:=fun x=>Qab c29 x
  have rt1:=fun x=>Qab t1 x
  have ru1:=fun x=>Qab u1 x
  have hldS:∀w',(∃x:Qbi w12,w'=x.val)→∀(i:Nat) (v:Value),(#[.int .i64 (nb:Int),Qad id,.int .i64 (nb:Int),Qeb A,.pointer (some ⟨g1,0,none⟩),.slice va vl vc]:Array Value).toList[i]?=some v→w'.cell? ⟨q8,0+i,none⟩=some v:=by
   rintro w' ⟨x,rfl⟩ i v hi;rw [Nat.zero_add];exact Qab (HM12.out.cell 2 i rfl hi) x
  have hldE:∀w',(∃x:Qbi w12,w'=x.val)→∀(i:Nat) (v:Value),E.toList[i]?=some v→w'.cell? ⟨q10,0+i,none⟩=some v:=by
   rintro w' ⟨x,rfl⟩ i v hi;rw [Nat.zero_add];exact Qab (HM12.out.cell 1 i rfl hi) x
  unfold Qeb at *;clear p3 c2 c29 t1 u1;go_upto_region 16 with fail;refine Qai (C:=fun w'=>∃x:Qbi (w12),w'=x.val) [.fl [0,1],.sq [2,3,4,5,6,7,8,9] false,.fl [10,11,13,14],.sq [12] true,.sq [15,16,17,18] false,.fl [19,20,21,22,23,24,25,26,29,30],.sq [27] true,.sq [28] true,.sq [31,32,33] false] (by kernel_rfl) (by kernel_rfl) (by intro c a d v w h;cases d <;> exact h) ?_;simp only [Qdj,Qa3,List.getElem?_cons_succ,List.getElem?_cons_zero]
  have hC1:=Qaj (w12);refine Qak hC1 ?_
  repeat (first | (refine Qbf Qoa #[.int .i64 (nb:Int),Qad id,.int .i64 (nb:Int),.pointer (some ⟨A.a,0,none⟩),.pointer (some ⟨g1,0,none⟩),.slice va vl vc] hldS rfl rfl rfl rfl ?_) | (refine Qbf Qe2 E hldE HWt.out.size rfl rfl rfl ?_) | go_big_quiet_step (fail) | quiet_step (fail))
  refine wpQuiet_nil ?_;have HBd:Hid (Below w12.heap.size w12 w12.drew):=LH (Qae hC1);generalize w12.drew=wd at *;clear hldS hldE;refine Qah (fun K hK=>?_);go_wp2_with fail;refine (Jdn HWt.out HVn.out.symm (by omega) (HCv.out.below HBd.out NR) (HCb.out.below HBd.out NR) (HRt.out.below HBd.out NR) hrl).mono ?_;rintro e w14 ⟨rfl,hb14⟩;have hC2:=Qan hC1 hb14;have HB14:Hid (Below w12.heap.size w12 w14):=LH (Qae hC2);have p3:=(HM12.out.later HB14.out).cell 2 3 rfl rfl;clear hb14;go_wp2_with fail;refine hK _ _ (fun h=>nomatch h) ?_;clear hK K;clear p3;refine Qak hC2 ?_
  repeat (first|go_big_quiet_step (fail)|quiet_step (fail))
  refine wpQuiet_nil ?_;refine Qah (fun K hK=>?_);go_wp2_with fail;refine (Qtu (HAl.out.below HB14.out)).mono ?_;intro e w15 hp;obtain ⟨au,cu,rfl,hcu,hb15,_⟩:=hp.own;rw [HOd.out.ones] at hcu ⊢;rw [← HVn.out];have HCu:=LH hcu;have hC3:=Qan hC2 hb15;have HB15:Hid (Below w12.heap.size w12 w15):=LH (Qae hC3);clear hb15 hp hcu;go_wp2_with fail;refine hK _ _ (fun _=>hC3) ?_;clear hK K;refine Qah (fun K hK=>?_);go_wp2_with fail;refine (Qlo au vb vl cu vd ys HVn.out.symm HCu.out (HCb.out.below HB15.out NR) (by omega)).mono ?_;rintro e w16 ⟨rfl,hb16⟩;have hC4:=Qan hC3 hb16;have HB16:Hid (Below w12.heap.size w12 w16):=LH (Qae hC4);clear hb16;go_wp2_with fail;refine hK _ _ (fun h=>nomatch h) ?_;clear hK K;refine Qak hC4 ?_
  repeat (first|go_big_quiet_step (fail)|quiet_step (fail))
  refine wpQuiet_nil ?_;refine Qah (fun K hK=>?_);go_wp2_with fail;refine (Qq6 (HAl.out.below HB16.out).man.tab (by omega)).mono ?_;rintro e w17 ⟨qa,ka,rfl,_,hka,hra,hb17⟩;rw [HL1.out] at hra;have HRa:=LH hra;have hC5:=Qan hC4 hb17;clear hra hb17;go_wp2_with fail;refine hK _ _ (fun _=>hC5) ?_;clear hK K;refine Qah (fun K hK=>?_);go_wp2_with fail;refine (Jdz (some ⟨qa,0,none⟩) nb ka KL HKl.out w17 HRa.out.cells (by omega)).mono ?_;rintro e w18 ⟨v,rfl,ho,hb18⟩;obtain ⟨a18,c18,rfl,hcs18⟩:=Qi5 ho;have HC18:=LH hcs18;have hC6:=Qan hC5 hb18;have HB18:Hid (Below w12.heap.size w12 w18):=LH (Qae hC6);clear hcs18 ho hb18 HRa;go_wp2_with fail;refine hK _ _ (fun _=>hC6) ?_;clear hK K;clear hC1 hC2 hC3 hC4 hC5 hC6 rp3 rc2 rc29 rt1 ru1;refine Qal ?_;go_wp2_with fail;refine (Ja2 a18 (some ⟨lg,0,none⟩) nb nb c18 lc KL KL HKl.out HKl.out w18 HC18.out (HRw.out.below HB18.out).cells (by omega) (by omega)).mono ?_;rintro e w19 ⟨rfl,qd,hqd⟩;have hse:Qzw KL KL=true:=by simp [Qzw]
  rw [hse];have HB19:Hid (Below w12.heap.size w12 w19):=LH (by rw [hqd];exact below_drewN HB18.out qd);clear hse hqd;go_wp2_with fail
  go_loopw [12] (fun iv wr=>∃k:Nat,k≤32∧iv=.int .i64 (k:Int)∧Hid (Below w12.heap.size w12 wr)) (fun iv _=>32-(intOf iv).toNat)
  case atStart=>exact ⟨0,by omega,rfl,HB19⟩
  case round =>
   obtain ⟨k,hk,rfl,HBr⟩:=hrel
   by_cases hk32:k<32
   case neg =>
    have hk':decide ((k:Int)<32)=false:=by simp;omega
    have HF:=LH (HP.out wr (HBw.out.trans (HBr.out.mono HBw.out.size)));go_wp2_with fail;exact HF.out
   have hk':(k:Int)<32:=by omega
   have HMr:=LH (HM12.out.later HBr.out);have p3:=HMr.out.cell 2 3 rfl rfl;have c2:=HMr.out.cell 1 2 rfl HWt.out.c2;have c29:=HMr.out.cell 1 29 rfl HWt.out.c29;have rp3:=fun x=>Qab p3 x
   have rc2:=fun x=>Qab c2 x
   have rc29:=fun x=>Qab c29 x
   clear p3 c2 c29;go_upto_region 21 with fail;refine Qai (C:=fun w'=>∃x:Qbi (wr),w'=x.val) [.fl [0,1,2,4,5,6,7,8],.sq [3] true,.sq [9,10,11] false] (by kernel_rfl) (by kernel_rfl) (by intro c a d v w h;cases d <;> exact h) ?_;simp only [Qdj,Qa3,List.getElem?_cons_succ,List.getElem?_cons_zero]
   have hC1:=Qaj (wr);refine Qak hC1 ?_
   repeat (first|go_big_quiet_step (fail)|quiet_step (fail))
   refine wpQuiet_nil ?_;have HBd2:Hid (Below w12.heap.size w12 wr.drew):=LH (HBr.out.trans ((Qae hC1).mono HBr.out.size));generalize wr.drew=wd2 at *;clear rp3 rc2 rc29;refine Qah (fun K hK=>?_);go_wp2_with fail;refine (Qo2 (HAl.out.below HBd2.out) (HOd.out.upto.mono (by omega)) k hk32).mono ?_;rintro e w20 ⟨v,zs,rfl,ho,hs,hcn,_,hb20⟩;have hzs:=HFr.out k zs hk32 hs hcn;obtain ⟨az,cz,rfl,hcz,_⟩:=ho.cells;obtain ⟨zl,hzl⟩:∃l,l=zs.length:=⟨_,rfl⟩
   have hzl9:zl≤100000:=by
    rw [hzl,hzs];have h1:=Qk5 (u:=fun y=>ys.contains y) (L:=KL) hk32 (nb-1);have h2:256*(nb-1)≤256*16:=Nat.mul_le_mul_left _ (by omega);omega
   rw [← hzl];have HZl:=LH hzl;have HZs:=LH hzs;have HCz:=LH hcz;have hC2:=Qan hC1 hb20;have HB20:Hid (Below w12.heap.size w12 w20):=LH (HBd2.out.trans (hb20.mono HBd2.out.size));clear ho hs hcn hb20 hzs hcz hzl;go_wp2_with fail;refine hK _ _ (fun _=>hC2) ?_;clear hK K;clear hC1 hC2;refine Qal ?_;go_wp2_with fail;refine (Qvz (some ⟨lg,0,none⟩) nb lc KL HKl.out (HRw.out.below HB20.out).cells (by omega) k hk32 vb vl vd ys HVn.out.symm (HCb.out.below HB20.out NR) (by omega)).mono ?_;rintro e w21 ⟨v,rfl,ho,_,hb21⟩;rw [← HZs.out] at ho;obtain ⟨ay,cy,rfl,hcy,_⟩:=ho.cells;rw [← HZl.out];have HCy:=LH hcy;have HCz2:=LH (HCz.out.below hb21 NR);have HB21:Hid (Below w12.heap.size w12 w21):=LH (HB20.out.trans (hb21.mono HB20.out.size));clear ho hb21 hcy HCz;go_wp2_with fail;refine (Qlo az ay zl cz cy zs HZl.out.symm HCz2.out HCy.out (by omega)).mono ?_;rintro e w22 ⟨rfl,hb22⟩;have HB22:Hid (Below w12.heap.size w12 w22):=LH (HB21.out.trans (hb22.mono HB21.out.size));clear hb22;go_wp2_with fail;exact ⟨⟨k+1,by omega,Qb2 (by omega),HB22⟩,by simp [intOf];omega⟩
end
section
open Go.ChangeShapes Go.WideShapes
section
variable {H:Type} {enc:TypeId × Value→H} {P:Program} {w:World} {base b0:Nat} {r:Reach} {spare:Nat→Bool} {held:Bool}
end
end
section
open Go.ChangeShapes Go.WideShapes Go.Deep
section
variable {H:Type} {enc:TypeId × Value→H} {P:Program} {w:World} {base:Nat} {spare:Nat→Bool} {held:Bool}
theorem Jg9 {x:Int} (h:(Lit.int .u8 x).wf=true):0≤x∧x≤255:=by
 simp [Lit.wf,IntKind.min,IntKind.max,IntKind.bits,IntKind.signed] at h
 omega
theorem Qsx {T:TypeId} {fuel:Nat} {c:Value} {z:DataW H × List MemPlace} (hT:P.underlying T=some (.int .u8)) (hz:DataW.trod enc P w base spare held fuel T [c]=some z):∃x:Int,c=.int .u8 x∧0≤x∧x≤255:=by
 obtain ⟨x,hx,_,hw⟩:=DataW.trod_int hT hz;exact ⟨x,by simpa using hx,Jg9 hw⟩
end
section
variable {H:Type} {enc:TypeId × Value→H} {w:World} {spare:Nat→Bool} {held:Bool}
theorem Qdk {fuel:Nat} {t:TypeId} {k:IntKind} {v:Value} {y:DataW H × List MemPlace} (ht:Tryz.prog.underlying t=some (.int k)) (h:DataW.trod enc Tryz.prog w 0 spare held fuel t [v]=some y):∃n,v=.int k n∧(Lit.int k n).wf=true:=by
 obtain ⟨n,h1,_,h3⟩:=DataW.trod_int ht h;exact ⟨n,by simpa using h1,h3⟩
theorem Jeb {fuel:Nat} {v:Value} {y:DataW H × List MemPlace} (h:DataW.trod enc Tryz.prog w 0 spare held fuel 22 [v]=some y) :
  ∃(a:Option Addr) (cap:Nat) (l:List Hd),v=.slice a l.length cap∧Qaq w a (Qbt l)∧l.length≤maxLen∧∀x∈l,(-9223372036854775808≤x.k∧x.k≤9223372036854775807)∧(-9223372036854775808≤x.c∧x.c≤9223372036854775807)∧(-9223372036854775808≤x.l∧x.l≤9223372036854775807):=by
 obtain ⟨a,len,cap,n,rfl,hl,hm,hc⟩:=Qsr Tryz.underlying22 Tryz.underlying107 (by kernel_rfl) (by kernel_rfl) (by decide) h;rcases hc with rfl | ⟨b,off,rfl,hc⟩
 ·exact ⟨a,cap,[],rfl,Qaq.nil _ _,Nat.zero_le _,by simp⟩
 ·have each:∀i,i<len→∃x:Hd,w.cell? ⟨b,off+i*3,none⟩=some (.int .i64 x.k)∧w.cell? ⟨b,off+i*3+1,none⟩=some (.int .i64 x.c)∧w.cell? ⟨b,off+i*3+2,none⟩=some (.int .i64 x.l)∧(-9223372036854775808≤x.k∧x.k≤9223372036854775807)∧(-9223372036854775808≤x.c∧x.c≤9223372036854775807)∧(-9223372036854775808≤x.l∧x.l≤9223372036854775807):=by
   intro i hi;obtain ⟨u0,z0,hu0,hz0⟩:=hc i hi 0 _ rfl;obtain ⟨u1,z1,hu1,hz1⟩:=hc i hi 1 _ rfl;obtain ⟨u2,z2,hu2,hz2⟩:=hc i hi 2 _ rfl;obtain ⟨n0,rfl,hw0⟩:=Qdk Tryz.underlying3 hz0;obtain ⟨n1,rfl,hw1⟩:=Qdk Tryz.underlying3 hz1;obtain ⟨n2,rfl,hw2⟩:=Qdk Tryz.underlying3 hz2;exact ⟨⟨n0,n1,n2⟩,hu0,hu1,hu2,wf_i64 hw0,wf_i64 hw1,wf_i64 hw2⟩
  obtain ⟨f,hf⟩:=choose_lt each;refine ⟨_,cap,(List.range len).map f,by simp,.inr ⟨b,off,rfl,fun i v hi=>?_⟩,by simp;omega,fun x hx=>?_⟩
  ·have hlen:i<3*len:=by
    have:=(List.getElem?_eq_some_iff.1 hi).1;rw [Qca] at this;simpa using this
   obtain ⟨q,r,hr,rfl⟩:∃q r,r<3∧i=q*3+r:=⟨i/3,i % 3,by omega,by omega⟩
   have hq:q<len:=by omega
   have hg:=Qqp ((List.range len).map f) q (by simpa using hq);have hfd:((List.range len).map f).getD q default=f q:=by simp [hq]
   rw [hfd] at hg;have hfc:=hf q hq;have h0:=hg 0 _ rfl;have h1:=hg 1 _ rfl;have h2:=hg 2 _ rfl;rcases (show r=0∨r=1∨r=2 by omega) with rfl | rfl | rfl
   ·rw [h0] at hi
    cases hi
    exact hfc.1
   ·rw [h1] at hi
    cases hi
    rw [← Nat.add_assoc];exact hfc.2.1
   ·rw [h2] at hi
    cases hi
    rw [← Nat.add_assoc];exact hfc.2.2.1
  ·rw [List.mem_map] at hx;obtain ⟨i,hi,rfl⟩:=hx;exact (hf i (by simpa using hi)).2.2.2
end
section
variable {H:Type} {enc:TypeId × Value→H} {w:World} {b0:Nat} {r:Reach} {spare:Nat→Bool} {held:Bool}
theorem Qqo {x:Int} (h:(Lit.int .u16 x).wf=true):∃n:Nat,x=(n:Int)∧n<65536:=by
 simp [Lit.wf,IntKind.min,IntKind.max,IntKind.bits,IntKind.signed] at h
 exact ⟨x.toNat,by omega,by omega⟩
theorem wf_i16o {x:Int} (h:(Lit.int .i16 x).wf=true):-32768≤x∧x≤32767:=by
 simp [Lit.wf,IntKind.min,IntKind.max,IntKind.bits,IntKind.signed] at h
 omega
theorem Qwj {P:Program} {base fuel n:Nat} {t e:TypeId} {us:List Value} {z:DataW H × List MemPlace} (hs:P.underlying t=some (.array n e)) (hone:P.cellsOf e=1) (hl:us.length=n) (h:DataW.trod enc P w base spare held fuel t us=some z) :
  ∃m:Nat,∀(i:Nat) (u:Value),us[i]?=some u→∃y,DataW.trod enc P w base spare held m e [u]=some y:=by
 obtain ⟨xs,m,_,_,_,hxl,hel⟩:=DataW.trod_array hs h;refine ⟨m,fun i u hi=>?_⟩;have hlt:i<us.length:=(List.getElem?_eq_some_iff.1 hi).1;have h1:=hel i (by omega);have e1:((us.drop (i*P.cellsOf e)).take (P.cellsOf e))=[u]:=by
  rw [hone,Nat.mul_one,List.drop_eq_getElem_cons hlt,List.take_succ_cons,List.take_zero,(List.getElem?_eq_some_iff.1 hi).2]
 rw [e1] at h1;exact ⟨xs[i]'(by omega),by rw [h1];exact GE (by omega)⟩
theorem Quy {fuel:Nat} {us:List Value} {z:DataW H × List MemPlace} (hlen:us.length=4) (h:DataW.trod enc Tryz.prog w 0 spare held fuel 100 us=some z):∃t:ThV,us=t.cs∧t.ok w:=by
 obtain ⟨ys,n',_,_,_,hyl,hf⟩:=DataW.trod_struct Tryz.underlying100 h;have hl4:ys.length=4:=hyl
 match us,hlen with
 | [u0,u1,u2,u3],_ =>
  have cu:Tryz.prog.cellsOf 98=1:=by kernel_rfl
  have cl:Tryz.prog.cellsOf 47=1:=by kernel_rfl
  have h0:=hf 0 _ rfl;have h1:=hf 1 _ rfl;have h2:=hf 2 _ rfl;have h3:=hf 3 _ rfl;rw [GE (by omega)] at h0 h1 h2 h3;have h0:DataW.trod enc Tryz.prog w 0 spare held n' 98 (List.take (Tryz.prog.cellsOf 98) [u0,u1,u2,u3])=some _:=h0;have h1:DataW.trod enc Tryz.prog w 0 spare held n' 98 (List.take (Tryz.prog.cellsOf 98) [u1,u2,u3])=some _:=h1;have h2:DataW.trod enc Tryz.prog w 0 spare held n' 98 (List.take (Tryz.prog.cellsOf 98) [u2,u3])=some _:=h2;have h3:DataW.trod enc Tryz.prog w 0 spare held n' 47 (List.take (Tryz.prog.cellsOf 47) [u3])=some _:=h3;rw [cu] at h0 h1 h2;rw [cl] at h3;obtain ⟨x0,rfl,k0⟩:=Qdk (v:=u0) Tryz.underlying98 (by simpa using h0);obtain ⟨x1,rfl,k1⟩:=Qdk (v:=u1) Tryz.underlying98 (by simpa using h1);obtain ⟨x2,rfl,k2⟩:=Qdk (v:=u2) Tryz.underlying98 (by simpa using h2);obtain ⟨a,n,c,ns,rfl,e2,e3,_,e5,e6⟩:=Qsz (k:=.i64) (v:=u3) Tryz.underlying47 Tryz.underlying3 (by kernel_rfl) (by simpa using h3);obtain ⟨m0,rfl,b0⟩:=Qqo k0;obtain ⟨m1,rfl,b1⟩:=Qqo k1;obtain ⟨m2,rfl,b2⟩:=Qqo k2;subst e2;exact ⟨⟨m0,m1,m2,a,c,ns⟩,rfl,b0,b1,b2,e3,Nat.le_trans e5 e6⟩
theorem Qvv {fuel:Nat} {v:Value} {y:DataW H × List MemPlace} (h:DataW.trod enc Tryz.prog w 0 spare held fuel 23 [v]=some y) :
  ∃(a:Option Addr) (n c:Nat) (T:List ThV),v=.slice a n c∧T.length=n∧Qaq w a (Qrh ThV.cs T)∧(∀t∈T,t.ok w)∧n≤maxLen:=by
 obtain ⟨a,len,cap,m,rfl,hl,hm,hc⟩:=Qxo (size:=4) Tryz.underlying23 (by kernel_rfl) (by decide) h;rcases hc with rfl | ⟨b,off,rfl,hc⟩
 ·exact ⟨a,0,cap,[],rfl,rfl,Qaq.nil _ _,by simp,Nat.zero_le _⟩
 ·obtain ⟨T,t1,t2,t3⟩:=Jf4 (f:=ThV.cs) (n:=4) ThV.len (by decide) (default:ThV) (w:=w) (b:=b) (off:=off) (len:=len) (ok:=fun t=>t.ok w) (fun i hi=>by
   obtain ⟨us,z,h1,h2,h3⟩:=hc i hi;obtain ⟨t,rfl,ht⟩:=Quy h1 h3
   exact ⟨t,h2,ht⟩)
  exact ⟨_,len,cap,T,rfl,t1,t2,t3,Nat.le_trans hl hm⟩
theorem img_read {v:Value} {d:DataW H} {p:List MemPlace} (hv:Value.okWide Tryz.prog w r b0 28 v) (h:DataW.Trod enc Tryz.prog w 0 spare held 28 v d p):∃I:Img,v=.agg I.cs∧I.In w:=by
 simp only [Value.okWide,Tryz.underlying28] at hv
 obtain ⟨cs,rfl,hsz,_⟩:=hv;obtain ⟨fuel,hf0⟩:=h;have h13:cs.size=13:=hsz.trans (by kernel_rfl);obtain ⟨cs⟩:=cs;obtain ⟨ys,n',_,_,_,hyl,hf⟩:=DataW.trod_struct Tryz.underlying28 hf0;have hl5:ys.length=5:=hyl
 match cs,h13 with
 | [u0,u1,u2,u3,u4,u5,u6,u7,u8,u9,u10,u11,u12],_ =>
  have k0:Tryz.prog.cellsOf 22=1:=by kernel_rfl
  have k1:Tryz.prog.cellsOf 23=1:=by kernel_rfl
  have k2:Tryz.prog.cellsOf 24=8:=by kernel_rfl
  have k3:Tryz.prog.cellsOf 25=2:=by kernel_rfl
  have k4:Tryz.prog.cellsOf 26=1:=by kernel_rfl
  have h0:=hf 0 _ rfl;have h1:=hf 1 _ rfl;have h2:=hf 2 _ rfl;have h3:=hf 3 _ rfl;have h4:=hf 4 _ rfl;rw [GE (by omega)] at h0 h1 h2 h3 h4;have h0:DataW.trod enc Tryz.prog w 0 spare held n' 22 (List.take (Tryz.prog.cellsOf 22) [u0,u1,u2,u3,u4,u5,u6,u7,u8,u9,u10,u11,u12])=some _:=h0;have h1:DataW.trod enc Tryz.prog w 0 spare held n' 23 (List.take (Tryz.prog.cellsOf 23) [u1,u2,u3,u4,u5,u6,u7,u8,u9,u10,u11,u12])=some _:=h1;have h2:DataW.trod enc Tryz.prog w 0 spare held n' 24 (List.take (Tryz.prog.cellsOf 24) [u2,u3,u4,u5,u6,u7,u8,u9,u10,u11,u12])=some _:=h2;have h3:DataW.trod enc Tryz.prog w 0 spare held n' 25 (List.take (Tryz.prog.cellsOf 25) [u10,u11,u12])=some _:=h3;have h4:DataW.trod enc Tryz.prog w 0 spare held n' 26 (List.take (Tryz.prog.cellsOf 26) [u12])=some _:=h4;rw [k0] at h0;rw [k1] at h1;rw [k2] at h2;rw [k3] at h3;rw [k4] at h4;obtain ⟨ha,hc,L,rfl,L2,L3,_⟩:=Jeb (v:=u0) (by simpa using h0);obtain ⟨ta,nt,tc,T,rfl,T1,T2,T3,T4⟩:=Qvv (v:=u1) (by simpa using h1);obtain ⟨m2,r2⟩:=Qwj Tryz.underlying24 (by kernel_rfl) rfl h2;obtain ⟨m3,r3⟩:=Qwj Tryz.underlying25 (by kernel_rfl) rfl h3;obtain ⟨ua,nu,uc,U,rfl,U1,U2,U3,U4,U5⟩:=Qzn (k:=.u16) (B:=65536) (v:=u12) (fun z hz=>by obtain ⟨n,rfl,hn⟩:=Qqo hz;omega) Tryz.underlying26 Tryz.underlying98 (by kernel_rfl) (by simpa using h4);obtain ⟨_,z0⟩:=r2 0 _ rfl;obtain ⟨_,z1⟩:=r2 1 _ rfl;obtain ⟨_,z2⟩:=r2 2 _ rfl;obtain ⟨_,z3⟩:=r2 3 _ rfl;obtain ⟨_,z4⟩:=r2 4 _ rfl;obtain ⟨_,z5⟩:=r2 5 _ rfl;obtain ⟨_,z6⟩:=r2 6 _ rfl;obtain ⟨_,z7⟩:=r2 7 _ rfl
  obtain ⟨_,y0⟩:=r3 0 _ rfl;obtain ⟨_,y1⟩:=r3 1 _ rfl;obtain ⟨x0,rfl,_⟩:=Qdk Tryz.underlying3 z0;obtain ⟨x1,rfl,_⟩:=Qdk Tryz.underlying3 z1;obtain ⟨x2,rfl,_⟩:=Qdk Tryz.underlying3 z2;obtain ⟨x3,rfl,_⟩:=Qdk Tryz.underlying3 z3;obtain ⟨x4,rfl,_⟩:=Qdk Tryz.underlying3 z4;obtain ⟨x5,rfl,_⟩:=Qdk Tryz.underlying3 z5;obtain ⟨x6,rfl,_⟩:=Qdk Tryz.underlying3 z6;obtain ⟨x7,rfl,_⟩:=Qdk Tryz.underlying3 z7;obtain ⟨b0,rfl,hb0⟩:=Qsx Tryz.underlying5 y0;obtain ⟨b1,rfl,hb1⟩:=Qsx Tryz.underlying5 y1;obtain ⟨e0,rfl⟩:=Int.eq_ofNat_of_zero_le hb0.1;obtain ⟨e1,rfl⟩:=Int.eq_ofNat_of_zero_le hb1.1;have q0:e0<256:=by omega
  have q1:e1<256:=by omega
  exact ⟨⟨ha,L.length,hc,L,ta,nt,tc,T,x0,x1,x2,x3,x4,x5,x6,x7,e0,e1,ua,nu,uc,U⟩,rfl,rfl,T1,U1,L2,T2,T3,U2,U3,⟨q0,q1⟩,L3,T4,Nat.le_trans U4 U5⟩
end
end
end Go.Proofs.YtpohaahihdhleaaGreat
