/- Parts of the proof of one statement of the seat. -/
import Derived.Test.YtpohaahihdhleaaGreatRO1
import Derived.Laws.CopyOwn
import Derived.Lib.BufferMore
import Derived.OwnWalk
import Derived.Laws.BitsAllLaws
set_option linter.unusedVariables false
set_option maxHeartbeats 16000000
set_option maxRecDepth 100000
open Go.RowKit
namespace Go.Proofs.YtpohaahihdhleaaGreat
section
theorem Qkx {P:Program} {w:World} {ops:Array Oper} {rest:List Oper} {o:Oper} {a:Act} {Q:Exit→Act→World→Prop} {x lo hi:Operand} {t e:TypeId} {z:Value} {size bytes:Nat} (E:Qgg P t e z size bytes) {ad:Option Addr} {n cap:Nat} {k k':IntKind} {L H:Int} (l h:Nat)
  (hL:L=(l:Int)) (hH:H=(h:Int)) (hl:l≤h) (hh:h≤n) (hn:n≤cap)
  (hgd:o.guard=none) (ho:o.op=.slice t x (some lo) (some hi) none) (hx:a.eval x=.slice ad n cap) (hlo:a.eval lo=.int k L) (hhi:a.eval hi=.int k' H)
  (hK:∀ad',ad'=(if cap=l then ad else ad.map (·.add (l*size)))→wpList P ops Q rest (a.put o.dst (.slice ad' (h-l) (cap-l))) w) :
  wpList P ops Q (o :: rest) a w:=by
 refine wpList_plain hgd fun K hK'=>?_
 subst hL;subst hH;have hr:=Qfd (w:=w) E ad n cap l h (some (.int k l)) (some (.int k' h)) (by
  have h1:(0:Int)≤(l:Int)∧(l:Int)≤(h:Int):=by omega
  have h2:(0:Int)≤(h:Int)∧(h:Int)≤(cap:Int):=by omega
  simp [Instr.sliceBounds,Instr.sliceBound,asIntOf,hl,Nat.le_trans hh hn])
 unfold Oper.wp;simp only [execOp,ho,hx,hlo,hhi,Option.map_some]
 simp [hr,Result.andThen]
 exact hK' _ _ (hK _ rfl)
theorem Qfn {P:Program} {w:World} {ops:Array Oper} {rest:List Oper} {o:Oper} {a:Act} {Q:Exit→Act→World→Prop} (hgd:o.guard=none) {d s:Operand} {dT sT:TypeId}
  (ho:o.op=.call { callee:=.builtin .copy,args:=#[d,s],argTypes:=#[dT,sT] }) {elem:TypeId} (hu:P.underlying dT=some (.slice elem)) (hsz:(P.info? elem).map (·.size)=some 1)
  {g off dLen dCap g2 off2 sLen sCap:Nat} (hd:a.eval d=.slice (some ⟨g,off,none⟩) dLen dCap) (hs:a.eval s=.slice (some ⟨g2,off2,none⟩) sLen sCap)
  {t:TypeId} {vs:List Value} (hr:Qa6 w g t vs) (cs:List Value) (hn:cs.length=Nat.min sLen dLen) (hsrc:∀j v,cs[j]?=some v→w.cell? ⟨g2,off2+j,none⟩=some v)
  (hfit:off+cs.length≤vs.length) (h1:∀v∈cs,v.oneCell'=true)
  (h:∀w',Qa6 w' g t (splice vs off cs)→Qam [g] w w'→wpList P ops Q rest (a.put o.dst (goInt cs.length)) w'):wpList P ops Q (o :: rest) a w:=by
 obtain ⟨xs,hg,more,hx⟩:=hr;have hsz2:xs.size=vs.length+more.length:=by rw [← Array.length_toList,hx,List.length_append]
 refine wpList_copy_own hgd d s dT sT ho elem hu hsz g off dLen dCap ⟨g2,off2,none⟩ sLen sCap hd hs xs t hg cs hn (fun j v hj=>?_) (by omega) h1 ?_
 ·have e:(⟨g2,off2,none⟩:Addr).add j=⟨g2,off2+j,none⟩:=by unfold Addr.add;split <;> simp_all
  rw [e];exact hsrc j v hj
 ·refine h _ ⟨_,setRow_heap w g xs _ t _ hg,more,?_⟩ ⟨rfl,rfl,rfl,by simp [World.setRow],fun k _ hk=>setRow_other w g k _ (fun e=>hk (by simp [e]))⟩;rw [hx,splice];simp only [List.append_assoc]
  rw [List.take_append_of_le_length (by omega),List.drop_append_of_le_length (by omega)]
theorem Je0 (d:Value) (g n cap j:Nat) (h1:8*j+8≤n) (h2:n≤cap) (h3:n≤1000000) (w:World) :
  Calls Tryz.prog 72 #[d,.slice (some ⟨g,0,none⟩) n cap,.int .i64 (j:Int)] w fun e w'=>e=.returned (.slice (some ⟨g,8*j,none⟩) 8 (cap-8*j))∧w=w':=by
 have HA:Hid ((⟨g,0,none⟩:Addr).add (8*j*1)=⟨g,8*j,none⟩):=LH (by unfold Addr.add;split <;> simp_all);have hne:¬cap=8*j:=by omega
 go_enter Tryz.func72,Tryz.ntmps72;go_wp2_with (refine Qkx Qyy (8*j) (8*j+8) (by omega) (by omega) (by omega) h1 h2 rfl rfl rfl rfl rfl ?_;intro ad' had;rw [if_neg hne,Option.map_some,HA.out] at had;subst had)
 go_ret
 exact ⟨rfl,rfl⟩
theorem Qlc {w:World} (x:Qbi w) (d:Value) (g n cap j:Nat) (h1:8*j+8≤n) (h2:n≤cap) (h3:n≤1000000) :
  Calls Tryz.prog 72 #[d,.slice (some ⟨g,0,none⟩) n cap,.int .i64 (j:Int)] x.val fun e w'=>e=.returned (.slice (some ⟨g,8*j,none⟩) 8 (cap-8*j))∧Below x.val.heap.size x.val w' :=
 (Je0 d g n cap j h1 h2 h3 _).mono fun _ _ ⟨h1,h2⟩=>⟨h1,by rw [← h2];exact Below.refl _ _⟩
def seg (l:List Nat) (j:Nat):List Nat:=(l.drop (8*j)).take 8
def Dev.hold (S:Dev) (j:Nat):Dev:=if S.dirty.getD j false then { S with pending:=S.pending.set j true,flushed:=splice S.flushed (8*j) (seg S.cache j) } else S
def Dev.flush (S:Dev) (j:Int):Dev:=if j<0∨(S.dirty.length:Int)≤j then S else if S.stop then S.step else S.step.hold j.toNat
def Dev.flushE (S:Dev) (j:Int):Int:=if j<0∨(S.dirty.length:Int)≤j then 2 else if S.stop then 3 else 0
theorem Qbv (l:List Nat) (j:Nat) (h:8*j+8≤l.length):(seg l j).length=8:=by simp [seg];omega
theorem Jbh (l:List Nat) (j k:Nat) (hk:k<8):(seg l j)[k]?=l[8*j+k]?:=by
 unfold seg;rw [List.getElem?_take_of_lt hk,List.getElem?_drop]
theorem Qmu {w:World} {g e:Nat} {l:List Nat} (h:Qa6 w g e (l.map Qad)) (j:Nat):∀k v,((seg l j).map Qad)[k]?=some v→w.cell? ⟨g,8*j+k,none⟩=some v:=by
 intro k v hk;refine h.cell ?_;rw [List.getElem?_map] at hk ⊢
 by_cases h8:k<8
 ·rw [Jbh l j k h8] at hk;exact hk
 ·have:(seg l j)[k]?=none:=List.getElem?_eq_none (by simp [seg];omega);rw [this] at hk
  cases hk
theorem Qfj (l s:List Nat) (o:Nat):splice (l.map Qad) o (s.map Qad)=(splice l o s).map Qad:=by simp [splice]
theorem Qfp {l s:List Nat} {B:Nat} (o:Nat) (hl:∀z∈l,z<B) (hs:∀z∈s,z<B):∀z∈splice l o s,z<B:=by
 intro z hz;simp only [splice,List.mem_append] at hz
 rcases hz with h | h | h
 ·exact hl z (List.mem_of_mem_take h)
 ·exact hs z h
 ·exact hl z (List.mem_of_mem_drop h)
theorem Qpg {l:List Nat} {B:Nat} (j:Nat) (hl:∀z∈l,z<B):∀z∈seg l j,z<B:=fun z hz=>hl z (List.mem_of_mem_drop (List.mem_of_mem_take hz))
theorem Qa7.setPending {w:World} {F:Qb0} {S:Dev} (h:Qa7 w F S) (j:Nat) (hj:j<S.pending.length) (b:Bool):Qa7 (w.setCell ⟨F.p,j,none⟩ (.bool b)) F { S with pending:=S.pending.set j b }:=by
 have hn:=h.nodup;simp only [Qb0.list,List.nodup_cons,List.mem_cons,List.not_mem_nil,or_false,not_or,List.nodup_nil,and_true,not_false_eq_true] at hn
 obtain ⟨⟨a1,a2,a3,a4,a5⟩,⟨b1,b2,b3,b4⟩,⟨d1,d2,d3⟩,⟨e1,e2⟩,f1⟩:=hn;have k:∀g,g≠F.p→(w.setCell ⟨F.p,j,none⟩ (.bool b)).heap[g]?=w.heap[g]?:=fun g h1=>Below.heap_setCell _ _ _ _ h1
 refine { h with head:=(k _ a5).trans h.head,lasting:=h.lasting.keep (k _ b4),cache:=h.cache.keep (k _ d3),flushed:=h.flushed.keep (k _ e2),dirty:=h.dirty.keep (k _ f1),pending:=?_,lenP:=?_ }
 ·show Qa6 _ _ _ ((S.pending.set j b).map Value.bool);rw [Qdw];exact h.pending.set j (by simpa using hj) _
 ·simp [h.lenP]
theorem Qa7.setDirty {w:World} {F:Qb0} {S:Dev} (h:Qa7 w F S) (j:Nat) (hj:j<S.dirty.length) (b:Bool):Qa7 (w.setCell ⟨F.t,j,none⟩ (.bool b)) F { S with dirty:=S.dirty.set j b }:=by
 have hn:=h.nodup;simp only [Qb0.list,List.nodup_cons,List.mem_cons,List.not_mem_nil,or_false,not_or,List.nodup_nil,and_true,not_false_eq_true] at hn
 obtain ⟨⟨a1,a2,a3,a4,a5⟩,⟨b1,b2,b3,b4⟩,⟨d1,d2,d3⟩,⟨e1,e2⟩,f1⟩:=hn;have k:∀g,g≠F.t→(w.setCell ⟨F.t,j,none⟩ (.bool b)).heap[g]?=w.heap[g]?:=fun g h1=>Below.heap_setCell _ _ _ _ h1
 refine { h with head:=?_,lasting:=h.lasting.keep (k _ b3),cache:=h.cache.keep (k _ d2),flushed:=h.flushed.keep (k _ e1),dirty:=?_,pending:=h.pending.keep (k _ (Ne.symm f1)),lenP:=?_,lenD:=?_ }
 ·rw [k _ a4,h.head];simp [Jcx]
 ·show Qa6 _ _ _ ((S.dirty.set j b).map Value.bool);rw [Qdw];exact h.dirty.set j (by simpa using hj) _
 ·simp [h.lenP]
 ·simp [h.lenD]
theorem Qa7.setFlushed {w w':World} {F:Qb0} {S:Dev} (h:Qa7 w F S) {l:List Nat} (hr:Qa6 w' F.f 40 (l.map Qad)) (ht:Qam [F.f] w w') (hl:l.length=S.flushed.length) (hu:∀z∈l,z<18446744073709551616):Qa7 w' F { S with flushed:=l }:=by
 have hn:=h.nodup;have hm:=h.mem;simp only [Qb0.list,List.nodup_cons,List.mem_cons,List.not_mem_nil,or_false,not_or,List.nodup_nil,and_true,not_false_eq_true,forall_eq_or_imp,forall_eq] at hn hm
 obtain ⟨⟨a1,a2,a3,a4,a5⟩,⟨b1,b2,b3,b4⟩,⟨d1,d2,d3⟩,⟨e1,e2⟩,f1⟩:=hn;obtain ⟨m1,m2,m3,m4,m5,m6⟩:=hm;have k:∀g,g<w.heap.size→g≠F.f→w'.heap[g]?=w.heap[g]?:=fun g hg h1=>ht.block g hg (by simpa using h1)
 exact { h with head:=(k _ m1 a3).trans h.head,lasting:=h.lasting.keep (k _ m2 b2),cache:=h.cache.keep (k _ m3 d1),flushed:=hr,dirty:=h.dirty.keep (k _ m5 (Ne.symm e1)),pending:=h.pending.keep (k _ m6 (Ne.symm e2)),lenF:=hl.trans h.lenF,u64F:=hu }
theorem Qa7.setLasting {w w':World} {F:Qb0} {S:Dev} (h:Qa7 w F S) {l:List Nat} (hr:Qa6 w' F.l 40 (l.map Qad)) (ht:Qam [F.l] w w') (hl:l.length=S.lasting.length) (hu:∀z∈l,z<18446744073709551616):Qa7 w' F { S with lasting:=l }:=by
 have hn:=h.nodup;have hm:=h.mem;simp only [Qb0.list,List.nodup_cons,List.mem_cons,List.not_mem_nil,or_false,not_or,List.nodup_nil,and_true,not_false_eq_true,forall_eq_or_imp,forall_eq] at hn hm
 obtain ⟨⟨a1,a2,a3,a4,a5⟩,⟨b1,b2,b3,b4⟩,⟨d1,d2,d3⟩,⟨e1,e2⟩,f1⟩:=hn;obtain ⟨m1,m2,m3,m4,m5,m6⟩:=hm;have k:∀g,g<w.heap.size→g≠F.l→w'.heap[g]?=w.heap[g]?:=fun g hg h1=>ht.block g hg (by simpa using h1)
 exact { h with head:=(k _ m1 a1).trans h.head,lasting:=hr,cache:=h.cache.keep (k _ m3 (Ne.symm b1)),flushed:=h.flushed.keep (k _ m4 (Ne.symm b2)),dirty:=h.dirty.keep (k _ m5 (Ne.symm b3)),pending:=h.pending.keep (k _ m6 (Ne.symm b4)),lenL:=hl.trans h.lenL,u64L:=hu }
theorem Qz4 {w:World} {F:Qb0} {S:Dev} (h:Qa7 w F S) {N:Nat} (hN:N<1000000000000) (ho:S.ok N) (i:Int) :
  Calls Tryz.prog 153 #[Qei F,.int .i64 i] w fun e w'=>e=.returned (.int .i64 (S.flushE i))∧Qa7 w' F (S.flush i)∧Qam F.list w w':=by
 have hh:=h.head;have c1:w.cell? ⟨F.d,3,none⟩=some (.slice (some ⟨F.t,0,none⟩) S.dirty.length F.ct):=cell_of_row _ _ 3 _ _ _ hh;have hsm:=h.small;have hl:=h.lenD
 by_cases h0:i<0
 ·have HV:Hid (S.flushE i=2∧S.flush i=S):=LH (by unfold Dev.flushE Dev.flush;rw [if_pos (.inl h0),if_pos (.inl h0)];exact ⟨rfl,rfl⟩);have HD:=LH h;clear hh h;go_enter Tryz.func153,Tryz.ntmps153;go_wp2_with fail
  go_ret
  exact ⟨Qau HV.out.1.symm,by rw [HV.out.2];exact HD.out,Qam.refl _ _⟩
 obtain ⟨j,rfl⟩:=Int.eq_ofNat_of_zero_le (show 0≤i by omega)
 by_cases h1:j<S.dirty.length
 ·have hcond:¬((j:Int)<0∨(S.dirty.length:Int)≤(j:Int)):=by omega
  have HE:Hid (S.flushE (j:Int)=if S.stop then 3 else 0):=LH (by unfold Dev.flushE;rw [if_neg hcond]);have HSt:Hid (S.flush (j:Int)=if S.stop then S.step else S.step.hold j):=LH (by unfold Dev.flush;rw [if_neg hcond];rfl);have HR:=LH S.step_rest;have HD:=LH h;clear hcond hh h;go_enter Tryz.func153,Tryz.ntmps153;go_wp2_with fail;refine (Qrc HD.out hN ho).mono ?_;rintro e w1 ⟨rfl,hd1,ht1⟩;have ht1':Qam F.list w w1:=⟨ht1.os,ht1.tape,ht1.output,ht1.size,fun k hk hn=>ht1.block k hk (fun hm=>hn (by simp at hm;rw [hm];simp [Qb0.list]))⟩
  clear HD ht1 c1
  cases hst:S.stop
  ·rw [hst] at HE HSt;have e1:S.step.cache.length=S.cache.length:=by rw [HR.out.2.1]
   have e2:S.step.dirty.length=S.dirty.length:=by rw [HR.out.2.2.2.1]
   rw [← e2] at hl h1;rw [← e1] at hl hsm;clear e1 e2;generalize S.step=S1 at *;have c3:w1.cell? ⟨F.d,3,none⟩=some (.slice (some ⟨F.t,0,none⟩) S1.dirty.length F.ct):=cell_of_row _ _ 3 _ _ _ hd1.head;have d3:w1.cell? ⟨F.t,j,none⟩=some (.bool (S1.dirty.getD j false)):=hd1.dirty.cell (by simp [h1])
   cases hdj:S1.dirty.getD j false
   ·rw [hdj] at d3;have HH:Hid (S1.hold j=S1):=LH (by unfold Dev.hold;rw [hdj];rfl);have HD1:=LH hd1;clear hd1 hdj HR;go_wp2_with fail
    go_ret
    exact ⟨Qau HE.out.symm,by rw [HSt.out,if_neg (by simp),HH.out];exact HD1.out,ht1'⟩
   ·rw [hdj] at d3;have HH:Hid (S1.hold j = { S1 with pending:=S1.pending.set j true,flushed:=splice S1.flushed (8*j) (seg S1.cache j) }):=LH (by unfold Dev.hold;rw [hdj];rfl);have c4:w1.cell? ⟨F.d,4,none⟩=some (.slice (some ⟨F.p,0,none⟩) S1.dirty.length F.cp):=cell_of_row _ _ 4 _ _ _ hd1.head;have hp:=hd1.lenP;obtain ⟨u,hu⟩:∃u,(S1.pending.map Value.bool)[j]?=some u:=⟨_,GE (by simp;omega)⟩
    have d4:w1.cell? ⟨F.p,j,none⟩=some u:=hd1.pending.cell hu;have d5:=hd1.pending.frozen j;have HD1:=LH hd1;have hd2:=hd1.setPending j (by omega) true;have h8:8*j+8≤S1.cache.length:=by omega
    clear hl;have ht2:Qam F.list w (w1.setCell ⟨F.p,j,none⟩ (.bool true)):=ht1'.trans (Qam.setCell _ (by simp [Qb0.list]) _);clear hdj HR hu hp HD1 ht1' hd1;go_wp2_with fail;generalize w1.setCell ⟨F.p,j,none⟩ (.bool true)=w2 at *;clear d4 d5 c3 c4 d3 hst;have g1:w2.cell? ⟨F.d,1,none⟩=some (.slice (some ⟨F.c,0,none⟩) S1.cache.length F.cc):=cell_of_row _ _ 1 _ _ _ hd2.head;have g2:w2.cell? ⟨F.d,2,none⟩=some (.slice (some ⟨F.f,0,none⟩) S1.cache.length F.cf):=cell_of_row _ _ 2 _ _ _ hd2.head;have f1:=fun x=>Qab g1 x
    have f2:=fun x=>Qab g2 x
    have hcf:S1.cache.length≤F.cf:=hd2.capF;have hcc:S1.cache.length≤F.cc:=hd2.capC;have HD2:=LH hd2;clear hd2;refine Qb1 14 ?hn ?hm ?hB ?_
    case hn=>exact Nat.le_of_ble_eq_true rfl
    case hm=>kernel_rfl
    case hB=>kernel_rfl
    simp only [List.take_succ_cons,List.take_zero,List.drop_succ_cons,List.drop_zero]
    repeat (quiet_step ((rename_i x;exact Qb7 (Qlc x _ _ _ _ _ h8 (by assumption) hsm))))
    refine wpQuiet_nil ?_;rintro w5 ⟨x,hx5⟩;have hd5:=HD2.out.below x.below;have ht5:=ht2.trans (Qam.ofBelow x.below);rw [← hx5] at hd5 ht5;clear hx5 x HD2 ht2 f1 f2 g1 g2;have hsl:=Qbv S1.cache j h8;have HC:=LH (Qmu hd5.cache j);have HF:=LH hd5.flushed;have hlf:8*j+8≤S1.flushed.length:=by have:=hd5.lenF;dsimp only at this;omega
    refine Qfn rfl rfl Tryz.underlying31 (by kernel_rfl) rfl rfl HF.out ((seg S1.cache j).map Qad) (by simp [hsl]) HC.out (by simp [hsl];omega) (Qd9 _) ?_;intro w6 hr6 ht6;rw [Qfj] at hr6;have hd6:=hd5.setFlushed hr6 ht6 (by rw [length_splice _ _ _ (by rw [hsl];omega)]) (Qfp _ hd5.u64F (Qpg j hd5.u64C));have ht7:Qam F.list w w6:=ht5.trans ⟨ht6.os,ht6.tape,ht6.output,ht6.size,fun k hk hn=>ht6.block k hk (fun hm=>hn (by simp at hm;rw [hm];simp [Qb0.list]))⟩;have HZ:Hid (Qa7 w6 F (S.flush (j:Int))):=LH (by rw [HSt.out,if_neg (by simp),HH.out];exact hd6);clear hd5 hd6 hr6 ht6 HF HC;go_wp2_with fail
    go_ret
    exact ⟨Qau HE.out.symm,HZ.out,ht7⟩
  ·rw [hst] at HE HSt;clear hst HR;go_wp2_with fail
   go_ret
   exact ⟨Qau HE.out.symm,by rw [HSt.out];assumption,ht1'⟩
 ·have HV:Hid (S.flushE (j:Int)=2∧S.flush (j:Int)=S):=LH (by unfold Dev.flushE Dev.flush;rw [if_pos (.inr (by omega)),if_pos (.inr (by omega))];exact ⟨rfl,rfl⟩);have HD:=LH h;clear hh h;go_enter Tryz.func153,Tryz.ntmps153;go_wp2_with fail
  go_ret
  exact ⟨Qau HV.out.1.symm,by rw [HV.out.2];exact HD.out,Qam.refl _ _⟩
theorem Quo (a b:Option Addr) {n m:Nat} (ca cb:Nat) (xs ys:List Nat) (hn:xs.length=n) (hm:ys.length=m) (w:World) (h:Qaq w a (xs.map Qad)) (h':Qaq w b (ys.map Qad)) (hl:xs.length≤1000000000) (hl':ys.length≤1000000000) :
  Calls Tryz.prog 176 #[.slice a n ca,.slice b m cb] w fun e w'=>e=.returned (.bool (decide (xs=ys)))∧Below w.heap.size w w':=by
 subst hn;subst hm
 by_cases hlen:xs.length=ys.length
 ·have HL:=LH hlen;have hne:((xs.length:Int) != (ys.length:Int))=false:=by simp [hlen]
  rw [← hlen] at hl' ⊢;rw [← hlen] at hne;clear hlen;go_enter Tryz.func176,Tryz.ntmps176
  go_wp2
  go_loopw [13] (fun i wr=>∃k:Nat,k≤xs.length∧i=.int .i64 k∧Hid (∀j,j<k→xs.getD j 0=ys.getD j 0)∧Below w.heap.size w wr) (fun i _=>xs.length-(intOf i).toNat)
  case atStart=>exact ⟨0,by omega,rfl,LH (by intro j hj;omega),Below.refl _ _⟩
  case round =>
   obtain ⟨k,hk,rfl,hs,hb⟩:=hrel
   by_cases hlt:k<xs.length
   ·obtain ⟨b1,off1,rfl,hbs1,hc1⟩:=h.atMap 0 hlt;obtain ⟨b2,off2,rfl,hbs2,hc2⟩:=h'.atMap 0 (by rw [← HL.out];exact hlt);have hcell1:wr.cell? ⟨b1,off1+k,none⟩=some (.int .u64 (xs.getD k 0:Nat)):=by rw [hb.cell (p:=⟨b1,off1+k,none⟩) hbs1];exact hc1 k hlt
    have hcell2:wr.cell? ⟨b2,off2+k,none⟩=some (.int .u64 (ys.getD k 0:Nat)):=by rw [hb.cell (p:=⟨b2,off2+k,none⟩) hbs2];exact hc2 k (by rw [← HL.out];exact hlt)
    have hlt':(k:Int)<(xs.length:Int):=by omega
    have hk0:(0:Int)≤(k:Int):=by omega
    clear hc1 hc2;obtain ⟨x,hx⟩:∃x,x=xs.getD k 0:=⟨_,rfl⟩
    obtain ⟨y,hy⟩:∃y,y=ys.getD k 0:=⟨_,rfl⟩
    rw [← hx] at hcell1;rw [← hy] at hcell2;have HX:=LH hx;have HY:=LH hy;clear hx hy
    by_cases hxy:x=y
    ·have hxy1:((x:Int) != (y:Int))=false:=by simp [hxy]
     have HXY:=LH hxy;clear hxy
     go_wp2
     go_quiet (fail)
     go_wp2
     refine ⟨⟨k+1,by omega,Qb2 (by omega),LH ?_,below_drewN hb _⟩,by simp [intOf];omega⟩;intro j hj
     by_cases e:j=k
     ·subst e;rw [← HX.out,← HY.out];exact HXY.out
     ·exact hs.out j (by omega)
    ·have hxy1:((x:Int) != (y:Int))=true:=by simp;omega
     have HXY:=LH hxy;clear hxy
     go_wp2
     go_quiet (fail)
     go_wp2
     go_ret
     exact ⟨Qd0 (by symm;rw [decide_eq_false_iff_not];intro e;rw [e] at HX;exact HXY.out (HX.out.trans HY.out.symm)),below_drewN hb _⟩
   ·go_wp2
    go_ret
    exact ⟨Qd0 (by symm;rw [decide_eq_true_iff];exact Jdc HL.out (fun j hj=>hs.out j (by omega))),hb⟩
 ·have hne:((xs.length:Int) != (ys.length:Int))=true:=by simp;omega
  have HL:=LH hlen;clear hlen;go_enter Tryz.func176,Tryz.ntmps176
  go_wp2
  go_ret
  exact ⟨Qd0 (by symm;rw [decide_eq_false_iff_not];intro e;exact HL.out (by rw [e])),Below.refl _ _⟩
theorem Qs6 (b off:Nat) {n:Nat} (cap:Nat) (ws:List Nat) (hn:ws.length=n) (w:World) (h:∀i v,(ws.map Qad)[i]?=some v→w.cell? ⟨b,off+i,none⟩=some v) (hl:ws.length≤1000000) :
  Calls Tryz.prog 71 #[.slice (some ⟨b,off,none⟩) n cap] w fun e w'=>∃v,e=.returned v∧w'.ownsRow w.heap.size 40 1 v n (ws.map Qad)∧Below w.heap.size w w'∧v≠.slice none 0 0:=by
 subst hn;have H:=LH h;clear h;go_enter Tryz.func71,Tryz.ntmps71;have HO:Hid ((w.alloc (.cells #[] 40)).ownsRow w.heap.size 40 1 (.slice (some ⟨w.heap.size,0,none⟩) 0 0) 0 []) :=
  LH ⟨rfl,.inr ⟨w.heap.size,0,#[],rfl,Nat.le_refl _,heap_alloc_new w _,Nat.le_refl _,Nat.zero_le _,rfl,rfl⟩⟩
 have HB:=LH (Qaf w (.cells #[] 40));have HC:Hid (∀j u,(ws.map Qad)[j]?=some u→(w.alloc (.cells #[] 40)).cell? ((⟨b,off,none⟩:Addr).add j)=some u):=by
  apply LH
  intro j u hj;have e:(⟨b,off,none⟩:Addr).add j=⟨b,off+j,none⟩:=by unfold Addr.add;split <;> simp_all
  have:=H.out j u hj;rw [e,HB.out.cell (World.block_lt_of_cell? _ _ this)];exact this
 have hnil:=fun w'=>Lib.run_eql_slice_some_nil (P:=Tryz.prog) w' (t:=31) ⟨b,off,none⟩ ws.length cap Tryz.underlying31
 go_wp2_with (at_builtin;refine Qem Qyy HO.out (by simp) HC.out (Qd9 ws) (by omega) (by decide) HB.out.size rfl rfl rfl rfl ?_;intro v' w2 ho2 hg2 hnn)
 go_ret
 refine ⟨_,rfl,by simpa using ho2,Qav HB.out HO.out hg2 NR NR,?_⟩;intro e;have:=hnn.1 e;simp at this
def Dev.settle (S:Dev) (j:Nat):Dev :=
 if S.pending.getD j false then { S with lasting:=splice S.lasting (8*j) (seg S.flushed j),pending:=S.pending.set j false,dirty:=S.dirty.set j (!decide (seg S.flushed j=seg S.cache j)) } else S
def Dev.fenceTo (S:Dev):Nat→Dev
 | 0=>S
 | k+1=>(S.fenceTo k).settle k
def Dev.fence (S:Dev):Dev:=if S.stop then S.step else S.step.fenceTo S.dirty.length
def Dev.fenceE (S:Dev):Int:=if S.stop then 3 else 0
theorem Qxu (S:Dev) (j:Nat):(S.settle j).dirty.length=S.dirty.length∧(S.settle j).cache=S.cache∧(S.settle j).flushed=S.flushed:=by
 unfold Dev.settle
 split
 ·exact ⟨by simp,rfl,rfl⟩
 ·exact ⟨rfl,rfl,rfl⟩
theorem Qg7 (S:Dev) (k:Nat):(S.fenceTo k).dirty.length=S.dirty.length∧(S.fenceTo k).cache=S.cache∧(S.fenceTo k).flushed=S.flushed:=by
 induction k with
 | zero=>exact ⟨rfl,rfl,rfl⟩
 | succ k ih =>
  have h:=Qxu (S.fenceTo k) k;exact ⟨h.1.trans ih.1,h.2.1.trans ih.2.1,h.2.2.trans ih.2.2⟩
theorem Qpq (l s:List Nat) (j:Nat) (hs:s.length=8) (h:8*j+8≤l.length):seg (splice l (8*j) s) j=s:=by
 unfold seg splice;rw [List.drop_append_of_le_length (by simp;omega)];simp [hs]
theorem Qtb {w:World} {F:Qb0} {S:Dev} (h:Qa7 w F S) {N:Nat} (hN:N<1000000000000) (ho:S.ok N) :
  Calls Tryz.prog 154 #[Qei F] w fun e w'=>e=.returned (.int .i64 S.fenceE)∧Qa7 w' F S.fence∧Qam F.list w w':=by
 have HR:=LH S.step_rest;have HD:=LH h;clear h;go_enter Tryz.func154,Tryz.ntmps154;go_wp2_with fail;refine (Qrc HD.out hN ho).mono ?_;rintro e w1 ⟨rfl,hd1,ht1⟩;have ht1':Qam F.list w w1:=⟨ht1.os,ht1.tape,ht1.output,ht1.size,fun k hk hn=>ht1.block k hk (fun hm=>hn (by simp at hm;rw [hm];simp [Qb0.list]))⟩
 clear HD ht1
 cases hst:S.stop
 ·have HE:Hid (S.fenceE=0∧S.fence=S.step.fenceTo S.step.dirty.length):=LH (by unfold Dev.fenceE Dev.fence;rw [hst,HR.out.2.2.2.1];exact ⟨rfl,rfl⟩);clear HR hst;generalize S.step=S1 at *;have hsm:=hd1.small;have hl:=hd1.lenD;have hm:S1.dirty.length≤1000000:=by omega
  have h8:∀k,k<S1.dirty.length→8*k+8≤S1.cache.length:=fun k hk=>by omega
  have H8:=LH h8;clear hl h8;have c4:w1.cell? ⟨F.d,4,none⟩=some (.slice (some ⟨F.p,0,none⟩) S1.dirty.length F.cp):=cell_of_row _ _ 4 _ _ _ hd1.head;have HD1:=LH hd1;clear hd1;go_wp2_with fail
  go_loopw [13] (fun i wr=>∃k:Nat,k≤S1.dirty.length∧i=.int .i64 k∧Qa7 wr F (S1.fenceTo k)∧Qam F.list w wr) (fun i _=>S1.dirty.length-(intOf i).toNat)
  case atStart=>exact ⟨0,Nat.zero_le _,rfl,HD1.out,ht1'⟩
  case round =>
   clear c4 HD1 ht1';obtain ⟨k,hk,rfl,hd,ht⟩:=hrel
   by_cases hlt:k<S1.dirty.length
   ·have hl8:=H8.out k hlt;have HL:=LH (Qg7 S1 k);have HN:Hid (S1.fenceTo (k+1)=(S1.fenceTo k).settle k):=LH rfl;have e1:(S1.fenceTo k).dirty.length=S1.dirty.length:=HL.out.1;have e2:(S1.fenceTo k).cache.length=S1.cache.length:=by rw [HL.out.2.1]
    rw [← e2] at hl8 hsm;have hlt2:k<(S1.fenceTo k).dirty.length:=by rw [e1];exact hlt
    have HE1:=LH e1;clear HL e1 e2;generalize S1.fenceTo k=Sk at *;have hp:=hd.lenP;have q0:wr.cell? ⟨F.p,k,none⟩=some (.bool (Sk.pending.getD k false)):=hd.pending.cell (by simp [show k<Sk.pending.length by omega])
    cases hpk:Sk.pending.getD k false
    ·rw [hpk] at q0;have HS:Hid (Sk.settle k=Sk):=LH (by unfold Dev.settle;rw [hpk];rfl);have HD:=LH hd;clear hd hp hpk hlt2;go_wp2_with fail;exact ⟨⟨k+1,by omega,Qb2 (by omega),by rw [HN.out,HS.out];exact HD.out,ht⟩,by simp [intOf];omega⟩
    ·rw [hpk] at q0;have HS:Hid (Sk.settle k = { Sk with lasting:=splice Sk.lasting (8*k) (seg Sk.flushed k),pending:=Sk.pending.set k false,dirty:=Sk.dirty.set k (!decide (seg Sk.flushed k=seg Sk.cache k)) }):=LH (by unfold Dev.settle;rw [hpk];rfl);have g0:wr.cell? ⟨F.d,0,none⟩=some (.slice (some ⟨F.l,0,none⟩) Sk.cache.length F.cl):=cell_of_row _ _ 0 _ _ _ hd.head;have g2:wr.cell? ⟨F.d,2,none⟩=some (.slice (some ⟨F.f,0,none⟩) Sk.cache.length F.cf):=cell_of_row _ _ 2 _ _ _ hd.head;have f0:=fun x=>Qab g0 x
     have f2:=fun x=>Qab g2 x
     have hcl:=hd.capL;have hcf:=hd.capF;have hcc:=hd.capC;have HD:=LH hd;clear hd hp hpk;go_wp2_with fail;refine Qb1 14 ?hn ?hm ?hB ?_
     case hn=>exact Nat.le_of_ble_eq_true rfl
     case hm=>kernel_rfl
     case hB=>kernel_rfl
     simp only [List.take_succ_cons,List.take_zero,List.drop_succ_cons,List.drop_zero]
     repeat (quiet_step ((rename_i x;exact Qb7 (Qlc x _ _ _ _ _ hl8 (by assumption) hsm))))
     refine wpQuiet_nil ?_;rintro w5 ⟨x,hx5⟩;have hd5:=HD.out.below x.below;have ht5:=ht.trans (Qam.ofBelow x.below);rw [← hx5] at hd5 ht5;clear hx5 x HD ht f0 f2 g0 g2 q0;have hsl:=Qbv Sk.flushed k (by rw [hd5.lenF];exact hl8);have HC:=LH (Qmu hd5.flushed k);have HF:=LH hd5.lasting;have hll:8*k+8≤Sk.lasting.length:=by rw [hd5.lenL];exact hl8
     refine Qfn rfl rfl Tryz.underlying31 (by kernel_rfl) rfl rfl HF.out ((seg Sk.flushed k).map Qad) (by simp [hsl]) HC.out (by simp [hsl];omega) (Qd9 _) ?_;intro w6 hr6 ht6;rw [Qfj] at hr6;have hd6:=hd5.setLasting hr6 ht6 (by rw [length_splice _ _ _ (by rw [hsl];omega)]) (Qfp _ hd5.u64L (Qpg k hd5.u64F));have ht7:Qam F.list w w6:=ht5.trans ⟨ht6.os,ht6.tape,ht6.output,ht6.size,fun k hk hn=>ht6.block k hk (fun hm=>hn (by simp at hm;rw [hm];simp [Qb0.list]))⟩;have HSS:=LH (Qpq Sk.lasting (seg Sk.flushed k) k hsl hll);clear hd5 hr6 ht6 HF HC ht5;have g4:w6.cell? ⟨F.d,4,none⟩=some (.slice (some ⟨F.p,0,none⟩) Sk.dirty.length F.cp):=cell_of_row _ _ 4 _ _ _ hd6.head;have hp6:=hd6.lenP;dsimp only at hp6;obtain ⟨u,hu⟩:∃u,(Sk.pending.map Value.bool)[k]?=some u:=⟨_,GE (by simp;omega)⟩
     have d4:w6.cell? ⟨F.p,k,none⟩=some u:=hd6.pending.cell hu;have d5:=hd6.pending.frozen k;have hd7:=hd6.setPending k (by dsimp only;omega) false;have ht8:Qam F.list w (w6.setCell ⟨F.p,k,none⟩ (.bool false)):=ht7.trans (Qam.setCell _ (by simp [Qb0.list]) _);clear hu hp6 hd6 ht7;go_wp2_with fail;generalize w6.setCell ⟨F.p,k,none⟩ (.bool false)=w7 at *;clear g4 d4 d5;have g0:w7.cell? ⟨F.d,0,none⟩=some (.slice (some ⟨F.l,0,none⟩) Sk.cache.length F.cl):=cell_of_row _ _ 0 _ _ _ hd7.head;have g1:w7.cell? ⟨F.d,1,none⟩=some (.slice (some ⟨F.c,0,none⟩) Sk.cache.length F.cc):=cell_of_row _ _ 1 _ _ _ hd7.head;have g3:w7.cell? ⟨F.d,3,none⟩=some (.slice (some ⟨F.t,0,none⟩) Sk.dirty.length F.ct):=cell_of_row _ _ 3 _ _ _ hd7.head;have f0:=fun x=>Qab g0 x
     have f1:=fun x=>Qab g1 x
     have f3:=fun x=>Qab g3 x
     have hsc:=Qbv Sk.cache k hl8;obtain ⟨bq,hbq⟩:∃bq,bq=decide (seg Sk.flushed k=seg Sk.cache k):=⟨_,rfl⟩
     have EQ:Hid (∀x:Qbi w7,Calls Tryz.prog 176 #[.slice (some ⟨F.l,8*k,none⟩) 8 (F.cl-8*k),.slice (some ⟨F.c,8*k,none⟩) 8 (F.cc-8*k)] x.val fun e w'=>e=.returned (.bool bq)∧Below x.val.heap.size x.val w'):=by
      apply LH
      intro x;have hdx:=hd7.below x.below;have cl:Qaq x.val (some ⟨F.l,8*k,none⟩) ((seg Sk.flushed k).map Qad):=.inr ⟨_,_,rfl,fun i v hi=>by rw [← HSS.out] at hi;exact Qmu hdx.lasting k i v hi⟩;have cc:Qaq x.val (some ⟨F.c,8*k,none⟩) ((seg Sk.cache k).map Qad):=.inr ⟨_,_,rfl,fun i v hi=>Qmu hdx.cache k i v hi⟩;rw [hbq];exact Quo _ _ _ _ _ _ hsl hsc _ cl cc (by omega) (by omega)
     have HBQ:=LH hbq;have HD7:=LH hd7;clear hd7 hbq HSS hsl hsc;refine Qb1 22 ?hn ?hm ?hB ?_
     case hn=>exact Nat.le_of_ble_eq_true rfl
     case hm=>kernel_rfl
     case hB=>kernel_rfl
     simp only [List.take_succ_cons,List.take_zero,List.drop_succ_cons,List.drop_zero]
     repeat (quiet_step ((rename_i x;first | (go_at_call 176;exact Qb7 (EQ.out x)) | exact Qb7 (Qlc x _ _ _ _ _ hl8 (by assumption) hsm))))
     refine wpQuiet_nil ?_;rintro w8 ⟨x,hx8⟩;have hd8:=HD7.out.below x.below;have ht9:=ht8.trans (Qam.ofBelow x.below);rw [← hx8] at hd8 ht9;clear hx8 x HD7 ht8 f0 f1 f3 g0 g1 g3 EQ;obtain ⟨u8,hu8⟩:∃u8,(Sk.dirty.map Value.bool)[k]?=some u8:=⟨_,GE (by simp;omega)⟩
     have d4:w8.cell? ⟨F.t,k,none⟩=some u8:=hd8.dirty.cell hu8;have d5:=hd8.dirty.frozen k;have HZ:Hid (Qa7 (w8.setCell ⟨F.t,k,none⟩ (.bool (!bq))) F (S1.fenceTo (k+1))):=LH (by rw [HN.out,HS.out,← HBQ.out];exact hd8.setDirty k hlt2 _);have HT:Hid (Qam F.list w (w8.setCell ⟨F.t,k,none⟩ (.bool (!bq)))):=LH (ht9.trans (Qam.setCell _ (by simp [Qb0.list]) _));clear hd8 ht9 hu8 HS HBQ;go_wp2_with fail;exact ⟨⟨k+1,by omega,Qb2 (by omega),HZ.out,HT.out⟩,by simp [intOf];omega⟩
   ·obtain rfl:k=S1.dirty.length:=by omega
    have HZ:Hid (Qa7 wr F S.fence):=LH (by rw [HE.out.2];exact hd);clear hd;go_wp2_with fail
    go_ret
    exact ⟨Qau HE.out.1.symm,HZ.out,ht⟩
 ·have HE:Hid (S.fenceE=3∧S.fence=S.step):=LH (by unfold Dev.fenceE Dev.fence;rw [hst];exact ⟨rfl,rfl⟩);clear HR hst;go_wp2_with fail
  go_ret
  exact ⟨Qau HE.out.1.symm,by rw [HE.out.2];assumption,ht1'⟩
theorem Qc0 {w:World} {F:Qb0} {S:Dev} (h:Qa7 w F S) :
  Calls Tryz.prog 53 #[Qei F] w fun e w'=>e=.returned (.int .i64 (S.cache.length:Nat))∧w=w':=by
 have c1:w.cell? ⟨F.d,1,none⟩=some (.slice (some ⟨F.c,0,none⟩) S.cache.length F.cc):=cell_of_row _ _ 1 _ _ _ h.head;clear h;go_enter Tryz.func53,Tryz.ntmps53;go_wp2_with fail
 go_ret
 exact ⟨rfl,rfl⟩
theorem Dev.hold_same (S:Dev) (j:Nat):(S.hold j).steps=S.steps∧(S.hold j).fuse=S.fuse:=by
 unfold Dev.hold;split <;> exact ⟨rfl,rfl⟩
theorem Dev.flush_ok {S:Dev} {N:Nat} (h:S.ok N) (j:Int):(S.flush j).ok (N+1):=by
 unfold Dev.flush
 split
 ·exact h.mono (by omega)
 ·split
  ·exact Dev.step_ok h
  ·have:=Dev.step_ok h;have e:=S.step.hold_same j.toNat;unfold Dev.ok at *;rw [e.1,e.2];exact this
theorem Dev.hold_len (S:Dev) (j:Nat):(S.hold j).cache=S.cache∧(S.hold j).dirty=S.dirty:=by
 unfold Dev.hold;split <;> exact ⟨rfl,rfl⟩
theorem Dev.flush_len (S:Dev) (j:Int):(S.flush j).cache=S.cache∧(S.flush j).dirty=S.dirty:=by
 unfold Dev.flush;have h:=S.step_rest
 split
 ·exact ⟨rfl,rfl⟩
 ·split
  ·exact ⟨h.2.1,h.2.2.2.1⟩
  ·have e:=S.step.hold_len j.toNat;exact ⟨e.1.trans h.2.1,e.2.trans h.2.2.2.1⟩
structure Qdi where
 dev:Dev
 err:Int
def Dev.flushRun (S:Dev) (a:Nat):Nat→Qdi
 | 0=>⟨S,0⟩
 | m+1=>if (S.flushRun a m).err≠0 then S.flushRun a m else ⟨(S.flushRun a m).dev.flush ((a+m:Nat):Int),(S.flushRun a m).dev.flushE ((a+m:Nat):Int)⟩
def Dev.persistN (S:Dev) (a m:Nat):Qdi :=
 if (S.flushRun a m).err≠0 then S.flushRun a m else ⟨(S.flushRun a m).dev.fence,(S.flushRun a m).dev.fenceE⟩
def Dev.persist (S:Dev) (p n:Int):Qdi :=
 if p<0∨n<0∨(S.cache.length:Int)<p∨(S.cache.length:Int)-p<n then ⟨S,2⟩
 else if 0<n then S.persistN (p/8).toNat ((p+n-1)/8-p/8+1).toNat else ⟨S.fence,S.fenceE⟩
theorem Dev.flushRun_ok {S:Dev} {N:Nat} (h:S.ok N) (a m:Nat):(S.flushRun a m).dev.ok (N+m):=by
 induction m with
 | zero=>exact h
 | succ m ih =>
  unfold Dev.flushRun
  split
  ·exact ih.mono (by omega)
  ·exact Dev.flush_ok ih _
theorem Dev.flushRun_stays (S : Dev) (a m : Nat) : ∀ k, m ≤ k → (S.flushRun a m).err ≠ 0 → S.flushRun a k = S.flushRun a m := by
  intro k hk hne
  induction k with
  | zero => obtain rfl : m = 0 := by omega
            rfl
  | succ k ih =>
    by_cases e : m = k + 1
    · rw [e]
    · have := ih (by omega)
      rw [Dev.flushRun, if_pos (by rw [this]; exact hne), this]
theorem Qhs {w:World} {F:Qb0} {S:Dev} (h:Qa7 w F S) {N:Nat} (hN:N+1000000<1000000000000) (ho:S.ok N) (p n:Int) (hp:p≤4611686018427387904) (hn:n≤4611686018427387904) :
  Calls Tryz.prog 106 #[Qei F,.int .i64 p,.int .i64 n] w fun e w'=>e=.returned (.int .i64 (S.persist p n).err)∧Qa7 w' F (S.persist p n).dev∧Qam F.list w w':=by
 have hsm:=h.small;have HD:=LH h;clear h
 by_cases c1:p<0
 ·have HE:Hid (S.persist p n=⟨S,2⟩):=LH (by unfold Dev.persist;rw [if_pos (.inl c1)]);go_enter Tryz.func106,Tryz.ntmps106;go_wp2_with fail
  go_ret
  exact ⟨Qau (by rw [HE.out]),by rw [HE.out];exact HD.out,Qam.refl _ _⟩
 by_cases c2:n<0
 ·have HE:Hid (S.persist p n=⟨S,2⟩):=LH (by unfold Dev.persist;rw [if_pos (.inr (.inl c2))]);go_enter Tryz.func106,Tryz.ntmps106;go_wp2_with fail
  go_ret
  exact ⟨Qau (by rw [HE.out]),by rw [HE.out];exact HD.out,Qam.refl _ _⟩
 by_cases c3:(S.cache.length:Int)<p
 ·have HE:Hid (S.persist p n=⟨S,2⟩):=LH (by unfold Dev.persist;rw [if_pos (.inr (.inr (.inl c3)))]);go_enter Tryz.func106,Tryz.ntmps106;go_wp2_with fail;refine (Qc0 HD.out).mono ?_;rintro e w1 ⟨rfl,rfl⟩;go_wp2_with fail
  go_ret
  exact ⟨Qau (by rw [HE.out]),by rw [HE.out];exact HD.out,Qam.refl _ _⟩
 by_cases c4:(S.cache.length:Int)-p<n
 ·have HE:Hid (S.persist p n=⟨S,2⟩):=LH (by unfold Dev.persist;rw [if_pos (.inr (.inr (.inr c4)))]);go_enter Tryz.func106,Tryz.ntmps106;go_wp2_with fail;refine (Qc0 HD.out).mono ?_;rintro e w1 ⟨rfl,rfl⟩;go_wp2_with fail;refine (Qc0 HD.out).mono ?_;rintro e w1 ⟨rfl,rfl⟩;go_wp2_with fail
  go_ret
  exact ⟨Qau (by rw [HE.out]),by rw [HE.out];exact HD.out,Qam.refl _ _⟩
 have hcond:¬(p<0∨n<0∨(S.cache.length:Int)<p∨(S.cache.length:Int)-p<n):=by omega
 by_cases c5:0<n
 ·have HE:Hid (S.persist p n=S.persistN (p/8).toNat ((p+n-1)/8-p/8+1).toNat):=LH (by unfold Dev.persist;rw [if_neg hcond,if_pos c5]);clear hcond;obtain ⟨a,ha⟩:∃a:Nat,p/8=(a:Int):=⟨(p/8).toNat,by omega⟩
  obtain ⟨M,hM⟩:∃M:Nat,(p+n-1)/8=((a+M:Nat):Int):=⟨((p+n-1)/8-p/8).toNat,by omega⟩
  have e1:(p/8).toNat=a:=by omega
  have e2:((p+n-1)/8-p/8+1).toNat=M+1:=by omega
  rw [e1,e2] at HE;have hMs:a+M<200000:=by omega
  have HP:Hid (S.persistN a (M+1)=if (S.flushRun a (M+1)).err≠0 then S.flushRun a (M+1) else ⟨(S.flushRun a (M+1)).dev.fence,(S.flushRun a (M+1)).dev.fenceE⟩):=LH rfl;have HA:=LH ha;have HM:=LH hM;clear e1 e2 ha hM;go_enter Tryz.func106,Tryz.ntmps106;go_wp2_with fail;refine (Qc0 HD.out).mono ?_;rintro e w1 ⟨rfl,rfl⟩;go_wp2_with fail;refine (Qc0 HD.out).mono ?_;rintro e w1 ⟨rfl,rfl⟩;go_wp2_with fail;rw [HA.out]
  go_loopw [7] (fun i wr=>∃q:Nat,a≤q∧q≤a+M+1∧i=.int .i64 (q:Int)∧(S.flushRun a (q-a)).err=0∧Qa7 wr F (S.flushRun a (q-a)).dev∧Qam F.list w wr) (fun i _=>a+M+1-(intOf i).toNat)
  case atStart=>exact ⟨a,Nat.le_refl _,by omega,rfl,by rw [Nat.sub_self];rfl,by rw [Nat.sub_self];exact HD.out,Qam.refl _ _⟩
  case round =>
   clear HD;obtain ⟨q,hq1,hq2,rfl,he0,hd,ht⟩:=hrel;have HO:=LH (Dev.flushRun_ok ho a (q-a));have HD:=LH hd;clear ho
   by_cases hlt:q≤a+M
   ·have hcnd:(q:Int)≤(p+n-1)/8:=by rw [HM.out];omega
    have HN:Hid (S.flushRun a (q+1-a)=⟨(S.flushRun a (q-a)).dev.flush (q:Int),(S.flushRun a (q-a)).dev.flushE (q:Int)⟩):=LH (by
     obtain ⟨m,rfl⟩:∃m,q=a+m:=⟨q-a,by omega⟩
     rw [show a+m+1-a=m+1 by omega,show a+m-a=m by omega] at *
     rw [Dev.flushRun,if_neg (by rw [he0];simp)])
    have HF:Hid ((S.flushRun a (q+1-a)).err≠0→S.persist p n=S.flushRun a (q+1-a)):=LH (by
     intro hne;rw [HE.out,HP.out];have:=Dev.flushRun_stays S a (q+1-a) (M+1) (by omega) hne
     rw [this,if_pos hne])
    clear he0 hd hcnd;have hcnd:(q:Int)≤(p+n-1)/8:=by rw [HM.out];omega
    generalize (S.flushRun a (q-a)).dev=S1 at *;go_wp2_with fail;refine (Qz4 HD.out (by omega) HO.out _).mono ?_;rintro e w1 ⟨rfl,hd1,ht1⟩;have HD1:=LH hd1;have HT1:=LH (ht.trans ht1);clear hd1 ht1 ht HD;obtain ⟨fe,hfe⟩:∃fe,S1.flushE (q:Int)=fe:=⟨_,rfl⟩
    rw [hfe] at HN ⊢;clear hfe
    by_cases hz:fe=0
    ·subst hz;go_wp2_with fail;exact ⟨⟨q+1,by omega,by omega,Qb2 (by omega),by rw [HN.out],by rw [HN.out];exact HD1.out,HT1.out⟩,by simp [intOf];omega⟩
    ·have hz1:(fe != 0)=true:=by simpa using hz
     have HZ:=LH hz;clear hz;go_wp2_with fail
     go_ret
     have:=HF.out (by rw [HN.out];exact HZ.out);exact ⟨Qau (by rw [this,HN.out]),by rw [this,HN.out];exact HD1.out,HT1.out⟩
   ·obtain rfl:q=a+M+1:=by omega
    have hcnd:(p+n-1)/8<((a+M+1:Nat):Int):=by rw [HM.out];omega
    rw [show a+M+1-a=M+1 by omega] at *;have HZ:Hid (S.persist p n=⟨(S.flushRun a (M+1)).dev.fence,(S.flushRun a (M+1)).dev.fenceE⟩):=LH (by rw [HE.out,HP.out,if_neg (by rw [he0];simp)]);clear he0 hd HP HE;generalize (S.flushRun a (M+1)).dev=S1 at *;go_wp2_with fail;refine (Qtb HD.out (by omega) HO.out).mono ?_;rintro e w2 ⟨rfl,hd2,ht2⟩;go_wp2_with fail
    go_ret
    exact ⟨Qau (by rw [HZ.out]),by rw [HZ.out];exact hd2,ht.trans ht2⟩
 ·have HE:Hid (S.persist p n=⟨S.fence,S.fenceE⟩):=LH (by unfold Dev.persist;rw [if_neg hcond,if_neg c5]);clear hcond;go_enter Tryz.func106,Tryz.ntmps106;go_wp2_with fail;refine (Qc0 HD.out).mono ?_;rintro e w1 ⟨rfl,rfl⟩;go_wp2_with fail;refine (Qc0 HD.out).mono ?_;rintro e w1 ⟨rfl,rfl⟩;go_wp2_with fail;refine (Qtb HD.out (by omega) ho).mono ?_;rintro e w2 ⟨rfl,hd2,ht2⟩;go_wp2_with fail
  go_ret
  exact ⟨Qau (by rw [HE.out]),by rw [HE.out];exact hd2,ht2⟩
abbrev Ql6:=Value→Nat→Nat→World→Prop
abbrev Qb4:=Nat→Option (Value × Nat × Nat)
def Qb4.lay (F:Qb4) (i:Nat) (x:Value × Nat × Nat):Qb4:=fun k=>if k=i then some x else F k
def Jfa (S:Nat→Option Ql6) (F:Qb4) (x:World) (k:Nat):Prop:=∀v lo hi,F k=some (v,lo,hi)→(∃R,S k=some R∧R v lo hi x)∧hi≤x.heap.size
def Holds (S:Nat→Option Ql6) (F:Qb4) (x:World):Prop:=∀k,Jfa S F x k
def Qh1 (F:Qb4):Prop:=∀i j,i≠j→∀v lo hi v' lo' hi',F i=some (v,lo,hi)→F j=some (v',lo',hi')→hi≤lo'∨hi'≤lo
def Qj9 (S:Nat→Option Ql6):Prop:=∀k R,S k=some R→∀v lo hi x y,R v lo hi x→Below x.heap.size x y→R v lo hi y
theorem Qb4.lay_comm (F:Qb4) {i j:Nat} (h:i≠j) (x y:Value × Nat × Nat):(F.lay i x).lay j y=(F.lay j y).lay i x:=by
 funext k
 unfold Qb4.lay
 by_cases h1:k=j
 ·subst h1;simp [Ne.symm h]
 ·simp [h1]
theorem Holds.get {S:Nat→Option Ql6} {F:Qb4} {x:World} (h:Holds S F x) {k:Nat} {R:Ql6} {v:Value} {lo hi:Nat} (hR:S k=some R) (hF:F k=some (v,lo,hi)):R v lo hi x∧hi≤x.heap.size:=by
 obtain ⟨⟨R',hR',h1⟩,h2⟩:=h k v lo hi hF;rw [hR] at hR'
 cases hR'
 exact ⟨h1,h2⟩
theorem Holds.lay {S:Nat→Option Ql6} {F:Qb4} {x y:World} (hS:Qj9 S) (h:Holds S F x) (hb:Below x.heap.size x y) {i:Nat} {R:Ql6} (hR:S i=some R) {v:Value} (hv:R v x.heap.size y.heap.size y) :
  Holds S (F.lay i (v,x.heap.size,y.heap.size)) y:=by
 intro k v' lo hi hk;unfold Qb4.lay at hk
 by_cases e:k=i
 ·subst e;simp at hk
  obtain ⟨rfl,rfl,rfl⟩:=hk;exact ⟨⟨R,hR,hv⟩,Nat.le_refl _⟩
 ·simp [e] at hk
  obtain ⟨⟨R',h1,h2⟩,h3⟩:=h k v' lo hi hk;exact ⟨⟨R',h1,hS k R' h1 _ _ _ _ _ h2 hb⟩,Nat.le_trans h3 hb.size⟩
theorem Qh1.lay {S:Nat→Option Ql6} {F:Qb4} {x:World} (ha:Qh1 F) (h:Holds S F x) (i:Nat) (v:Value) (hi:Nat):Qh1 (F.lay i (v,x.heap.size,hi)):=by
 intro p q hpq v1 l1 h1 v2 l2 h2 e1 e2;unfold Qb4.lay at e1 e2
 by_cases ep:p=i
 ·subst ep;rw [if_neg (Ne.symm hpq)] at e2;simp at e1
  obtain ⟨rfl,rfl,rfl⟩:=e1;exact .inr (h q _ _ _ e2).2
 ·rw [if_neg ep] at e1
  by_cases eq:q=i
  ·subst eq;simp at e2
   obtain ⟨rfl,rfl,rfl⟩:=e2;exact .inl (h p _ _ _ e1).2
  ·rw [if_neg eq] at e2;exact ha p q hpq _ _ _ _ _ _ e1 e2
section
variable {P:Program} {ops:Array Oper} {md:Region.Mode} {C:World→Prop} {S:Nat→Option Ql6} {Q:Exit→Act→World→Prop}
def Qjw (P:Program) (post:Value→World→Prop) (x:World):Result Next→Prop
 | .ok (.value u) y=>post u y
 | .ok (.enter f args) y=>y=x∧Calls P f args x (fun e z=>∃u,e=.returned u∧post u z)
 | _=>False
def Qht (P:Program) (R:Ql6) (o:Oper) (a:Act) (x:World):Prop :=
 Qjw P (fun u y=>Below x.heap.size x y∧R u x.heap.size y.heap.size y) x ((execOp a.eval o).run P x)
def Sat (C:World→Prop) (S:Nat→Option Ql6) (F:Qb4):Prop:=∃x,C x∧Holds S F x∧Qh1 F
def Qhb (md:Region.Mode) (ops:Array Oper) (S:Nat→Option Ql6) (F:Qb4) (i:Nat) (x:World):Prop:=∀k,Qct md ops ops.size i k=true→Jfa S F x k
def Qf0 (P:Program) (md:Region.Mode) (ops:Array Oper) (C:World→Prop) (S:Nat→Option Ql6) (i:Nat) (o:Oper) (K:Act→Qb4→Prop) (a:Act) (F:Qb4):Prop :=
 if Region.wanted o (yielded ops a.tmps) then
  match S i with
  | none=>calm o.op=true∧∃v,(∀x,C x→(execOp a.eval o).run P x=.ok (.value v) x)∧K (a.put o.dst v) F
  | some R=>(∀x,C x→Qhb md ops S F i x→Qht P R o a x)∧∀v lo hi,Sat C S (F.lay i (v,lo,hi))→K (a.put o.dst v) (F.lay i (v,lo,hi))
 else K (a.put o.dst undef) F
def gOp (P:Program) (md:Region.Mode) (ops:Array Oper) (C:World→Prop) (S:Nat→Option Ql6) (i:Nat) (K:Act→Qb4→Prop) (a:Act) (F:Qb4):Prop :=
 match ops[i]? with
 | none=>K a F
 | some o=>Qf0 P md ops C S i o K a F
theorem Qyb {i:Nat} {o:Oper} {K K':Act→Qb4→Prop} {a:Act} {F:Qb4} (h:∀a F,K a F→K' a F) (hh:Qf0 P md ops C S i o K a F):Qf0 P md ops C S i o K' a F:=by
 unfold Qf0 at *
 split
 ·rename_i hw
  rw [if_pos hw] at hh
  cases hS:S i with
  | none =>
   rw [hS] at hh;obtain ⟨hc,v,h1,h2⟩:=hh;exact ⟨hc,v,h1,h _ _ h2⟩
  | some R =>
   rw [hS] at hh;exact ⟨hh.1,fun v lo hi hs=>h _ _ (hh.2 v lo hi hs)⟩
 ·rename_i hw
  rw [if_neg hw] at hh;exact h _ _ hh
def Qpl (P:Program) (md:Region.Mode) (ops:Array Oper) (C:World→Prop) (S:Nat→Option Ql6) (n:Nat) (R:Array Bool→Act→Qb4→Prop):Nat→Array Bool→Act→Qb4→Prop
 | 0,listed,a,F=>Region.ready md ops listed=[n]∧R listed a F
 | fuel+1,listed,a,F=>Region.ready md ops listed≠[]∧∀i∈Region.ready md ops listed,gOp P md ops C S i (Qpl P md ops C S n R fuel (listed.setIfInBounds i true)) a F
theorem Qvd (hS:Qj9 S) (hC:∀x y,C x→Below x.heap.size x y→C y) {i:Nat} {K:Act→Qb4→Prop} {K':Act→World→Prop} {a:Act} {F:Qb4} {w:World}
  (h:∀a' F' w',C w'→Holds S F' w'→Qh1 F'→K a' F'→K' a' w') (hw:C w) (hF:Holds S F w) (hA:Qh1 F) (hh:gOp P md ops C S i K a F):wpOp P ops Q i K' a w:=by
 unfold gOp at hh;unfold wpOp
 cases ho:ops[i]? with
 | none=>rw [ho] at hh;exact h _ _ _ hw hF hA hh
 | some o =>
  rw [ho] at hh;unfold Qf0 at hh;dsimp only at hh ⊢
  split
  ·rename_i hwt
   rw [if_pos hwt] at hh;refine .inl ?_;unfold Oper.wp
   cases hSi:S i with
   | none =>
    rw [hSi] at hh;obtain ⟨_,v,h1,h2⟩:=hh;rw [h1 w hw];simp only [Oper.upon]
    exact h _ _ _ hw hF hA h2
   | some R =>
    rw [hSi] at hh;obtain ⟨h1,h2⟩:=hh;have h3:=h1 w hw (fun k _=>hF k);have go:∀u y,Below w.heap.size w y→R u w.heap.size y.heap.size y→K' (a.put o.dst u) y:=fun u y hb hr =>
     h _ _ _ (hC _ _ hw hb) (hF.lay hS hb hSi hr) (hA.lay hF i u _) (h2 u _ _ ⟨y,hC _ _ hw hb,hF.lay hS hb hSi hr,hA.lay hF i u _⟩)
    unfold Qht at h3
    cases hr:(execOp a.eval o).run P w with
    | ok nx y =>
     rw [hr] at h3
     cases nx <;> simp only [Qjw] at h3 <;> simp only [Oper.upon]
     ·exact go _ _ h3.1 h3.2
     ·obtain ⟨rfl,h3⟩:=h3;exact h3.mono fun e z ⟨u,he,hb,hr⟩=>by subst he;exact go _ _ hb hr
    | halt x y=>rw [hr] at h3;simp only [Qjw] at h3
  ·rename_i hwt
   rw [if_neg hwt] at hh;exact h _ _ _ hw hF hA hh
theorem Qpb (hS:Qj9 S) (hC:∀x y,C x→Below x.heap.size x y→C y) {n m:Nat} {R:Array Bool→Act→Qb4→Prop} (hR:∀listed a F w,C w→Holds S F w→Qh1 F→R listed a F→wpAny P md ops Q m listed a w) :
  ∀(fuel:Nat) (listed:Array Bool) (a:Act) (F:Qb4) (w:World),C w→Holds S F w→Qh1 F→Qpl P md ops C S n R fuel listed a F→wpAny P md ops Q (fuel+m) listed a w
 | 0,listed,a,F,w,h1,h2,h3,h=>by rw [Nat.zero_add];exact hR _ _ _ _ h1 h2 h3 h.2
 | fuel+1,listed,a,F,w,h1,h2,h3,h=>by
  rw [show fuel+1+m=(fuel+m)+1 by omega];exact ⟨fun h0=>absurd h0 h.1,fun i hi=>Qvd hS hC (fun a' F' w' c1 c2 c3 h'=>Qpb hS hC hR fuel _ a' F' w' c1 c2 c3 h') h1 h2 h3 (h.2 i hi)⟩
theorem Qpn (hS:Qj9 S) (hC:∀x y,C x→Below x.heap.size x y→C y) {i:Nat} {R:Ql6} {o:Oper} {a:Act} {F:Qb4} {x:World} (hx:C x) (hF:Holds S F x) (hA:Qh1 F) (hR:S i=some R) (h:Qht P R o a x) :
  ∃v lo hi,Sat C S (F.lay i (v,lo,hi)):=by
 have go:∀u y,Below x.heap.size x y→R u x.heap.size y.heap.size y→∃v lo hi,Sat C S (F.lay i (v,lo,hi)):=fun u y hb hr=>⟨u,_,_,y,hC _ _ hx hb,hF.lay hS hb hR hr,hA.lay hF i u _⟩
 unfold Qht at h
 cases hr:(execOp a.eval o).run P x with
 | ok nx y =>
  rw [hr] at h
  cases nx <;> simp only [Qjw] at h
  ·exact go _ _ h.1 h.2
  ·obtain ⟨_,h⟩:=h;obtain ⟨e,w',fr,⟨u,_,hb,hr⟩,_⟩:=h [];exact go _ _ hb hr
 | halt x' y=>rw [hr] at h;simp only [Qjw] at h
theorem Qhb.unlay {F:Qb4} {i j:Nat} {x:World} {t:Value × Nat × Nat} (hw:Qct md ops ops.size j i=false) (h:Qhb md ops S F j x):Qhb md ops S (F.lay i t) j x:=by
 intro k hk;have hki:k≠i:=fun e=>by rw [e,hw] at hk;cases hk
 intro v lo hi hF;unfold Qb4.lay at hF;rw [if_neg hki] at hF;exact h k hk v lo hi hF
theorem Sat.sub {F:Qb4} {i:Nat} {t:Value × Nat × Nat} (hi:F i=none) (h:Sat C S (F.lay i t)):Sat C S F:=by
 obtain ⟨x,h1,h2,h3⟩:=h;have key:∀k v,F k=some v→(F.lay i t) k=some v:=by
  intro k v hk;unfold Qb4.lay
  by_cases e:k=i
  ·subst e;rw [hi] at hk;cases hk
  ·rw [if_neg e];exact hk
 exact ⟨x,h1,fun k v lo hi' hk=>h2 k v lo hi' (key _ _ hk),fun p q hpq v lo hi' v' lo' hi'' e1 e2=>h3 p q hpq _ _ _ _ _ _ (key _ _ e1) (key _ _ e2)⟩
theorem Je1 (hS:Qj9 S) (hC:∀x y,C x→Below x.heap.size x y→C y) {i j:Nat} {oi oj:Oper} (hij:j≠i) (hi:ops[i]?=some oi) (hj:ops[j]?=some oj) (hap:oi.apart ops oj=true)
  (hsi:∀cs b,oi.op≠.select cs b) (hsj:∀cs b,oj.op≠.select cs b) (hw1:Qct md ops ops.size j i=false) {K:Act→Qb4→Prop} {a:Act} {F:Qb4} (hsat:Sat C S F) (hFi:F i=none) (hFj:F j=none)
  (hh:Qf0 P md ops C S i oi (gOp P md ops C S j K) a F) :
  gOp P md ops C S j (fun a' F'=>Sat C S F'→F' i=none→Qf0 P md ops C S i oi K a' F') a F:=by
 obtain ⟨h1,h2,h3⟩:=Oper.apart_spec hap;have lay_i:∀t,(F.lay j t) i=none:=fun t=>by unfold Qb4.lay;rw [if_neg (Ne.symm hij)];exact hFi
 obtain ⟨x0,hx0,hF0,hA0⟩:=hsat;unfold gOp at *;simp only [hj] at *
 unfold Qf0 at hh
 by_cases hwi:Region.wanted oi (yielded ops a.tmps)=true
 ·rw [if_pos hwi] at hh;have wi:∀u,Region.wanted oi (yielded ops (a.put oj.dst u).tmps)=true:=fun u=>by rw [wanted_put oi a oj.dst u h3];exact hwi
  cases hSi:S i with
  | none =>
   rw [hSi] at hh;obtain ⟨hcal,v,hv,hK⟩:=hh
   try unfold Qf0 at hK
   rw [wanted_put oj a oi.dst v h1] at hK;unfold Qf0
   by_cases hwj:Region.wanted oj (yielded ops a.tmps)=true
   ·rw [if_pos hwj] at hK ⊢
    cases hSj:S j with
    | none =>
     rw [hSj] at hK;obtain ⟨hcj,u,hu,hK⟩:=hK;refine ⟨hcj,u,fun x hx=>?_,fun _ _=>?_⟩
     ·have:=hu x hx;rwa [execOp_put oj hsj a oi.dst v h1] at this
     ·rw [if_pos (wi u),hSi];exact ⟨hcal,v,fun x hx=>by rw [execOp_put oi hsi a oj.dst u h3];exact hv x hx,by rw [← Act.put_comm a v u h2];exact hK⟩
    | some R =>
     rw [hSj] at hK;obtain ⟨hob,hK⟩:=hK;refine ⟨fun x hx hh=>?_,fun u lo hi hs _ _=>?_⟩
     ·have:=hob x hx hh;unfold Qht at *;rwa [execOp_put oj hsj a oi.dst v h1] at this
     ·rw [if_pos (wi u),hSi];exact ⟨hcal,v,fun x hx=>by rw [execOp_put oi hsi a oj.dst u h3];exact hv x hx,by rw [← Act.put_comm a v u h2];exact hK u lo hi hs⟩
   ·rw [if_neg hwj] at hK ⊢;intro _ _;rw [if_pos (wi undef),hSi];exact ⟨hcal,v,fun x hx=>by rw [execOp_put oi hsi a oj.dst undef h3];exact hv x hx,by rw [← Act.put_comm a v undef h2];exact hK⟩
  | some Ri =>
   rw [hSi] at hh;obtain ⟨hobi,hK⟩:=hh;obtain ⟨v0,lo0,hi0,hs0⟩:=Qpn hS hC hx0 hF0 hA0 hSi (hobi x0 hx0 (fun k _=>hF0 k));have hobi':∀t x,C x→Qhb md ops S (F.lay j t) i x→Qhb md ops S F i x:=by
    intro t x _ hh k hk v lo hi hF
    by_cases e:k=j
    ·subst e;rw [hFj] at hF;cases hF
    ·exact hh k hk v lo hi (by unfold Qb4.lay;rw [if_neg e];exact hF)
   try unfold Qf0 at hK
   dsimp only at hK;unfold Qf0
   by_cases hwj:Region.wanted oj (yielded ops a.tmps)=true
   ·rw [if_pos hwj]
    cases hSj:S j with
    | none =>
     have hK0:=hK v0 lo0 hi0 hs0;rw [wanted_put oj a oi.dst v0 h1,if_pos hwj,hSj] at hK0;obtain ⟨hcj,u,hu,_⟩:=hK0;have hu':∀x,C x→(execOp a.eval oj).run P x=.ok (.value u) x:=fun x hx=>by have:=hu x hx;rwa [execOp_put oj hsj a oi.dst v0 h1] at this
     refine ⟨hcj,u,hu',fun _ _=>?_⟩;rw [if_pos (wi u),hSi];refine ⟨fun x hx hh=>?_,fun v lo hi hs=>?_⟩
     ·have:=hobi x hx hh;unfold Qht at *;rwa [execOp_put oi hsi a oj.dst u h3]
     ·have hK1:=hK v lo hi hs;rw [wanted_put oj a oi.dst v h1,if_pos hwj,hSj] at hK1;obtain ⟨_,u1,hu1,hK1⟩:=hK1;have e:u1=u:=by
       have a1:=hu1 x0 hx0;rw [execOp_put oj hsj a oi.dst v h1,hu' x0 hx0] at a1;injection a1 with a1
       injection a1 with a1
       exact a1.symm
      subst e;rw [← Act.put_comm a v u1 h2];exact hK1
    | some Rj =>
     have hK0:=hK v0 lo0 hi0 hs0;rw [wanted_put oj a oi.dst v0 h1,if_pos hwj,hSj] at hK0;obtain ⟨hobj,_⟩:=hK0;refine ⟨fun x hx hh=>?_,fun u lo hi _ _ _=>?_⟩
     ·have:=hobj x hx (hh.unlay hw1);unfold Qht at *;rwa [execOp_put oj hsj a oi.dst v0 h1] at this
     ·rw [if_pos (wi u),hSi];refine ⟨fun x hx hh=>?_,fun v lo' hi' hs=>?_⟩
      ·have:=hobi x hx (hobi' _ x hx hh);unfold Qht at *;rwa [execOp_put oi hsi a oj.dst u h3]
      ·rw [Qb4.lay_comm _ hij] at hs ⊢;have hn:(F.lay i (v,lo',hi')) j=none:=by unfold Qb4.lay;rw [if_neg hij];exact hFj
       have hK1:=hK v lo' hi' (hs.sub hn);rw [wanted_put oj a oi.dst v h1,if_pos hwj,hSj] at hK1;rw [← Act.put_comm a v u h2];exact hK1.2 u lo hi hs
   ·rw [if_neg hwj];intro _ _;rw [if_pos (wi undef),hSi];refine ⟨fun x hx hh=>?_,fun v lo hi hs=>?_⟩
    ·have:=hobi x hx hh;unfold Qht at *;rwa [execOp_put oi hsi a oj.dst undef h3]
    ·have hK1:=hK v lo hi hs;rw [wanted_put oj a oi.dst v h1,if_neg hwj] at hK1;rw [← Act.put_comm a v undef h2];exact hK1
 ·rw [if_neg hwi] at hh;have wi:∀u,¬Region.wanted oi (yielded ops (a.put oj.dst u).tmps)=true:=fun u=>by rw [wanted_put oi a oj.dst u h3];exact hwi
  try unfold Qf0 at hh
  rw [wanted_put oj a oi.dst undef h1] at hh;unfold Qf0
  by_cases hwj:Region.wanted oj (yielded ops a.tmps)=true
  ·rw [if_pos hwj] at hh ⊢
   cases hSj:S j with
   | none =>
    rw [hSj] at hh;obtain ⟨hcj,u,hu,hK⟩:=hh;refine ⟨hcj,u,fun x hx=>by have:=hu x hx;rwa [execOp_put oj hsj a oi.dst undef h1] at this,fun _ _=>?_⟩;rw [if_neg (wi u),← Act.put_comm a undef u h2];exact hK
   | some R =>
    rw [hSj] at hh;obtain ⟨hob,hK⟩:=hh;refine ⟨fun x hx hh=>by have:=hob x hx hh;unfold Qht at *;rwa [execOp_put oj hsj a oi.dst undef h1] at this,fun u lo hi hs _ _=>?_⟩;rw [if_neg (wi u),← Act.put_comm a undef u h2];exact hK u lo hi hs
  ·rw [if_neg hwj] at hh ⊢;intro _ _;rw [if_neg (wi undef),← Act.put_comm a undef undef h2];exact hh
def Jhr (F:Qb4) (listed:Array Bool):Prop:=∀k,listed.getD k true=false→F k=none
theorem Qv6 {i:Nat} {K K':Act→Qb4→Prop} {a:Act} {F:Qb4} (hs:Sat C S F) (h:∀a' F',Sat C S F'→(∀k,k≠i→F' k=F k)→K a' F'→K' a' F') (hh:gOp P md ops C S i K a F):gOp P md ops C S i K' a F:=by
 unfold gOp at *
 cases ho:ops[i]? with
 | none=>rw [ho] at hh;exact h _ _ hs (fun _ _=>rfl) hh
 | some o =>
  rw [ho] at hh;dsimp only at *;unfold Qf0 at *
  split
  ·rename_i hw
   rw [if_pos hw] at hh
   cases hS:S i with
   | none =>
    rw [hS] at hh;obtain ⟨hc,v,h1,h2⟩:=hh;exact ⟨hc,v,h1,h _ _ hs (fun _ _=>rfl) h2⟩
   | some R =>
    rw [hS] at hh;exact ⟨hh.1,fun v lo hi hs'=>h _ _ hs' (fun k hk=>by unfold Qb4.lay;rw [if_neg hk]) (hh.2 v lo hi hs')⟩
  ·rename_i hw
   rw [if_neg hw] at hh;exact h _ _ hs (fun _ _=>rfl) hh
theorem Qr4 (hS:Qj9 S) (hC:∀x y,C x→Below x.heap.size x y→C y) {n i:Nat} {R:Array Bool→Act→Qb4→Prop} {oi:Oper} (hi:ops[i]?=some oi) (hsel:∀(j:Nat) (o:Oper) cs b,ops[j]?=some o→o.op≠.select cs b)
  (hc:∀k,k<n→Jfv md ops n k=true) (hin:i<n) :
  ∀(fuel:Nat) (listed:Array Bool) (a:Act) (F:Qb4),
   (∀j oj,ops[j]?=some oj→j≠i→listed.getD j true=false→(∀e∈oj.after,Region.binds md e=true→e.on≠i)→oi.apart ops oj=true)→
   i∈Region.ready md ops listed→Qoi md ops listed→Sat C S F→Jhr F listed→
   Qf0 P md ops C S i oi (Qpl P md ops C S n R fuel (listed.setIfInBounds i true)) a F→Qpl P md ops C S n R (fuel+1) listed a F:=by
 intro fuel
 induction fuel with
 | zero =>
  intro listed a F _ hr hsh hsat hfr H;refine ⟨fun h=>(by rw [h] at hr;cases hr),fun j hj=>?_⟩
  by_cases hji:j=i
  ·subst hji;unfold gOp;simp only [hi];exact H
  ·exfalso
   have hrn:Region.ready md ops (listed.setIfInBounds i true)=[n]:=by
    obtain ⟨x,hx,hF,hA⟩:=hsat;unfold Qf0 at H
    split at H
    ·cases hSi:S i with
     | none=>rw [hSi] at H;obtain ⟨_,v,_,h⟩:=H;exact h.1
     | some Ri =>
      rw [hSi] at H;obtain ⟨v,lo,hi',hs⟩:=Qpn hS hC hx hF hA hSi (H.1 x hx (fun k _=>hF k));exact (H.2 v lo hi' hs).1
    ·exact H.1
   have:=ready_mono hj hji;rw [hrn] at this;have hjn:j=n:=by simpa using this
   subst hjn;obtain ⟨_,oj,hoj,hall⟩:=mem_ready.1 hj;have h1:=Qnr hc hsh hoj hall (j-i) i (by omega) (by omega);have h0:=(mem_ready.1 hr).1;rcases Nat.lt_or_ge i listed.size with h' | h'
   ·simp [h'] at h0 h1;rw [h0] at h1;cases h1
   ·simp [Array.getElem?_eq_none h'] at h1
 | succ fuel ih =>
  intro listed a F hfree hr hsh hsat hfr H;refine ⟨fun h=>(by rw [h] at hr;cases hr),fun j hj=>?_⟩
  by_cases hji:j=i
  ·subst hji;unfold gOp;simp only [hi];exact H
  ·obtain ⟨hjun,oj,hoj,hall⟩:=mem_ready.1 hj;have hiun0:=(mem_ready.1 hr).1;have hiun:listed.getD i false=false:=by
    rcases Nat.lt_or_ge i listed.size with h' | h'
    ·simp [h'] at hiun0 ⊢;exact hiun0
    ·simp [Array.getElem?_eq_none h']
   have hnot:∀e∈oj.after,Region.binds md e=true→e.on≠i:=fun e he hb heq=>by
    have h1:=hall e he hb;rw [heq,hiun] at h1
    cases h1
   have hwf:Qct md ops ops.size j i=false:=by
    cases hq:Qct md ops ops.size j i with
    | false=>rfl
    | true =>
     have:=Qh9 hsh ops.size j i oj hoj hall hq;rw [hiun] at this
     cases this
   have H':Qf0 P md ops C S i oi (gOp P md ops C S j (Qpl P md ops C S n R fuel ((listed.setIfInBounds i true).setIfInBounds j true))) a F :=
    Qyb (fun a' F' h=>h.2 j (ready_mono hj hji)) H
   have h2:=Je1 hS hC hji hi hoj (hfree j oj hoj hji hjun hnot) (fun cs b=>hsel i oi cs b hi) (fun cs b=>hsel j oj cs b hoj) hwf hsat (hfr i hiun0) (hfr j hjun) H';have hfree':∀k ok,ops[k]?=some ok→k≠i→(listed.setIfInBounds j true).getD k true=false→
     (∀e∈ok.after,Region.binds md e=true→e.on≠i)→oi.apart ops ok=true:=fun k ok hk hki hun hno=>by
    refine hfree k ok hk hki ?_ hno
    by_cases hjk:j=k
    ·subst hjk;exact hjun
    ·rw [getD_set_ne true hjk] at hun;exact hun
   refine Qv6 hsat (fun a' F' hs' hF' h3=>ih (listed.setIfInBounds j true) a' F' hfree' (ready_mono hr (Ne.symm hji)) (hsh.set hj) hs' ?_ ?_) h2
   ·intro k hk
    by_cases hjk:j=k
    ·subst hjk;exfalso
     have:(listed.setIfInBounds j true).getD j true=true:=by
      rcases Nat.lt_or_ge j listed.size with h' | h'
      ·simp [h']
      ·simp [h']
     rw [this] at hk
     cases hk
    ·rw [getD_set_ne true hjk] at hk;rw [hF' k (Ne.symm hjk)];exact hfr k hk
   ·rw [Array.setIfInBounds_comm _ _ hji];exact h3 hs' (by rw [hF' i (Ne.symm hji)];exact hfr i hiun0)
def Qev (P:Program) (md:Region.Mode) (ops:Array Oper) (C:World→Prop) (S:Nat→Option Ql6) (Fin:Act→Qb4→Prop):List Oper→Nat→Act→Qb4→Prop
 | [],_,a,F=>Fin a F
 | o :: rest,k,a,F=>Qf0 P md ops C S k o (Qev P md ops C S Fin rest (k+1)) a F
theorem Jfq (hS : Qj9 S) (hC : ∀ x y, C x → Below x.heap.size x y → C y) {n : Nat} (hs : Region.noSelect ops = true) (hc : ∀ k, k < n → Jfv md ops n k = true) {Fin : Act → Qb4 → Prop} : ∀ (m : Nat) (l : List Oper) (k : Nat) (listed : Array Bool) (a : Act) (F : Qb4), (∀ j, l[j]? = ops[k + j]?) → k + m = n → Qoi md ops listed → Sat C S F → Jhr F listed → Qh4 md ops n m k listed = true →
      Qev P md ops C S Fin (l.take m) k a F →
      Qpl P md ops C S n (fun listed a' F' => Qhf md ops (ops.size - n) n listed = true ∧ Fin a' F') m listed a F := by
  intro m
  induction m with
  | zero =>
    intro l k listed a F _ _ _ _ _ hB h;simp only [Qh4, Bool.and_eq_true, beq_iff_eq] at hB
    exact ⟨hB.1, hB.2, by simpa [Qev] using h⟩
  | succ m ih =>
    intro l k listed a F hl hk hsh hsat hfr hB h;simp only [Qh4, Bool.and_eq_true] at hB
    obtain ⟨⟨hr, hf⟩, hB'⟩ := hB;have hrk : k ∈ Region.ready md ops listed := by simpa using hr
    obtain ⟨hun, o0, ho0, _⟩ := mem_ready.1 hrk
    cases l with
    | nil =>
      have : ops[k]? = none := by simpa using (hl 0).symm
      rw [this] at ho0
      cases ho0
    | cons o l =>
      have h0 : ops[k]? = some o := by simpa using (hl 0).symm
      simp only [List.take_succ_cons, Qev] at h
      refine Qr4 hS hC h0 (Region.noSelect_spec hs) hc (by omega) m listed a F (Region.free_spec h0 hf) hrk hsh hsat hfr ?_;have h' : gOp P md ops C S k (Qev P md ops C S Fin (l.take m) (k + 1)) a F := by unfold gOp; simp only [h0]; exact h
      have := Qv6 hsat (fun a' F' hs' hF' h3 => ih l (k + 1) (listed.setIfInBounds k true) a' F' (fun j => by have := hl (j + 1); simpa [Nat.add_assoc, Nat.add_comm 1 j] using this) (by omega) (hsh.set hrk) hs' ?_ hB' h3) h'
      · unfold gOp at this; simp only [h0] at this; exact this
      · intro j hj
        by_cases e : k = j
        · subst e
          exfalso
          have : (listed.setIfInBounds k true).getD k true = true := by
            rcases Nat.lt_or_ge k listed.size with h' | h'
            · simp [h']
            · simp [h']
          rw [this] at hj
          cases hj
        · rw [getD_set_ne true e] at hj
          rw [hF' j (Ne.symm e)];exact hfr j hj
theorem Qoy {id:Nat} {a:Act} {w:World} {l:List Oper} (n:Nat) (S:Nat→Option Ql6) (hS:Qj9 S) (hn:n≤l.length) (hm:P.follows .mixedOrders=true) (hB:Jhc .any l.toArray n=true)
  (h:Qev P .any l.toArray (fun w'=>∃x:Qbi w,w'=x.val) S (fun a' F=>∀w',(∃x:Qbi w,w'=x.val)→Holds S F w'→Qh1 F→wpList P l.toArray Q (l.drop n) a' w') (l.take n) 0 a (fun _=>none)) :
  (Code.region id l.toArray true).wp P Q a w:=by
 simp only [Jhc,Bool.and_eq_true] at hB
 refine wp_region_any hm ?_;have hC:∀x y:World,(∃z:Qbi w,x=z.val)→Below x.heap.size x y→(∃z:Qbi w,y=z.val):=by
  rintro x y ⟨z,rfl⟩ hb;exact ⟨⟨y,z.below.trans (hb.mono z.below.size)⟩,rfl⟩
 have hC0:∃x:Qbi w,w.drew=x.val:=⟨⟨w.drew,(Below.refl _ _).drew⟩,rfl⟩
 have hH0:Holds S (fun _=>none) w.drew:=fun k v lo hi hk=>by cases hk
 have hA0:Qh1 (fun _=>none):=fun i j _ v lo hi v' lo' hi' hk=>by cases hk
 have h1:=Jfq (md:=.any) (n:=n) hS hC hB.1.1 (fun k hk=>by have:=hB.1.2;simp only [List.all_eq_true,List.mem_range] at this;exact this k hk) n l 0 (Array.replicate l.toArray.size false) a (fun _=>none) (by simp) (by omega) (Qkc _) ⟨_,hC0,hH0,hA0⟩ (fun _ _=>rfl) hB.2 h;have h2:=Qpb (Q:=Q) (m:=(l.drop n).length) hS hC (fun listed a' F w' hw' c2 c3 ⟨ht,hk⟩=>Qgq (C:=fun _=>True) (loose:=Qks l.toArray n) _ _ _ _
  (Qu1 (n:=n) (fun _ _ _=>trivial) (l.drop n) n listed a' w' (by simp) NR (fun _=>trivial) (by simpa using ht) (hk w' hw' c2 c3))) n _ a _ w.drew hC0 hH0 hA0 h1
 have e:n+(l.drop n).length=l.toArray.size:=by simp;omega
 rw [e] at h2;exact h2
theorem Qhi {Fin:Act→Qb4→Prop} {o:Oper} {rest:List Oper} {k:Nat} {a:Act} {F:Qb4} (hk:S k=none) (hcal:calm o.op=true)
  (h:wpQuiet P ops C (fun a'=>Qev P md ops C S Fin rest (k+1) a' F) [o] a):Qev P md ops C S Fin (o :: rest) k a F:=by
 unfold Qev Qf0;unfold wpQuiet at h
 by_cases hw:Region.wanted o (yielded ops a.tmps)=true
 ·rw [if_pos hw] at h ⊢;rw [hk];obtain ⟨v,h1,h2⟩:=h;refine ⟨hcal,v,fun x hx=>?_,h2⟩;have h3:=h1 x hx;unfold Oper.quietAt at h3
  cases hq:(execOp a.eval o).run P x with
  | ok nx w2 =>
   obtain ⟨u,rfl⟩:=Qkz hcal hq;rw [hq] at h3;simp only [Oper.quietUpon] at h3
   rw [h3.1,h3.2]
  | halt x' w2=>rw [hq] at h3;simp only [Oper.quietUpon] at h3
 ·rw [if_neg hw] at h ⊢;exact h
theorem Qvl {Fin:Act→Qb4→Prop} {o:Oper} {rest:List Oper} {k:Nat} {a:Act} {F:Qb4} {R:Ql6} {f:FuncId} {args:Array Operand} {tys:Array TypeId} {vs:Array Value} (hk:S k=some R) (hg:o.guard=none) (ho:o.op=.call { callee:=.value (.func f),args:=args,argTypes:=tys })
  (hv:args.map a.eval=vs) (hf:∀vs x,(callFunc f vs).run P x=.ok (.enter f vs) x)
  (h1:∀x,C x→Qhb md ops S F k x→Calls P f vs x fun e z=>∃u,e=.returned u∧Below x.heap.size x z∧R u x.heap.size z.heap.size z)
  (h2:∀v lo hi,Qev P md ops C S Fin rest (k+1) (a.put o.dst v) (F.lay k (v,lo,hi))):Qev P md ops C S Fin (o :: rest) k a F:=by
 unfold Qev Qf0;have hw:Region.wanted o (yielded ops a.tmps)=true:=by simp [Region.wanted,hg]
 rw [if_pos hw,hk];refine ⟨fun x hx hh=>?_,fun v lo hi _=>h2 v lo hi⟩;unfold Qht;have e:(execOp a.eval o).run P x=.ok (.enter f vs) x:=by
  subst hv;simp [execOp,ho,resolve,invoke,Act.eval,Deferred.ofValue,hf]
 rw [e];exact ⟨rfl,h1 x hx hh⟩
theorem Qx9 {Fin:Act→Qb4→Prop} {o:Oper} {rest:List Oper} {k:Nat} {a:Act} {F:Qb4} {R:Ql6} (hk:S k=some R) (hg:o.guard=none)
  (h1:∀x,C x→∃u z,(execOp a.eval o).run P x=.ok (.value u) z∧Below x.heap.size x z∧R u x.heap.size z.heap.size z)
  (h2:∀v lo hi,Qev P md ops C S Fin rest (k+1) (a.put o.dst v) (F.lay k (v,lo,hi))):Qev P md ops C S Fin (o :: rest) k a F:=by
 unfold Qev Qf0;have hw:Region.wanted o (yielded ops a.tmps)=true:=by simp [Region.wanted,hg]
 rw [if_pos hw,hk];refine ⟨fun x hx _=>?_,fun v lo hi _=>h2 v lo hi⟩;obtain ⟨u,z,e,hb,hr⟩:=h1 x hx;unfold Qht;rw [e];exact ⟨hb,hr⟩
theorem Qrt {w:World} {a:Act} {o:Oper} {l c:Operand} {t e:TypeId} {z:Value} {bytes:Nat} (E:Qgg P t e z 1 bytes) (n:Nat) {kl kc:IntKind} {L D:Int} (hz:z.cells=#[z])
  (hL:L=(n:Int)) (hD:D=(n:Int)) (hn:n<1000000000000) (hby:bytes≤64) (ho:o.op=.makeSlice t l c) (hl:a.eval l=.int kl L) (hc:a.eval c=.int kc D) :
  ∃u y,(execOp a.eval o).run P w=.ok (.value u) y∧Below w.heap.size w y∧y.ownsRow w.heap.size e 1 u n (List.replicate n z)∧u=.slice (some ⟨w.heap.size,0,none⟩) n n:=by
 obtain ⟨i,i1,i2,i3,i4⟩:=E.info;have b2:i.bytes*n≤281474976710656:=by
  rw [i4];have:bytes*n≤64*1000000000000:=Nat.mul_le_mul hby (by omega);omega
 obtain ⟨w',hrun,r1,r2⟩:=run_make_full (P:=P) w w.heap.size t e i z 1 E.under i1 i2 i3 kl kc n b2 (by unfold maxLen;omega) NR;rw [Qp7 z n hz] at r1;subst hL;subst hD;refine ⟨_,w',?_,Qbq r2 NR,r1,rfl⟩;simp [execOp,ho,hl,hc,hrun,Result.andThen]
end
def Qgw (B e n:Nat) (vs:List Value):Ql6:=fun v lo hi x=>∃g c,v=.slice (some ⟨g,0,none⟩) n c∧n≤c∧c≤maxLen∧lo≤g∧g<hi∧B≤g∧Qa6 x g e vs
def Qzt (R:Ql6):Prop:=∀v lo hi x y,R v lo hi x→Below x.heap.size x y→R v lo hi y
theorem Qgw.stable (B e n:Nat) (vs:List Value):Qzt (Qgw B e n vs):=by
 rintro v lo hi x y ⟨g,c,rfl,h1,h2,h3,h4,h6,h5⟩ hb;exact ⟨g,c,rfl,h1,h2,h3,h4,h6,h5.keep (hb.block g h5.lt)⟩
theorem Qgw.of {w w':World} {B e n:Nat} {v:Value} {vs:List Value} (h:w'.ownsRow w.heap.size e 1 v n vs) (hn:v≠.slice none 0 0) (hB:B≤w.heap.size):Qgw B e n vs v w.heap.size w'.heap.size w':=by
 rcases h.2 with ⟨h0,_⟩|⟨g,cap,cur,rfl,hb,hg,h1,h2,h3,h4⟩
 ·exact absurd h0 hn
 ·refine ⟨g,cap,rfl,h1,h2,hb,(Array.getElem?_eq_some_iff.1 hg).1,Nat.le_trans hB hb,cur,hg,cur.toList.drop n,?_⟩;rw [← h4,Nat.mul_one,List.take_append_drop]
theorem Qku {w:World} : ∀x,(∃y:Qbi w,x=y.val)→w.heap.size≤x.heap.size:=by
 rintro _ ⟨y,rfl⟩;exact y.below.size
def Jfn (L:List (Nat × Ql6)):Nat→Option Ql6:=fun k=>(L.find? (fun p=>p.1 == k)).map (·.2)
theorem Qr9 (L:List (Nat × Ql6)) (h:∀p∈L,Qzt p.2):Qj9 (Jfn L):=by
 intro k R hk;unfold Jfn at hk;obtain ⟨p,hp,rfl⟩:=Option.map_eq_some_iff.1 hk;exact h p (List.mem_of_find?_eq_some hp)
theorem Qjl {P:Program} {ops:Array Oper} {md:Region.Mode} {C:World→Prop} {S:Nat→Option Ql6} {Fin:Act→Qb4→Prop} {o:Oper} {rest:List Oper} {k:Nat} {a:Act} {F:Qb4} {l c:Operand} {t e:TypeId} {z:Value} {bytes:Nat}
  (E:Qgg P t e z 1 bytes) (n:Nat) {kl kc:IntKind} {L D:Int} {B:Nat} (hB:∀x,C x→B≤x.heap.size) (hk:S k=some (Qgw B e n (List.replicate n z))) (hg:o.guard=none) (hz:z.cells=#[z])
  (ho:o.op=.makeSlice t l c) (hl:a.eval l=.int kl L) (hc:a.eval c=.int kc D) (hL:L=(n:Int)) (hD:D=(n:Int)) (hn:n<1000000000000) (hby:bytes≤64)
  (h2:∀v lo hi,Qev P md ops C S Fin rest (k+1) (a.put o.dst v) (F.lay k (v,lo,hi))):Qev P md ops C S Fin (o :: rest) k a F:=by
 refine Qx9 hk hg (fun x hx=>?_) h2;obtain ⟨u,y,hrun,hb,ho,hv⟩:=Qrt (w:=x) E n hz hL hD hn hby ho hl hc;exact ⟨u,y,hrun,hb,Qgw.of ho (by rw [hv];simp) (hB x hx)⟩
def Qa8 (ws:List Nat) (m:Nat):Dev:=⟨ws,ws,List.replicate ws.length 0,List.replicate m false,List.replicate m false,0,0,false,false⟩
theorem Qte:Qgg Tryz.prog 36 4 (.bool false) 1 1:=Qgg.mk' Tryz.underlying36 (by kernel_rfl) rfl (by decide)
theorem Qwh {w:World} {g cap n m:Nat} (ws:List Nat) (hn:ws.length=n) (h8:n=8*m) (hr:Qa6 w g 40 (ws.map Qad)) (hc:n≤cap) (hsm:n≤1000000) (hu:∀z∈ws,z<18446744073709551616) :
  Calls Tryz.prog 43 #[.slice (some ⟨g,0,none⟩) n cap] w fun e w'=>∃F:Qb0,e=.returned (Qei F)∧(∀k∈F.list,k=g∨w.heap.size≤k)∧Qa7 w' F (Qa8 ws m)∧Below w.heap.size w w':=by
 have hd:(n:Int)/8=(m:Int):=by omega
 have HN:=LH hn;have H8:=LH h8;have HR:=LH hr;have HU:=LH hu;have HD:=LH hd;clear hn h8 hr hu hd;go_enter Tryz.func43,Tryz.ntmps43;go_wp2_with fail;rw [HD.out];refine Qoy 10 (Jfn [(2,Qgw w.heap.size 40 n (ws.map Qad)),(5,Qgw w.heap.size 40 n (List.replicate n (Qad 0))),(7,Qgw w.heap.size 4 m (List.replicate m (.bool false))),(9,Qgw w.heap.size 4 m (List.replicate m (.bool false)))]) ?hS ?hn ?hm ?hB ?_
 case hS =>
  refine Qr9 _ ?_;intro p hp;simp only [List.mem_cons,List.not_mem_nil,or_false] at hp
  rcases hp with rfl | rfl | rfl | rfl <;> exact Qgw.stable _ _ _ _
 case hn=>exact Nat.le_of_ble_eq_true rfl
 case hm=>kernel_rfl
 case hB=>kernel_rfl
 simp only [List.take_succ_cons,List.take_zero,List.drop_succ_cons,List.drop_zero]
 repeat (refine Qhi rfl rfl ?_;quiet_step (fail);refine wpQuiet_nil ?_)
 refine Qvl rfl rfl rfl (vs:=#[.slice (some ⟨g,0,none⟩) n cap]) (by go_simp) (by intro vs x;go_simp) ?_ ?_
 ·rintro _ ⟨x,rfl⟩ _;refine (Qs6 g 0 cap ws HN.out x.val (fun i v hi=>by rw [Nat.zero_add];exact Qab (HR.out.cell hi) x) (by rw [HN.out];exact hsm)).mono ?_;rintro e z ⟨v,he,ho,hb,hne⟩;exact ⟨v,he,hb,Qgw.of ho hne x.below.size⟩
 intro v1 lo1 hi1
 go_simp
 repeat (refine Qhi rfl rfl ?_;quiet_step (fail);refine wpQuiet_nil ?_)
 refine Qjl Qyy n Qku rfl rfl rfl rfl rfl rfl rfl rfl (by omega) (by decide) ?_;intro v2 lo2 hi2
 go_simp
 repeat (refine Qhi rfl rfl ?_;quiet_step (fail);refine wpQuiet_nil ?_)
 refine Qjl Qte m Qku rfl rfl rfl rfl rfl rfl rfl rfl (by have:=H8.out;omega) (by decide) ?_;intro v3 lo3 hi3
 go_simp
 repeat (refine Qhi rfl rfl ?_;quiet_step (fail);refine wpQuiet_nil ?_)
 refine Qjl Qte m Qku rfl rfl rfl rfl rfl rfl rfl rfl (by have:=H8.out;omega) (by decide) ?_;intro v4 lo4 hi4
 go_simp
 unfold Qev;intro x hh ha;have q1:=hh.get (k:=2) rfl rfl;have q2:=hh.get (k:=5) rfl rfl;have q3:=hh.get (k:=7) rfl rfl;have q4:=hh.get (k:=9) rfl rfl;have a12:=ha 2 5 (by decide) _ _ _ _ _ _ rfl rfl;have a13:=ha 2 7 (by decide) _ _ _ _ _ _ rfl rfl;have a14:=ha 2 9 (by decide) _ _ _ _ _ _ rfl rfl;have a23:=ha 5 7 (by decide) _ _ _ _ _ _ rfl rfl;have a24:=ha 5 9 (by decide) _ _ _ _ _ _ rfl rfl;have a34:=ha 7 9 (by decide) _ _ _ _ _ _ rfl rfl;obtain ⟨⟨g1,c1,rfl,p1,p2,p3,p4,p7,p5⟩,p6⟩:=q1;obtain ⟨⟨g2,c2,rfl,r1,r2,r3,r4,r7,r5⟩,r6⟩:=q2;obtain ⟨⟨g3,c3,rfl,s1,s2,s3,s4,s7,s5⟩,s6⟩:=q3;obtain ⟨⟨g4,c4,rfl,t1,t2,t3,t4,t7,t5⟩,t6⟩:=q4;clear hh ha;have hx:=x.below;generalize x.val=w5 at *;clear x;have hgl:=HR.out.lt;have hs5:=hx.size;have HR5:Hid (Qa6 w5 g 40 (ws.map Qad)):=LH (HR.out.keep (hx.block g hgl));have HX:=LH hx;have P5:=LH p5;have R5:=LH r5;have S5:=LH s5;have T5:=LH t5;clear hx p5 r5 s5 t5;have k1:g1<w5.heap.size:=by omega
 have k2:g2<w5.heap.size:=by omega
 have k3:g3<w5.heap.size:=by omega
 have k4:g4<w5.heap.size:=by omega
 have d1:Hid (g1≠g2∧g1≠g3∧g1≠g4∧g2≠g3∧g2≠g4∧g3≠g4):=LH (by omega);clear a12 a13 a14 a23 a24 a34;go_wp2_with fail
 go_ret
 refine ⟨⟨w5.heap.size,g,g1,g2,g3,g4,cap,c1,c2,c3,c4⟩,rfl,?_,?_,?_⟩
 ·simp only [Qb0.list,List.mem_cons,List.not_mem_nil,or_false,forall_eq_or_imp,forall_eq]
  exact ⟨.inr hs5,.inl trivial,.inr p7,.inr r7,.inr s7,.inr t7⟩
 ·have hk:∀k,k<w5.heap.size→(w5.alloc (.cells #[.slice (some ⟨g,0,none⟩) n cap,.slice (some ⟨g1,0,none⟩) n c1,.slice (some ⟨g2,0,none⟩) n c2,.slice (some ⟨g3,0,none⟩) m c3,.slice (some ⟨g4,0,none⟩) m c4,.int .i64 0,.int .i64 0,.bool false,.bool false] 145)).heap[k]?=w5.heap[k]?:=fun k hk=>Below.heap_alloc w5 _ k hk
  obtain ⟨d12,d13,d14,d23,d24,d34⟩:=d1.out;have e8:=H8.out;have en:=HN.out;refine ⟨?_,HR5.out.keep (hk g (by omega)),P5.out.keep (hk g1 k1),?_,?_,?_,?_,rfl,?_,rfl,?_,?_,?_,?_,?_,HU.out,HU.out,?_⟩
  ·rw [heap_alloc_new];simp [Jcx,Qa8,en]
  ·have:=R5.out.keep (hk g2 k2);simpa [Qa8,en] using this
  ·have:=S5.out.keep (hk g3 k3);simpa [Qa8] using this
  ·have:=T5.out.keep (hk g4 k4);simpa [Qa8] using this
  ·simp only [Qb0.list,List.nodup_cons,List.mem_cons,List.not_mem_nil,or_false,not_or,List.nodup_nil,and_true,not_false_eq_true]
   refine ⟨⟨by omega,by omega,by omega,by omega,by omega⟩,⟨by omega,by omega,by omega,by omega⟩,⟨d12,d13,d14⟩,⟨d23,d24⟩,d34⟩
  ·simp [Qa8]
  ·simp [Qa8];omega
  ·simp [Qa8];omega
  ·simp [Qa8];omega
  ·simp [Qa8];omega
  ·simp [Qa8];omega
  ·intro z hz;simp [Qa8] at hz
   omega
 ·exact HX.out.trans (((Below.refl _ _).alloc NR _).mono hs5)
theorem Jgb (k:Int) (w:World) (hk:k≤100000) :
  Calls Tryz.prog 18 #[.int .i64 k] w fun e w'=>∃F:Qb0,e=.returned (Qei F)∧(∀i∈F.list,w.heap.size≤i)∧Qa7 w' F (Qa8 (List.replicate (8*((k.toNat+7)/8)) 0) ((k.toNat+7)/8))∧Below w.heap.size w w':=by
 have HU:Hid (upN k 8=(((k.toNat+7)/8:Nat):Int)):=LH (by unfold upN;split <;> omega);obtain ⟨m,hm⟩:∃m,m=(k.toNat+7)/8:=⟨_,rfl⟩
 have hmb:m≤20000:=by omega
 rw [← hm] at HU ⊢;clear hm;go_enter Tryz.func18,Tryz.ntmps18;go_wp2_with fail;refine (Qv7 _ _ _ (by omega) (by omega)).mono ?_;rintro e w1 ⟨rfl,rfl⟩;rw [HU.out];clear HU;go_wp2_with (at_make;refine Qc1 Qyy w.heap.size (8*m) rfl (by omega) (by omega) (by omega) (by decide) NR rfl rfl rfl rfl ?_;intro w1 hown hgrow)
 have hb:=Qbq hgrow NR;obtain ⟨g,c,hv,_,_,_,_,hB,hr⟩:=Qgw.of (w:=w) (B:=w.heap.size) hown (by simp) NR;simp at hv
 obtain ⟨rfl,_⟩:=hv;have HR:Hid (Qa6 w1 w.heap.size 40 ((List.replicate (8*m) 0).map Qad)):=LH (by rw [List.map_replicate];exact hr);have HB:=LH hb;clear hown hgrow hb hr;refine (Qwh (List.replicate (8*m) 0) (by simp) rfl HR.out (by omega) (by omega) (fun z hz=>by simp at hz;omega)).mono ?_;rintro e w2 ⟨F,rfl,hF,hd,hb2⟩;go_wp2_with fail
 go_ret
 refine ⟨F,rfl,fun i hi=>?_,hd,HB.out.trans (hb2.mono HB.out.size)⟩;rcases hF i hi with h | h
 ·omega
 ·exact Nat.le_trans HB.out.size h
theorem Jbd (cs:Array Value) (z:Value) (n:Nat) (h0:0<cs.size) (h:∀i,i<cs.size→cs[i]?=some z):(madeCells cs (n*cs.size)).toList=List.replicate (n*cs.size) z:=by
 apply List.ext_getElem?
 intro i
 by_cases hi:i<n*cs.size
 ·have hm:i % cs.size<cs.size:=Nat.mod_lt _ h0;have hz:=h (i % cs.size) hm;have hz':cs[i % cs.size]=z:=by
   have:=Array.getElem?_eq_getElem (xs:=cs) hm;rw [this] at hz;exact Option.some.inj hz
  simp [madeCells,hi,hz',hm]
 ·simp [madeCells,hi]
theorem Qe0 (b off j:Nat):(⟨b,off,none⟩:Addr).add j=⟨b,off+j,none⟩:=by unfold Addr.add;split <;> simp_all
section
variable {P:Program} {w:World} {ops:Array Oper} {rest:List Oper} {o:Oper} {a:Act} {Q:Exit→Act→World→Prop}
theorem Qcf {ty:TypeId} {zs:Array Value} (A:Agg P ty zs) {p:Operand} {g off:Nat} (cs:List Value) (hc:∀i v,cs[i]?=some v→w.cell? ⟨g,off+i,none⟩=some v) (hs:cs.length=zs.size)
  (hgd:o.guard=none) (ho:o.op=.load ty p) (hp:a.eval p=.pointer (some ⟨g,off,none⟩))
  (hK:wpList P ops Q rest (a.put o.dst (.agg cs.toArray)) w):wpList P ops Q (o :: rest) a w:=by
 refine wpList_plain hgd fun K hK'=>?_
 obtain ⟨d,hu,hd⟩:=A.desc;have hl:(loadCells ⟨g,off,none⟩ cs.length).run P w=.ok cs.toArray w:=run_loadCells_list (P:=P) w ⟨g,off,none⟩ cs (fun j v hv=>by rw [Qe0];exact hc j v hv);have hagg:(isAgg ty).run P w=.ok true w:=by
  unfold isAgg;rw [Sem.run_bind,run_underlying hu w]
  cases d <;> simp_all
 have hsz:=A.size;have hr:(loadVar ty ⟨g,off,none⟩).run P w=.ok (.agg cs.toArray) w:=by
  cases hq:P.info? ty with
  | none=>simp [hq] at hsz
  | some inf =>
   have e:inf.size=cs.length:=by simp [hq] at hsz;rw [hsz,hs]
   simp [loadVar,hagg,sizeOf,typeInfo,hq,e,hl]
 have hr2:(Instr.loadAt ty (.pointer (some ⟨g,off,none⟩))).run P w=.ok (.agg cs.toArray) w:=by
  simp only [Instr.loadAt,Instr.sureAddr,Sem.run_bind,Sem.run_pure,Result.andThen]
  exact hr
 unfold Oper.wp;simp only [execOp,ho,hp]
 simp only [Sem.run_bind,hr2,Result.andThen,Sem.run_pure]
 exact hK' _ _ hK
theorem Qkl {g off t:Nat} : ∀(cs:List Value) (i:Nat) (w:World) (vs:List Value),Qa6 w g t vs→off+i+cs.length≤vs.length→(∀u∈cs,u.oneCell'=true)→
  ∃w',(storeCells ⟨g,off,none⟩ cs i).run P w=.ok () w'∧Qa6 w' g t (splice vs (off+i) cs)∧Qam [g] w w':=by
 intro cs
 induction cs with
 | nil =>
  intro i w vs hr hl h1;refine ⟨w,by simp [storeCells],?_,Qam.refl _ _⟩;simpa [splice] using hr
 | cons c cs ih =>
  intro i w vs hr hl h1;simp only [List.length_cons] at hl
  have hlt:off+i<vs.length:=by omega
  have h2:=hr.set (off+i) hlt c;obtain ⟨w',hw',hr',ht'⟩:=ih (i+1) (w.setCell ⟨g,off+i,none⟩ c) (vs.set (off+i) c) h2 (by simp;omega) (fun u hu=>h1 u (List.mem_cons_of_mem _ hu));refine ⟨w',?_,?_,(Qam.setCell _ (by simp) _).trans ht'⟩
  ·have hcell:w.cell? ⟨g,off+i,none⟩=some (vs[off+i]):=hr.cell (GE hlt);have hfz:w.frozen? ⟨g,off+i,none⟩=false:=hr.frozen _;simp only [storeCells,Sem.run_bind,Qe0]
   rw [run_store P w _ c .plain (h1 c (by simp))];simp only [hcell,hfz,Result.andThen]
   exact hw'
  ·have e:splice (vs.set (off+i) c) (off+(i+1)) cs=splice vs (off+i) (c :: cs):=by
    unfold splice;rw [show off+(i+1)=(off+i)+1 by omega,List.take_set,List.drop_set_of_lt (by omega),List.length_cons,show off+i+1+cs.length=off+i+(cs.length+1) by omega];have e1:(vs.take (off+i+1)).set (off+i) c=vs.take (off+i) ++ [c]:=by
     have hm:min (off+i) vs.length=off+i:=Nat.min_eq_left (Nat.le_of_lt hlt);rw [List.take_succ_eq_append_getElem hlt,List.set_append_right _ _ (by simp;omega)];simp [hm]
    rw [e1];simp
   rw [← e];exact hr'
theorem Qex {ty:TypeId} {zs:Array Value} (A:Agg P ty zs) {p x:Operand} {g off t:Nat} {vs:List Value} {cs:Array Value} (hr:Qa6 w g t vs) (hs:cs.size=zs.size) (hfit:off+cs.size≤vs.length) (h1:∀u∈cs.toList,u.oneCell'=true)
  (hgd:o.guard=none) (ho:o.op=.store ty p x) (hp:a.eval p=.pointer (some ⟨g,off,none⟩)) (hx:a.eval x=.agg cs)
  (hK:∀w',Qa6 w' g t (splice vs off cs.toList)→Qam [g] w w'→wpList P ops Q rest (a.put o.dst undef) w') :
  wpList P ops Q (o :: rest) a w:=by
 refine wpList_plain hgd fun K hK'=>?_
 obtain ⟨w',hw',hr',ht'⟩:=Qkl (P:=P) (off:=off) cs.toList 0 w vs hr (by simpa using hfit) h1;have hsz:=A.size;have hr2:(storeVar ty ⟨g,off,none⟩ (.agg cs)).run P w=.ok () w':=by
  cases hq:P.info? ty with
  | none=>simp [hq] at hsz
  | some inf =>
   have e:inf.size=cs.size:=by simp [hq] at hsz;rw [hsz,hs]
   simp only [storeVar,Sem.run_bind,sizeOf,typeInfo]
   simp [hq,e,Value.cells,hw',Result.andThen]
 have hr3:(Instr.storeAt ty (.pointer (some ⟨g,off,none⟩)) (.agg cs)).run P w=.ok () w':=by
  simp only [Instr.storeAt,Instr.sureAddr,Sem.run_bind,Sem.run_pure,Result.andThen]
  exact hr2
 unfold Oper.wp;simp only [execOp,ho,hp,hx]
 simp only [Sem.run_bind,hr3,Result.andThen,Sem.run_pure]
 exact hK' _ _ (hK w' (by simpa using hr') ht')
theorem Qec {l c:Operand} {t e:TypeId} {zs:Array Value} {z:Value} {bytes:Nat} (E:Qgg P t e (.agg zs) zs.size bytes) (base n:Nat) {kl kc:IntKind} {L C:Int} (hz:∀i,i<zs.size→zs[i]?=some z)
  (hL:L=(n:Int)) (hC:C=(n:Int)) (hn:n<1000000000000) (hby:bytes≤64) (hbase:base≤w.heap.size)
  (hgd:o.guard=none) (ho:o.op=.makeSlice t l c) (hl:a.eval l=.int kl L) (hc:a.eval c=.int kc C)
  (hK:∀w',w'.ownsRow base e zs.size (.slice (some ⟨w.heap.size,0,none⟩) n n) n (List.replicate (n*zs.size) z)→w.grownBy w' none→wpList P ops Q rest (a.put o.dst (.slice (some ⟨w.heap.size,0,none⟩) n n)) w') :
  wpList P ops Q (o :: rest) a w:=by
 obtain ⟨i,i1,i2,i3,i4⟩:=E.info;refine wpList_make_full _ hgd l c t ho base e i (.agg zs) zs.size E.under i1 i2 i3 kl kc L C n hl hc hL hC ?_ (by unfold maxLen;omega) hbase ?_
 ·rw [i4];have:bytes*n≤64*1000000000000:=Nat.mul_le_mul hby (by omega);omega
 ·have e:(madeCells (Value.agg zs).cells (n*zs.size)).toList=List.replicate (n*zs.size) z:=Jbd zs z n E.pos hz;rw [e];exact hK
theorem Qd6 {w:World} {base e size n g c:Nat} {vs:List Value} (h:w.ownsRow base e size (.slice (some ⟨g,0,none⟩) n c) n vs):Qa6 w g e vs:=by
 rcases h.2 with ⟨h0,_⟩|⟨g',cap,cur,hv,hb,hg,h1,h2,h3,h4⟩
 ·cases h0
 ·simp at hv
  obtain ⟨rfl,rfl⟩:=hv;exact ⟨cur,hg,cur.toList.drop (n*size),by rw [← h4,List.take_append_drop]⟩
end
theorem Qaz {B:Nat} {w w1:World} (hb:Below B w w1) {p:Addr} {v:Value} (h:w.cell? p=some v) (hB:w.heap.size≤B:=by omega):w1.cell? p=some v:=by
 rw [hb.cell (Nat.lt_of_lt_of_le (World.block_lt_of_cell? _ _ h) hB)];exact h
def Qeh (ws:List Nat) (m:Nat):List Nat:=ws ++ List.replicate (m-ws.length) 0
theorem Qyh (ws:List Nat) (m:Nat):splice (List.replicate m 0) 0 ws=Qeh ws m:=by unfold splice Qeh;simp
theorem Ja7 (b off:Nat) {n:Nat} (cap:Nat) (ws:List Nat) (hn:ws.length=n) (w:World) (h:∀i v,(ws.map Qad)[i]?=some v→w.cell? ⟨b,off+i,none⟩=some v) (hl:n≤100000) (hu:∀z∈ws,z<18446744073709551616) :
  Calls Tryz.prog 10 #[.slice (some ⟨b,off,none⟩) n cap] w fun e w'=>∃F:Qb0,e=.returned (Qei F)∧(∀i∈F.list,w.heap.size≤i)∧Qa7 w' F (Qa8 (Qeh ws (8*((n+7)/8))) ((n+7)/8))∧Below w.heap.size w w':=by
 have HU:Hid (upN (n:Int) 8=(((n+7)/8:Nat):Int)):=LH (by unfold upN;split <;> omega);obtain ⟨m,hm⟩:∃m,m=(n+7)/8:=⟨_,rfl⟩
 have hmb:m≤20000:=by omega
 have hmn:n≤8*m:=by omega
 rw [← hm] at HU ⊢;have HN:=LH hn;have H:=LH h;have HW:=LH hu;clear hm hn h hu;go_enter Tryz.func10,Tryz.ntmps10;go_wp2_with fail;refine (Qv7 _ _ _ (by omega) (by omega)).mono ?_;rintro e w1 ⟨rfl,rfl⟩;rw [HU.out];clear HU;go_wp2_with (first
  | (at_make;refine Qc1 Qyy w.heap.size (8*m) rfl (by omega) (by omega) (by omega) (by decide) NR rfl rfl rfl rfl ?_;intro w1 hown hgrow;have HR:Hid (Qa6 w1 w.heap.size 40 ((List.replicate (8*m) 0).map Qad)):=LH (by rw [List.map_replicate];exact Qd6 hown);have HB:=LH (Qbq hgrow NR);have HS:Hid (∀j v,(ws.map Qad)[j]?=some v→w1.cell? ⟨b,off+j,none⟩=some v):=LH (fun j v hj=>Qaz HB.out (H.out j v hj));clear hown hgrow)
  | (refine Qfn (off:=0) (dLen:=8*m) (sLen:=n) rfl rfl Tryz.underlying31 (by kernel_rfl) rfl rfl HR.out (ws.map Qad) (by rw [List.length_map,HN.out];exact (Nat.min_eq_left hmn).symm) HS.out (by simp [HN.out];omega) (Qd9 _) ?_;intro w2 hr2 ht2;rw [Qfj,Qyh] at hr2;have HR2:=LH hr2;have HT2:=LH ht2;clear hr2 ht2))
 refine (Qwh (Qeh ws (8*m)) (by simp [Qeh,HN.out];omega) rfl HR2.out (by omega) (by omega) (fun z hz=>by
  simp only [Qeh,List.mem_append,List.mem_replicate] at hz
  rcases hz with hz | ⟨_,rfl⟩
  ·exact HW.out z hz
  ·decide)).mono ?_
 rintro e w3 ⟨F,rfl,hF,hd,hb2⟩;go_wp2_with fail
 go_ret
 have hs2:=HT2.out.size;have hs1:=HB.out.size;have hB2:Below w.heap.size w w2:=⟨HT2.out.os.trans HB.out.os,HT2.out.tape.trans HB.out.tape,HT2.out.output.trans HB.out.output,by omega,fun k hk=>by
  rw [HT2.out.block k (by omega) (by simp;omega)];exact HB.out.block k hk⟩
 refine ⟨F,rfl,fun i hi=>?_,hd,hB2.trans (hb2.mono (by omega))⟩;rcases hF i hi with h | h <;> omega
def Qsq (n b:Int):Int:=if b<1∨n≤b then -1 else 256+b
abbrev Qgk (n:Int):Value:=.agg #[.int .i64 n]
theorem Qfr (n b:Int) (w:World) (hb:b≤1000000000):Calls Tryz.prog 90 #[Qgk n,.int .i64 b] w fun e w'=>e=.returned (.int .i64 (Qsq n b))∧Below w.heap.size w w':=by
 by_cases h1:b<1
 ·have HE:Hid (Qsq n b = -1):=LH (by unfold Qsq;rw [if_pos (.inl h1)]);go_enter Tryz.func90,Tryz.ntmps90;go_wp2_with fail
  go_ret
  exact ⟨Qau HE.out.symm,Qaf _ _⟩
 by_cases h2:n≤b
 ·have HE:Hid (Qsq n b = -1):=LH (by unfold Qsq;rw [if_pos (.inr h2)]);go_enter Tryz.func90,Tryz.ntmps90;go_wp2_with fail
  go_ret
  exact ⟨Qau HE.out.symm,Qaf _ _⟩
 have HE:Hid (Qsq n b=256+b):=LH (by unfold Qsq;rw [if_neg (by omega)]);go_enter Tryz.func90,Tryz.ntmps90;go_wp2_with fail
 go_ret
 exact ⟨Qau HE.out.symm,Qaf _ _⟩
theorem Qgt (n:Int) (w:World) (h0:0≤n) (hb:n≤1000000000):Calls Tryz.prog 63 #[Qgk n] w fun e w'=>e=.returned (.int .i64 (n*512))∧Below w.heap.size w w':=by
 go_enter Tryz.func63,Tryz.ntmps63;go_wp2_with fail
 go_ret
 exact ⟨rfl,Qaf _ _⟩
theorem Qga {k:Nat} (h:k<64):2 ^ k<18446744073709551616:=Nat.pow_lt_pow_right (by decide:1<2) (show k<64 from h)
theorem Qwu (k:Nat) (h0:0<k) (h:k<64) (w:World):Calls Tryz.prog 171 #[.int .i64 (k:Int)] w fun e w'=>e=.returned (Qad (2 ^ k-1))∧w=w':=by
 have hp:=Qga h;have h1:0<2 ^ k:=Nat.two_pow_pos k;have e1:(2:Int) ^ k=((2 ^ k:Nat):Int):=by push_cast;rfl
 have E:=LH e1;clear e1;go_enter Tryz.func171,Tryz.ntmps171;go_wp2_with fail
 go_ret
 refine ⟨Qau ?_,rfl⟩;rw [E.out,IntKind.wrap_u64,IntKind.wrap_u64];omega
def Qzr (x at_ k:Nat):Nat:=x/2 ^ at_ % 2 ^ k
theorem Jdh (y k:Nat) (hy:y<18446744073709551616) (h:k<64):bits BinOp.and IntKind.u64 (y:Int) ((2 ^ k-1:Nat):Int)=((y % 2 ^ k:Nat):Int):=by
 have hp:=Qga h;rw [u64_and_nat y (2 ^ k-1) hy (by omega),Nat.and_two_pow_sub_one_eq_mod]
theorem Qnp (x a k:Nat) (hx:x<18446744073709551616) (ha:a<64) (h0:0<k) (h:k<64) (w:World) :
  Calls Tryz.prog 139 #[Qad x,.int .i64 (a:Int),.int .i64 (k:Int)] w fun e w'=>e=.returned (Qad (Qzr x a k))∧w=w':=by
 have hy:x/2 ^ a<18446744073709551616:=Nat.lt_of_le_of_lt (Nat.div_le_self _ _) hx;have HY:Hid ((x:Int)/2 ^ a=((x/2 ^ a:Nat):Int)):=LH (by push_cast;rfl);have HF:Hid (Qzr x a k=x/2 ^ a % 2 ^ k):=LH rfl;have HM:=LH (Jdh _ k hy h);obtain ⟨m,hm⟩:∃m,m=2 ^ k-1:=⟨_,rfl⟩
 rw [← hm] at HM;have HMM:=LH hm;clear hm;go_enter Tryz.func139,Tryz.ntmps139;go_wp2_with fail;refine (Qwu k h0 h _).mono ?_;rintro e w1 ⟨rfl,rfl⟩;rw [← HMM.out];go_wp2_with fail
 go_ret
 refine ⟨Qau ?_,rfl⟩;rw [HY.out,HM.out,HF.out]
theorem Jfm (x a k n:Nat) (hx:x<2 ^ a) (hn:n<2 ^ k) (h:a+k<64) :
  bits BinOp.or IntKind.u64 (bits BinOp.andNot IntKind.u64 (x:Int) (((2 ^ k-1)*2 ^ a:Nat):Int)) (bits BinOp.and IntKind.u64 ((n*2 ^ a:Nat):Int) (((2 ^ k-1)*2 ^ a:Nat):Int))=((x+n*2 ^ a:Nat):Int):=by
 have p1:=Qga (show a<64 by omega);have p2:2 ^ k*2 ^ a<18446744073709551616:=by rw [← Nat.pow_add,Nat.add_comm];exact Qga h
 have q1:n*2 ^ a≤2 ^ k*2 ^ a:=Nat.mul_le_mul_right _ (by omega);have q2:(2 ^ k-1)*2 ^ a≤2 ^ k*2 ^ a:=Nat.mul_le_mul_right _ (by omega);have z:x<18446744073709551616:=by omega
 rw [u64_andNot_nat _ _ z (by omega),u64_and_nat _ _ (by omega) (by omega)];have e1:x &&& (18446744073709551615-(2 ^ k-1)*2 ^ a)=x:=by
  apply Nat.eq_of_testBit_eq
  intro i;have e:18446744073709551615-(2 ^ k-1)*2 ^ a=2 ^ 64-((2 ^ k-1)*2 ^ a+1):=by omega
  rw [Nat.testBit_and,e,Nat.testBit_two_pow_sub_succ (by omega)]
  by_cases hi:i<a
  ·have:((2 ^ k-1)*2 ^ a).testBit i=false:=by rw [Nat.mul_comm,Nat.testBit_two_pow_mul];simp;omega
   rw [this];simp;omega
  ·have:x.testBit i=false:=Nat.testBit_lt_two_pow (Nat.lt_of_lt_of_le hx (Nat.pow_le_pow_right (by decide) (by omega)));rw [this];simp
 have e2:n*2 ^ a &&& (2 ^ k-1)*2 ^ a=n*2 ^ a:=by
  rw [← Nat.shiftLeft_eq,← Nat.shiftLeft_eq,← Nat.shiftLeft_and_distrib,Nat.and_two_pow_sub_one_eq_mod,Nat.mod_eq_of_lt hn]
 rw [e1,e2,u64_or_nat _ _ z (by omega)]
 congr 1
 have:=Nat.two_pow_add_eq_or_of_lt (i:=a) hx n;rw [Nat.or_comm,Nat.mul_comm n,← this,Nat.add_comm]
theorem Qnf (x a k n:Nat) (hx:x<2 ^ a) (hn:n<2 ^ k) (h:a+k<64) (h0:0<k) (w:World) :
  Calls Tryz.prog 151 #[Qad x,.int .i64 (a:Int),.int .i64 (k:Int),Qad n] w fun e w'=>e=.returned (Qad (x+n*2 ^ a))∧w=w':=by
 have hv:=Jfm x a k n hx hn h;have p2:2 ^ k*2 ^ a<18446744073709551616:=by rw [← Nat.pow_add,Nat.add_comm];exact Qga h
 have q1:n*2 ^ a≤2 ^ k*2 ^ a:=Nat.mul_le_mul_right _ (by omega);have q2:(2 ^ k-1)*2 ^ a≤2 ^ k*2 ^ a:=Nat.mul_le_mul_right _ (by omega);have z:x<18446744073709551616:=Nat.lt_trans hx (Qga (by omega));have w1:IntKind.u64.wrap (((2 ^ k-1:Nat):Int)*2 ^ a)=(((2 ^ k-1)*2 ^ a:Nat):Int):=by
  rw [show ((2 ^ k-1:Nat):Int)*2 ^ a=(((2 ^ k-1)*2 ^ a:Nat):Int) by push_cast;rfl,IntKind.wrap_u64];omega
 have w2:IntKind.u64.wrap ((n:Int)*2 ^ a)=((n*2 ^ a:Nat):Int):=by
  rw [show (n:Int)*2 ^ a=((n*2 ^ a:Nat):Int) by push_cast;rfl,IntKind.wrap_u64];omega
 obtain ⟨m,hm⟩:∃m,m=2 ^ k-1:=⟨_,rfl⟩
 rw [← hm] at hv w1;have HM:=LH hm;have HV:=LH hv;have W1:=LH w1;have W2:=LH w2;have ha:a<64:=by omega
 have hk:k<64:=by omega
 clear hm hv w1 w2 p2 q1 q2;go_enter Tryz.func151,Tryz.ntmps151;go_wp2_with fail;refine (Qwu k h0 hk _).mono ?_;rintro e w1 ⟨rfl,rfl⟩;rw [← HM.out];go_wp2_with fail
 go_ret
 refine ⟨Qau ?_,rfl⟩;rw [W1.out,W2.out,HV.out]
end
section
def Qy8:Nat:=3988292384
def Qrq (s:Nat):Nat:=if s % 2=1 then (s/2) ^^^ Qy8 else s/2
theorem Qmp (x y:Nat):Qrq (x ^^^ y)=Qrq x ^^^ Qrq y:=by
 have hd:(x ^^^ y)/2=x/2 ^^^ y/2:=Nat.xor_div_two;have hm:(x ^^^ y) % 2=(x % 2+y % 2) % 2:=by
  have h:=@Nat.xor_mod_two_eq_one x y;omega
 unfold Qrq;rw [hd,hm];rcases Nat.mod_two_eq_zero_or_one x with hx | hx <;> rcases Nat.mod_two_eq_zero_or_one y with hy | hy <;> rw [hx,hy] <;> simp
 ·rw [Nat.xor_assoc]
 ·rw [Nat.xor_assoc,Nat.xor_assoc,Nat.xor_comm Qy8]
 ·generalize x/2=a;generalize y/2=b;rw [show a ^^^ Qy8 ^^^ (b ^^^ Qy8)=a ^^^ b ^^^ (Qy8 ^^^ Qy8) by
   rw [Nat.xor_assoc,Nat.xor_assoc,← Nat.xor_assoc Qy8 b Qy8,Nat.xor_comm Qy8 b,Nat.xor_assoc]]
  simp
theorem Qm0 (q:Nat):Qrq (2*q)=q:=by unfold Qrq;rw [if_neg (by omega)];omega
def Qy9 (s:Nat):Nat:=Qrq (Qrq (Qrq (Qrq s)))
theorem Jdm (x y:Nat):Qy9 (x ^^^ y)=Qy9 x ^^^ Qy9 y:=by unfold Qy9;rw [Qmp,Qmp,Qmp,Qmp]
theorem Jfl (q:Nat):Qy9 (16*q)=q:=by
 unfold Qy9;rw [show 16*q=2*(2*(2*(2*q))) by omega,Qm0,Qm0,Qm0,Qm0]
def Ql8:List Nat:=[0,498536548,997073096,651767980,1994146192,1802195444,1303535960,1342533948,3988292384,4027552580,3604390888,3412177804,2607071920,2262029012,2685067896,3183342108]
theorem Jez:∀i:Nat,i<16→Qy9 i=Ql8.getD i 0:=by decide
theorem Jgr (x:Nat):x=(16*(x/16)) ^^^ (x % 16):=by
 have h:16*(x/16) ||| x % 16=16*(x/16)+x % 16:=by
  have:=Nat.two_pow_add_eq_or_of_lt (i:=4) (b:=x % 16) (Nat.mod_lt _ (by decide)) (x/16);simpa using this.symm
 have h2:16*(x/16) ^^^ x % 16=16*(x/16) ||| x % 16:=by
  apply Nat.eq_of_testBit_eq
  intro i;rw [Nat.testBit_xor,Nat.testBit_or]
  by_cases hi:i<4
  ·have:(16*(x/16)).testBit i=false:=by
    rw [show 16*(x/16)=2 ^ 4*(x/16) by rfl,Nat.testBit_two_pow_mul];simp;omega
   rw [this];simp
  ·have:(x % 16).testBit i=false:=by
    rw [show x % 16=x % 2 ^ 4 by rfl,Nat.testBit_mod_two_pow];simp;omega
   rw [this];simp
 rw [h2,h];omega
theorem Jgn (x:Nat):Qy9 x=Ql8.getD (x % 16) 0 ^^^ (x/16):=by
 conv=>lhs;rw [Jgr x]
 rw [Jdm,Jfl,Jez _ (Nat.mod_lt _ (by decide)),Nat.xor_comm]
def Jgw (i:Nat):Nat:=Ql8.getD (i % 16) 0
def nib (s b:Nat):Nat:=Jgw (s % 256 ^^^ b) ^^^ (s/16)
theorem Qzq (s b:Nat):(s % 256 ^^^ b) % 16=(s ^^^ b) % 16:=by
 have h:=fun x y=>@Nat.xor_mod_two_pow x y 4
 simp only [show (2:Nat) ^ 4=16 by rfl] at h
 rw [h,h,Nat.mod_mod_of_dvd _ (by decide:16 ∣ 256)]
theorem Qwb (s b:Nat):Qy9 (s ^^^ b)=nib s b ^^^ (b/16):=by
 have hd:(s ^^^ b)/16=s/16 ^^^ b/16:=by
  have:=@Nat.xor_div_two_pow s b 4;simpa using this
 rw [Jgn,nib,Jgw,Qzq,hd,Nat.xor_assoc]
def Qx7 (s b:Nat):Nat:=Qy9 (Qy9 (s ^^^ b))
theorem Jb7 (s b:Nat) (h:b<256):nib (nib s b) (b/16)=Qx7 s b:=by
 have h0:b/16/16=0:=by omega
 unfold Qx7;rw [Qwb,Qwb,h0,Nat.xor_zero]
theorem Jgl:Qy8<2 ^ 32:=by decide
theorem Qnu (s:Nat) (h:s<2 ^ 32):Qrq s<2 ^ 32:=by
 unfold Qrq
 split
 ·exact Nat.xor_lt_two_pow (by omega) Jgl
 ·omega
theorem Jbw (s:Nat) (h:s<2 ^ 32):Qy9 s<2 ^ 32:=Qnu _ (Qnu _ (Qnu _ (Qnu _ h)))
theorem Jei (s b:Nat) (h:s<2 ^ 32) (hb:b<256):Qx7 s b<2 ^ 32:=Jbw _ (Jbw _ (Nat.xor_lt_two_pow h (by omega)))
theorem Qsg (i:Nat):Ql8.getD i 0<2 ^ 32:=by
 by_cases h:i<16
 ·have:∀i:Nat,i<16→Ql8.getD i 0<2 ^ 32:=by decide
  exact this i h
 ·rw [GD,List.getElem?_eq_none (by show 16≤i;omega)];decide
theorem Jhs (s b:Nat) (h:s<2 ^ 32):nib s b<2 ^ 32:=Nat.xor_lt_two_pow (Qsg _) (by omega)
theorem Jif (x:Nat) (h:x<2 ^ 32):4294967295 ^^^ x=4294967295-x:=by
 apply Nat.eq_of_testBit_eq
 intro i;have e1:(4294967295:Nat)=2 ^ 32-1:=by decide
 have e2:4294967295-x=2 ^ 32-(x+1):=by omega
 rw [e2,Nat.testBit_two_pow_sub_succ h,Nat.testBit_xor,e1,Nat.testBit_two_pow_sub_one]
 by_cases hi:i<32
 ·simp [hi]
 ·have:x.testBit i=false:=Nat.testBit_lt_two_pow (Nat.lt_of_lt_of_le h (Nat.pow_le_pow_right (by decide) (by omega)));simp [hi,this]
def Qli (s:Nat) (l:List Nat):Nat:=l.foldl Qx7 s
def Qsu (s:Nat) (l:List Nat):Nat:=4294967295-Qli (4294967295-s) l
theorem Qmo (l:List Nat) (h:∀z∈l,z<256):∀s,s<2 ^ 32→Qli s l<2 ^ 32:=by
 induction l with
 | nil=>intro s hs;exact hs
 | cons z l ih=>intro s hs;exact ih (fun y hy=>h y (by simp [hy])) _ (Jei s z hs (h z (by simp)))
theorem Qp9 (s:Nat) (l:List Nat) (k:Nat) (h:k<l.length):Qli s (l.take (k+1))=Qx7 (Qli s (l.take k)) (l.getD k 0):=by
 have e:l.getD k 0=l[k]:=by simp [h]
 rw [List.take_succ_eq_append_getElem h,e];unfold Qli;rw [List.foldl_append];rfl
theorem Jeo (s:Nat) (l:List Nat):Qsu s l<2 ^ 32:=by unfold Qsu;omega
end
end Go.Proofs.YtpohaahihdhleaaGreat
