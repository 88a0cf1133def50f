/- Parts of the proof of one statement of the seat. -/
import Derived.Test.YtpohaahihdhleaaGreatRO6
import Derived.BigQuiet
import Derived.Deep.CutBlock
import Derived.ChangeKeysEq
import Derived.Laws.StructEq
import Derived.Deep.QuietTactic
set_option linter.unusedVariables false
set_option maxHeartbeats 16000000
set_option maxRecDepth 100000
open Go.RowKit
namespace Go.Proofs.YtpohaahihdhleaaGreat
section
theorem Qu4 (l s:List Nat) (o i:Nat) (h:o+s.length≤l.length):(splice l o s).getD i 0=if o≤i∧i<o+s.length then s.getD (i-o) 0 else l.getD i 0:=by
 unfold splice;simp only [GD]
 by_cases h1:i<o
 ·rw [if_neg (by omega),List.getElem?_append_left (by simp;omega),List.getElem?_take_of_lt h1]
 ·rw [List.getElem?_append_right (by simp;omega),show (l.take o).length=o by simp;omega]
  by_cases h2:i<o+s.length
  ·rw [if_pos (by omega),List.getElem?_append_left (by omega)]
  ·rw [if_neg (by omega),List.getElem?_append_right (by omega),List.getElem?_drop,show o+s.length+(i-o-s.length)=i by omega]
theorem Qj5 (l:List Nat) (j i:Nat) (hi:8*j≤i) (h2:i<8*j+8):(seg l j).getD (i-8*j) 0=l.getD i 0:=by
 rw [GD,Jbh l j (i-8*j) (by omega),show 8*j+(i-8*j)=i by omega,← GD]
theorem Qp8 (l m:List Nat) (j:Nat) (h1:8*j+8≤l.length) (h2:8*j+8≤m.length):seg l j=seg m j↔∀i,8*j≤i→i<8*j+8→l.getD i 0=m.getD i 0:=by
 constructor
 ·intro h i hi hi2;rw [← Qj5 l j i hi hi2,← Qj5 m j i hi hi2,h]
 ·intro h
  apply List.ext_getElem (by rw [Qbv l j h1,Qbv m j h2])
  intro i hi1 hi2;rw [Qbv l j h1] at hi1;have:=h (8*j+i) (by omega) (by omega);have e1:=Qj5 l j (8*j+i) (by omega) (by omega);have e2:=Qj5 m j (8*j+i) (by omega) (by omega);rw [show 8*j+i-8*j=i by omega] at e1 e2;rw [this,← e2] at e1;simpa [GD,Qbv l j h1,Qbv m j h2,hi1] using e1
theorem Qif (l s:List Nat) (j i:Nat) (h1:8*j+8≤l.length) (h2:8*j+8≤s.length):(splice l (8*j) (seg s j)).getD i 0=if i/8=j then s.getD i 0 else l.getD i 0:=by
 have hl:=Qbv s j h2;rw [Qu4 _ _ _ _ (by rw [hl];exact h1),hl]
 by_cases h:i/8=j
 ·rw [if_pos (by omega),if_pos h,Qj5 s j i (by omega) (by omega)]
 ·rw [if_neg (by omega),if_neg h]
theorem Qfm (l:List Bool) (i j:Nat) (b:Bool) (hi:i<l.length):(l.set i b).getD j false=if j=i then b else l.getD j false:=by
 simp only [GD]
 by_cases h:j=i
 ·subst h;rw [if_pos rfl,List.getElem?_set_self hi];rfl
 ·rw [if_neg h,List.getElem?_set_ne (Ne.symm h)]
theorem Qs2 (l:List Nat) (i j x:Nat) (hi:i<l.length):(l.set i x).getD j 0=if j=i then x else l.getD j 0:=by
 simp only [GD]
 by_cases h:j=i
 ·subst h;rw [if_pos rfl,List.getElem?_set_self hi];rfl
 ·rw [if_neg h,List.getElem?_set_ne (Ne.symm h)]
structure Dev.inv (S:Dev):Prop where
 wf:S.wf
 sound:∀j,S.dirty.getD (j/8) false=false→S.lasting.getD j 0=S.cache.getD j 0
 pend:∀l,S.pending.getD l false=true→S.dirty.getD l false=true
theorem Dev.step_wf {S:Dev} (h:S.wf):S.step.wf:=by
 unfold Dev.step
 split
 ·exact ⟨h.lenL,h.lenF,h.lenP,h.lenD,h.small,h.u64L,h.u64C,h.u64F⟩
 ·exact ⟨h.lenL,h.lenF,h.lenP,h.lenD,h.small,h.u64L,h.u64C,h.u64F⟩
theorem Dev.step_inv {S:Dev} (h:S.inv):S.step.inv:=by
 obtain ⟨e1,e2,e3,e4,e5⟩:=S.step_rest;exact ⟨Dev.step_wf h.wf,by rw [e1,e2,e4];exact h.sound,by rw [e5,e4];exact h.pend⟩
theorem Qrz {ws:List Nat} {m:Nat} (h8:ws.length=8*m) (hs:ws.length≤1000000) (hu:∀z∈ws,z<18446744073709551616):(Qa8 ws m).inv:=by
 refine ⟨⟨rfl,by simp [Qa8],by simp [Qa8],by simpa [Qa8] using h8,hs,hu,hu,?_⟩,fun j _=>rfl,fun l hl=>?_⟩
 ·intro z hz;simp [Qa8] at hz
  omega
 ·exfalso
  simp [Qa8,GD,List.getElem?_replicate] at hl
  split at hl <;> simp at hl
theorem Dev.put_inv {S:Dev} (h:S.inv) (i x:Nat) (hi:i<S.cache.length) (hx:x<18446744073709551616):(S.put i x).inv:=by
 have hw:=h.wf;have hD:=hw.lenD;have hl:i/8<S.dirty.length:=by omega
 refine ⟨⟨by simp [Dev.put,hw.lenL],by simp [Dev.put,hw.lenF],by simp [Dev.put,hw.lenP],by simp [Dev.put,hD],by simp [Dev.put,hw.small],hw.u64L,Qwm hw.u64C _ _ hx,hw.u64F⟩,fun j hj=>?_,fun l hl2=>?_⟩
 ·simp only [Dev.put] at hj ⊢
  rw [Qfm _ _ _ _ hl] at hj;rw [Qs2 _ _ _ _ hi]
  split at hj
  ·cases hj
  ·rw [if_neg (by rintro rfl;simp at *)];exact h.sound j hj
 ·simp only [Dev.put] at hl2 ⊢
  rw [Qfm _ _ _ _ hl]
  split
  ·rfl
  ·exact h.pend l hl2
theorem Dev.store_inv {S:Dev} (h:S.inv) (i:Int) (x:Nat) (hx:x<18446744073709551616):(S.store i x).inv:=by
 unfold Dev.store
 split
 ·exact h
 ·split
  ·exact Dev.step_inv h
  ·exact Dev.put_inv (Dev.step_inv h) _ _ (by rw [(Dev.step_rest S).2.1];omega) hx
theorem Dev.hold_inv {S:Dev} (h:S.inv) (j:Nat) (hj:j<S.dirty.length):(S.hold j).inv:=by
 have hw:=h.wf;have hD:=hw.lenD;unfold Dev.hold
 split
 ·rename_i hd
  have hs:=Qbv S.cache j (by omega);refine ⟨⟨hw.lenL,by rw [length_splice _ _ _ (by rw [hs,hw.lenF];omega)];exact hw.lenF,by simp [hw.lenP],hD,hw.small,hw.u64L,hw.u64C,Qfp _ hw.u64F (Qpg _ hw.u64C)⟩,h.sound,fun l hl=>?_⟩;dsimp only at hl ⊢;rw [Qfm _ _ _ _ (by rw [hw.lenP];exact hj)] at hl
  split at hl
  ·rename_i e;rw [e];exact hd
  ·exact h.pend l hl
 ·exact h
theorem Dev.flush_inv {S:Dev} (h:S.inv) (j:Int):(S.flush j).inv:=by
 unfold Dev.flush
 split
 ·exact h
 ·split
  ·exact Dev.step_inv h
  ·exact Dev.hold_inv (Dev.step_inv h) _ (by rw [(Dev.step_rest S).2.2.2.1];omega)
theorem Dev.flushRun_inv {S:Dev} (h:S.inv) (a m:Nat):(S.flushRun a m).dev.inv:=by
 induction m with
 | zero=>exact h
 | succ m ih =>
  unfold Dev.flushRun
  split
  ·exact ih
  ·exact Dev.flush_inv ih _
structure Jay (S:Dev) (k:Nat) (T:Dev):Prop where
 cache:T.cache=S.cache
 flushed:T.flushed=S.flushed
 lenD:T.dirty.length=S.dirty.length
 lenP:T.pending.length=S.pending.length
 lenL:T.lasting.length=S.lasting.length
 pending:∀l,T.pending.getD l false=if l<k then false else S.pending.getD l false
 dirty:∀l,T.dirty.getD l false=if l<k∧S.pending.getD l false=true then !decide (seg S.flushed l=seg S.cache l) else S.dirty.getD l false
 lasting:∀j,T.lasting.getD j 0=if j/8<k∧S.pending.getD (j/8) false=true then S.flushed.getD j 0 else S.lasting.getD j 0
 u64:∀z∈T.lasting,z<18446744073709551616
theorem Qp0 {S:Dev} (h:S.wf):∀k,k≤S.dirty.length→Jay S k (S.fenceTo k)
 | 0,_=>⟨rfl,rfl,rfl,rfl,rfl,by simp [Dev.fenceTo],by simp [Dev.fenceTo],by simp [Dev.fenceTo],h.u64L⟩
 | k+1,hk=>by
  have i:=Qp0 h k (by omega);have hD:=h.lenD;have hP:=h.lenP;have hL:=h.lenL;have hF:=h.lenF;unfold Dev.fenceTo;generalize S.fenceTo k=T at *;have hp:T.pending.getD k false=S.pending.getD k false:=by rw [i.pending k,if_neg (by omega)]
  unfold Dev.settle;rw [hp]
  cases hq:S.pending.getD k false
  ·simp only [Bool.false_eq_true,if_false]
   refine ⟨i.cache,i.flushed,i.lenD,i.lenP,i.lenL,fun l=>?_,fun l=>?_,fun j=>?_,i.u64⟩
   ·rw [i.pending l]
    by_cases e:l=k
    ·subst e;rw [if_neg (by omega),if_pos (by omega),hq]
    ·by_cases h1:l<k
     ·rw [if_pos h1,if_pos (by omega)]
     ·rw [if_neg h1,if_neg (by omega)]
   ·rw [i.dirty l]
    by_cases e:l=k
    ·subst e;rw [if_neg (by omega),if_neg (by rw [hq];simp)]
    ·by_cases h1:l<k∧S.pending.getD l false=true
     ·rw [if_pos h1,if_pos ⟨by omega,h1.2⟩]
     ·rw [if_neg h1,if_neg (fun h2=>h1 ⟨by omega,h2.2⟩)]
   ·rw [i.lasting j]
    by_cases e:j/8=k
    ·rw [if_neg (by omega),if_neg (by rw [e,hq];simp)]
    ·by_cases h1:j/8<k∧S.pending.getD (j/8) false=true
     ·rw [if_pos h1,if_pos ⟨by omega,h1.2⟩]
     ·rw [if_neg h1,if_neg (fun h2=>h1 ⟨by omega,h2.2⟩)]
  ·simp only [if_true]
   rw [i.flushed,i.cache];have hs:=Qbv S.flushed k (by omega);have hlT:8*k+8≤T.lasting.length:=by rw [i.lenL];omega
   refine ⟨rfl,rfl,by simp [i.lenD],by simp [i.lenP],by rw [length_splice _ _ _ (by rw [hs];exact hlT)];exact i.lenL,fun l=>?_,fun l=>?_,fun j=>?_,Qfp _ i.u64 (Qpg _ h.u64F)⟩
   ·dsimp only;rw [Qfm _ _ _ _ (by rw [i.lenP];omega),i.pending l]
    by_cases e:l=k
    ·subst e;rw [if_pos rfl,if_pos (by omega)]
    ·rw [if_neg e]
     by_cases h1:l<k
     ·rw [if_pos h1,if_pos (by omega)]
     ·rw [if_neg h1,if_neg (by omega)]
   ·dsimp only;rw [Qfm _ _ _ _ (by rw [i.lenD];omega),i.dirty l]
    by_cases e:l=k
    ·subst e;rw [if_pos rfl,if_pos ⟨by omega,hq⟩]
    ·rw [if_neg e]
     by_cases h1:l<k∧S.pending.getD l false=true
     ·rw [if_pos h1,if_pos ⟨by omega,h1.2⟩]
     ·rw [if_neg h1,if_neg (fun h2=>h1 ⟨by omega,h2.2⟩)]
   ·dsimp only;rw [Qif _ _ _ _ hlT (by omega),i.lasting j]
    by_cases e:j/8=k
    ·rw [if_pos e,if_pos ⟨by omega,by rw [e];exact hq⟩]
    ·rw [if_neg e]
     by_cases h1:j/8<k∧S.pending.getD (j/8) false=true
     ·rw [if_pos h1,if_pos ⟨by omega,h1.2⟩]
     ·rw [if_neg h1,if_neg (fun h2=>h1 ⟨by omega,h2.2⟩)]
theorem Qhd {l:List Bool} {i:Nat} (h:l.length≤i):l.getD i false=false:=by simp [GD,List.getElem?_eq_none h]
theorem Qf8 {l:List Nat} {i:Nat} (h:l.length≤i):l.getD i 0=0:=by simp [GD,List.getElem?_eq_none h]
theorem Dev.fence_at {S:Dev} (h:S.wf) (hs:S.stop=false):Jay S S.dirty.length S.fence:=by
 unfold Dev.fence;rw [hs];simp only [Bool.false_eq_true,if_false]
 obtain ⟨e1,e2,e3,e4,e5⟩:=S.step_rest;have i:=Qp0 (Dev.step_wf h) S.dirty.length (by rw [e4];exact Nat.le_refl _);exact ⟨by rw [← e2];exact i.cache,by rw [← e3];exact i.flushed,by rw [← e4];exact e4 ▸ i.lenD,by rw [← e5];exact i.lenP,by rw [← e1];exact i.lenL,by have:=i.pending;rwa [e5] at this,by have:=i.dirty;rwa [e5,e3,e2,e4] at this,by have:=i.lasting;rwa [e5,e3,e1] at this,i.u64⟩
theorem Dev.fence_inv {S:Dev} (h:S.inv):S.fence.inv:=by
 by_cases hs:S.stop=true
 ·unfold Dev.fence;rw [hs];exact Dev.step_inv h
 ·have i:=Dev.fence_at h.wf (by simpa using hs);have hw:=h.wf;have hD:=hw.lenD;generalize S.fence=T at *;refine ⟨⟨by rw [i.lenL,i.cache];exact hw.lenL,by rw [i.flushed,i.cache];exact hw.lenF,by rw [i.lenP,i.lenD];exact hw.lenP,by rw [i.cache,i.lenD];exact hD,by rw [i.cache];exact hw.small,i.u64,by rw [i.cache];exact hw.u64C,by rw [i.flushed];exact hw.u64F⟩,fun j hj=>?_,fun l hl=>?_⟩
  ·rw [i.lasting j,i.cache];rw [i.dirty (j/8)] at hj
   by_cases h1:j/8<S.dirty.length∧S.pending.getD (j/8) false=true
   ·rw [if_pos h1];rw [if_pos h1] at hj;have:seg S.flushed (j/8)=seg S.cache (j/8):=by simpa using hj
    exact (Qp8 _ _ _ (by rw [hw.lenF];omega) (by omega)).1 this j (by omega) (by omega)
   ·rw [if_neg h1];rw [if_neg h1] at hj;exact h.sound j hj
  ·rw [i.pending l] at hl
   by_cases h1:l<S.dirty.length
   ·rw [if_pos h1] at hl;cases hl
   ·rw [Qhd (by rw [hw.lenP];omega)] at hl;simp at hl
theorem Dev.persist_inv {S:Dev} (h:S.inv) (p n:Int):(S.persist p n).dev.inv:=by
 unfold Dev.persist
 split
 ·exact h
 ·split
  ·unfold Dev.persistN
   split
   ·exact Dev.flushRun_inv h _ _
   ·exact Dev.fence_inv (Dev.flushRun_inv h _ _)
  ·exact Dev.fence_inv h
theorem Qs3 (S:Dev) (j:Nat):(S.settle j).steps=S.steps∧(S.settle j).fuse=S.fuse:=by
 unfold Dev.settle;split <;> exact ⟨rfl,rfl⟩
theorem Qhk (S:Dev) (k:Nat):(S.fenceTo k).steps=S.steps∧(S.fenceTo k).fuse=S.fuse:=by
 induction k with
 | zero=>exact ⟨rfl,rfl⟩
 | succ k ih=>have h:=Qs3 (S.fenceTo k) k;exact ⟨h.1.trans ih.1,h.2.trans ih.2⟩
theorem Dev.fence_ok {S:Dev} {N:Nat} (h:S.ok N):S.fence.ok (N+1):=by
 unfold Dev.fence
 split
 ·exact Dev.step_ok h
 ·have:=Dev.step_ok h;have e:=Qhk S.step S.dirty.length;unfold Dev.ok at *;rw [e.1,e.2];exact this
theorem Dev.persist_ok {S:Dev} (hw:S.wf) {N:Nat} (h:S.ok N) (p n:Int):(S.persist p n).dev.ok (N+200000):=by
 have hD:=hw.lenD;have hs:=hw.small;unfold Dev.persist
 split
 ·exact h.mono (by omega)
 ·split
  ·unfold Dev.persistN;have hM:(((p:Int)+(n:Int)-1)/8-(p:Int)/8+1).toNat≤150000:=by omega
   split
   ·exact (Dev.flushRun_ok h _ _).mono (by omega)
   ·exact (Dev.fence_ok (Dev.flushRun_ok h _ _)).mono (by omega)
  ·exact (Dev.fence_ok h).mono (by omega)
theorem Qva {S:Dev} (h:S.live) (j:Nat):(S.settle j).live:=by
 unfold Dev.settle;split <;> exact h
theorem Qs9 {S:Dev} (h:S.live) (k:Nat):(S.fenceTo k).live:=by
 induction k with
 | zero=>exact h
 | succ k ih=>exact Qva ih k
theorem Dev.live.fence {S:Dev} (h:S.live):S.fence.live:=by
 unfold Dev.fence;rw [h.stop];exact Qs9 h.step _
theorem Dev.live.persist_live {S:Dev} (h:S.live) (p n:Nat) (hn:0<n) (hd:S.cache.length=8*S.dirty.length) (hp:p+n≤S.cache.length):(S.persist p n).dev.live:=by
 unfold Dev.persist;rw [if_neg (by omega),if_pos (by omega)];unfold Dev.persistN;obtain ⟨i1,i2,i3,i4⟩:=h.flushRun ((p:Int)/8).toNat (((p:Int)+(n:Int)-1)/8-(p:Int)/8+1).toNat (by omega);rw [if_neg (by rw [i1];simp)];exact i2.fence
theorem Dev.flushRun_held {S:Dev} (h:S.inv) (a:Nat):∀m,(S.flushRun a m).err=0→(S.flushRun a m).dev.cache=S.cache∧(S.flushRun a m).dev.dirty=S.dirty∧(0<m→a+m≤S.dirty.length)∧
  ∀l,a≤l→l<a+m→S.dirty.getD l false=true→(S.flushRun a m).dev.pending.getD l false=true∧seg (S.flushRun a m).dev.flushed l=seg S.cache l
 | 0,_=>⟨rfl,rfl,fun h=>absurd h (Nat.lt_irrefl _),fun l h1 h2=>by omega⟩
 | m+1,he=>by
  have hinv:=Dev.flushRun_inv h a m;unfold Dev.flushRun at he ⊢
  by_cases h0:(S.flushRun a m).err≠0
  ·rw [if_pos h0] at he;exact absurd he h0
  ·rw [if_neg h0] at he ⊢;obtain ⟨i1,i2,i3,i4⟩:=Dev.flushRun_held h a m (by simpa using h0);generalize (S.flushRun a m).dev=T at *;dsimp only at he ⊢;unfold Dev.flushE at he;unfold Dev.flush
   by_cases c1:((a+m:Nat):Int)<0∨(T.dirty.length:Int)≤((a+m:Nat):Int)
   ·rw [if_pos c1] at he;simp at he
   rw [if_neg c1] at he ⊢
   cases c2:T.stop
   ·simp only [Bool.false_eq_true,if_false]
    obtain ⟨e1,e2,e3,e4,e5⟩:=T.step_rest;rw [show ((a+m:Nat):Int).toNat=a+m by omega];have hw:=Dev.step_wf hinv.wf;have hD:=hw.lenD;have hdl:T.dirty.length=S.dirty.length:=by rw [i2]
    have hj:a+m<T.step.dirty.length:=by rw [e4];omega
    rw [← e4] at i2;rw [← e2] at i1;rw [← e5,← e3] at i4;generalize T.step=U at *;refine ⟨by rw [(Dev.hold_len U _).1,i1],by rw [(Dev.hold_len U _).2,i2],fun _=>by rw [← i2];omega,fun l h1 h2 hd=>?_⟩;unfold Dev.hold
    by_cases hl:l=a+m
    ·subst hl;rw [if_pos (by rw [i2];exact hd)];dsimp only;refine ⟨by rw [Qfm _ _ _ _ (by rw [hw.lenP];exact hj),if_pos rfl],?_⟩;rw [Qpq _ _ _ (Qbv _ _ (by omega)) (by rw [hw.lenF];omega),i1]
    ·have:=i4 l h1 (by omega) hd;have hll:l<U.dirty.length:=by
      rcases Nat.lt_or_ge l U.dirty.length with h | h
      ·exact h
      ·rw [← i2,Qhd h] at hd;cases hd
     split
     ·dsimp only;refine ⟨by rw [Qfm _ _ _ _ (by rw [hw.lenP];exact hj),if_neg hl];exact this.1,?_⟩;rw [← this.2];have hs:=Qbv U.cache (a+m) (by omega);refine (Qp8 _ _ _ (by rw [length_splice _ _ _ (by rw [hs,hw.lenF];omega),hw.lenF];omega) (by rw [hw.lenF];omega)).2 (fun i h3 h4=>?_);rw [Qif _ _ _ _ (by rw [hw.lenF];omega) (by omega),if_neg (by omega)]
     ·exact this
   ·rw [c2] at he;simp at he
theorem Dev.persist_clean {S:Dev} (h:S.inv) (p n:Nat) (hn:0<n) (he:(S.persist p n).err=0):(S.persist p n).dev.cache=S.cache∧p+n≤S.cache.length∧(S.persist p n).dev.dirty.length=S.dirty.length∧
  (∀j,p≤j→j<p+n→(S.persist p n).dev.dirty.getD (j/8) false=false)∧∀l,S.dirty.getD l false=false→(S.persist p n).dev.dirty.getD l false=false:=by
 unfold Dev.persist at he ⊢
 by_cases c1:(p:Int)<0∨(n:Int)<0∨(S.cache.length:Int)<(p:Int)∨(S.cache.length:Int)-(p:Int)<(n:Int)
 ·rw [if_pos c1] at he;simp at he
 rw [if_neg c1,if_pos (by omega)] at he ⊢;unfold Dev.persistN at he ⊢;generalize hA:((p:Int)/8).toNat=A at *;generalize hM:(((p:Int)+(n:Int)-1)/8-(p:Int)/8+1).toNat=M at *
 by_cases c2:(S.flushRun A M).err≠0
 ·rw [if_pos c2] at he;exact absurd he c2
 rw [if_neg c2] at he ⊢;obtain ⟨i1,i2,i3,i4⟩:=Dev.flushRun_held h A M (by simpa using c2);have hinv:=Dev.flushRun_inv h A M;generalize (S.flushRun A M).dev=T at *;dsimp only at he ⊢;unfold Dev.fenceE at he
 cases c3:T.stop
 ·have f:=Dev.fence_at hinv.wf c3;refine ⟨f.cache.trans i1,by omega,by rw [f.lenD,i2],fun j h1 h2=>?_,fun l hl=>?_⟩
  ·rw [f.dirty,i2,i1]
   cases hd:S.dirty.getD (j/8) false
   ·rw [if_neg];rintro ⟨_,hp⟩;have:=hinv.pend _ hp;rw [i2,hd] at this
    cases this
   ·have:=i4 (j/8) (by omega) (by omega) hd;have hl:j/8<S.dirty.length:=by
     rcases Nat.lt_or_ge (j/8) S.dirty.length with h | h
     ·exact h
     ·rw [Qhd h] at hd;cases hd
    rw [if_pos ⟨hl,this.1⟩,this.2];simp
  ·rw [f.dirty,i2,if_neg]
   ·exact hl
   ·rintro ⟨_,hp⟩;have:=hinv.pend _ hp;rw [i2,hl] at this
    cases this
 ·rw [c3] at he;simp at he
end
section
section
variable {P:Program} {C:World→Prop} {ops:Array Oper} {rest:List Oper} {o:Oper} {a:Act} {Q:Act→Prop}
theorem Qj3 {x lo:Operand} {t e:TypeId} {z:Value} {size bytes:Nat} (E:Qgg P t e z size bytes) {ad:Option Addr} {n cap:Nat} {k:IntKind} {L:Int} (l:Nat)
  (hL:L=(l:Int)) (hl:l≤n) (hn:n≤cap)
  (hgd:o.guard=none) (ho:o.op=.slice t x (some lo) none none) (hx:a.eval x=.slice ad n cap) (hlo:a.eval lo=.int k L)
  (hK:wpQuiet P ops C Q rest (a.put o.dst (.slice (if cap=l then ad else ad.map (·.add (l*size))) (n-l) (cap-l)))) :
  wpQuiet P ops C Q (o :: rest) a:=by
 subst hL;have hw:Region.wanted o (yielded ops a.tmps)=true:=by simp [Region.wanted,hgd]
 unfold wpQuiet;rw [if_pos hw];refine ⟨_,fun w hC=>?_,hK⟩;have hr:=Qfd (w:=w) E ad n cap l n (some (.int k l)) none (by
  have:(0:Int)≤(l:Int)∧(l:Int)≤(n:Int):=by omega
  simp [Instr.sliceBounds,Instr.sliceBound,asIntOf,hl])
 unfold Oper.quietAt;simp only [execOp,ho,hx,hlo,Option.map_some,Option.map_none]
 simp [hr,Result.andThen,Oper.quietUpon]
end
end
section
open Go.Maps
section
variable {P:Program} {C:World→Prop} {ops:Array Oper} {rest:List Oper} {o:Oper} {a:Act} {Q:Act→Prop}
end
theorem Qcs.cells2 {w:World} {v:Value} {xs:List Nat} (h:Qcs w v xs):∃a c,v=.slice a xs.length c∧Qaq w a (xs.map vi)∧xs.length≤c∧c≤maxLen∧(a=none→c=0):=by
 obtain ⟨a,c,e,h1,h2,h3⟩:=h.cells;refine ⟨a,c,e,h1,h2,h3,fun ha=>?_⟩;subst ha;rcases h with h | ⟨p,h,_⟩
 ·rcases h.2 with ⟨h,_⟩|⟨g,cap,cur,h,_⟩
  ·rw [h] at e;exact (congrArg (fun v=>match v with | .slice _ _ c=>c | _=>0) e).symm
  ·rw [h] at e;cases e
 ·rw [h] at e;cases e
end
section
theorem Jig:Agg Tryz.prog 44 #[.int .i64 0]:=⟨⟨_,Tryz.underlying44,rfl⟩,by kernel_rfl⟩
theorem Jae {w:World} {X:MF} {n B:Nat} {m:Bm} (h:Qfg w X n B m) :
  Calls Tryz.prog 115 #[.pointer (some ⟨X.m,0,none⟩)] w fun e w'=>e=.returned (Qgk (B:Int))∧Below w.heap.size w w':=by
 have HM:=LH (Mem.one w #[.int .i64 0] 44);have c2:=(h.below HM.out.below).c2;clear h;unfold Qgk;go_enter Tryz.func115,Tryz.ntmps115;go_upto_region 1 with fail;generalize w.alloc _=w0 at *;obtain ⟨q,hq⟩:∃q,q=w.heap.size:=⟨_,rfl⟩
 rw [← hq] at HM ⊢;have HQ:=LH hq;clear hq;go_wp2_with (refine Qaa Jig HM.out 0 rfl rfl rfl rfl rfl rfl rfl rfl ?_;intro w9 h9 _;have H9:=LH h9;clear h9)
 refine bodyPost_ret (results_cell_row rfl _ _ _ _ _ _ _ rfl (H9.out.exact 0 rfl) Tryz.underlying44 rfl (by kernel_rfl)) rfl ⟨rfl,H9.out.below⟩
theorem Jb4 {w:World} {X:MF} {n B:Nat} {m:Bm} (h:Qfg w X n B m) (hB:B≤1000) :
  Calls Tryz.prog 24 #[.pointer (some ⟨X.m,0,none⟩)] w fun e w'=>e=.returned (.int .i64 (Qfe (Qhv m.free):Nat))∧Below w.heap.size w w':=by
 have c1:=h.c1;have HI:=LH (Jax h.ix (by rw [h.lenF];omega));clear h;go_enter Tryz.func24,Tryz.ntmps24;go_wp2_with fail;refine HI.out.mono ?_;rintro e w1 ⟨rfl,hb1⟩;go_wp2_with fail
 go_ret
 exact ⟨rfl,hb1⟩
structure Jie where
 steps:Int
 fuse:Int
 dead:Bool
 ok:Bool
def Qd7 (steps fuse:Int) (dead:Bool):Jie:=if dead=true∨fuse=0 then ⟨steps,fuse,true,false⟩ else ⟨steps+1,if 0<fuse then fuse-1 else fuse,dead,true⟩
theorem Qn0 (an al aw ad ap:Option Addr) (m cn cl cw cd cp:Nat) (steps fuse:Int) (dead:Bool) (w:World) (hs:0≤steps∧steps<4611686018427387904) (hf:-1≤fuse∧fuse<9223372036854775808) :
  Calls Tryz.prog 126 #[.agg #[.slice an m cn,.slice al m cl,.slice aw m cw,.slice ad m cd,.slice ap m cp,.int .i64 steps,.int .i64 fuse,.bool dead]] w fun e w' =>
   e=.returned (.tuple #[.agg #[.slice an m cn,.slice al m cl,.slice aw m cw,.slice ad m cd,.slice ap m cp,.int .i64 (Qd7 steps fuse dead).steps,.int .i64 (Qd7 steps fuse dead).fuse,.bool (Qd7 steps fuse dead).dead],.bool (Qd7 steps fuse dead).ok])∧Below w.heap.size w w':=by
 have HM:=LH (Mem.two w #[.slice an m cn,.slice al m cl,.slice aw m cw,.slice ad m cd,.slice ap m cp,.int .i64 steps,.int .i64 fuse,.bool dead] 38 Qfz 38);have HF:Hid (Qd7 steps fuse dead=if dead=true∨fuse=0 then ⟨steps,fuse,true,false⟩ else ⟨steps+1,if 0<fuse then fuse-1 else fuse,dead,true⟩):=LH rfl;generalize Qd7 steps fuse dead=R at *;go_enter Tryz.func126,Tryz.ntmps126;go_upto_region 1 with fail;unfold Qfz at HM;generalize (w.alloc _).alloc _=w0 at *;obtain ⟨q,hq⟩:∃q,q=w.heap.size:=⟨_,rfl⟩
 rw [← hq] at HM ⊢;have HQ:=LH hq;clear hq;have c5:=HM.out.cell 0 5 rfl rfl;have c6:=HM.out.cell 0 6 rfl rfl;have c7:=HM.out.cell 0 7 rfl rfl;have f5:=HM.out.frozen 0 5 rfl;have f6:=HM.out.frozen 0 6 rfl;have f7:=HM.out.frozen 0 7 rfl
 by_cases hst:dead=true∨fuse=0
 ·have HV:Hid (R=⟨steps,fuse,true,false⟩):=LH (by rw [HF.out,if_pos hst]);have HM2:=LH (HM.out.set 0 7 (.bool true) rfl (by simp))
  cases dead
  ·obtain rfl:fuse=0:=by simpa using hst
   clear hst;go_wp2_with (first | (refine Qag Qbk HM2.out 0 rfl rfl rfl rfl rfl ?_) | (refine Qaa Qbk HM2.out 1 rfl rfl rfl rfl rfl rfl rfl rfl ?_;intro w9 h9 _;have H9:=LH h9;clear h9))
   refine bodyPost_ret (Qac (p:=2) (u:=3) rfl _ _ _ _ _ _ _ rfl (H9.out.exact 1 rfl) Tryz.underlying38 rfl (by kernel_rfl)) rfl ⟨by rw [HV.out];rfl,H9.out.below⟩
  ·clear hst;go_wp2_with (first | (refine Qag Qbk HM2.out 0 rfl rfl rfl rfl rfl ?_) | (refine Qaa Qbk HM2.out 1 rfl rfl rfl rfl rfl rfl rfl rfl ?_;intro w9 h9 _;have H9:=LH h9;clear h9))
   refine bodyPost_ret (Qac (p:=2) (u:=3) rfl _ _ _ _ _ _ _ rfl (H9.out.exact 1 rfl) Tryz.underlying38 rfl (by kernel_rfl)) rfl ⟨by rw [HV.out];rfl,H9.out.below⟩
 ·obtain rfl:dead=false:=by cases dead <;> simp_all
  have hne:¬fuse=0:=by simpa using hst
  have hne2:(fuse == 0)=false:=by simpa using hne
  by_cases h0:0<fuse
  ·have HV:Hid (R=⟨steps+1,fuse-1,false,true⟩):=LH (by rw [HF.out,if_neg hst,if_pos h0]);have HM2:=LH ((HM.out.set 0 6 (.int .i64 (fuse-1)) rfl (by simp)).set 0 5 (.int .i64 (steps+1)) rfl (by simp));clear hst hne;go_wp2_with (first | (refine Qag Qbk HM2.out 0 rfl rfl rfl rfl rfl ?_) | (refine Qaa Qbk HM2.out 1 rfl rfl rfl rfl rfl rfl rfl rfl ?_;intro w9 h9 _;have H9:=LH h9;clear h9))
   refine bodyPost_ret (Qac (p:=2) (u:=3) rfl _ _ _ _ _ _ _ rfl (H9.out.exact 1 rfl) Tryz.underlying38 rfl (by kernel_rfl)) rfl ⟨by rw [HV.out];rfl,H9.out.below⟩
  ·have HV:Hid (R=⟨steps+1,fuse,false,true⟩):=LH (by rw [HF.out,if_neg hst,if_neg h0]);have HM2:=LH (HM.out.set 0 5 (.int .i64 (steps+1)) rfl (by simp));clear hst hne;go_wp2_with (first | (refine Qag Qbk HM2.out 0 rfl rfl rfl rfl rfl ?_) | (refine Qaa Qbk HM2.out 1 rfl rfl rfl rfl rfl rfl rfl rfl ?_;intro w9 h9 _;have H9:=LH h9;clear h9))
   refine bodyPost_ret (Qac (p:=2) (u:=3) rfl _ _ _ _ _ _ _ rfl (H9.out.exact 1 rfl) Tryz.underlying38 rfl (by kernel_rfl)) rfl ⟨by rw [HV.out];rfl,H9.out.below⟩
theorem Qlb (a:Option Addr) (n cap:Nat) (ls:List Nat) (w:World) (hc:Qaq w a (ls.map Qad)) (hl:ls.length=8*n) (hn:n≤1000000) :
  Calls Tryz.prog 127 #[.slice a n cap] w (Je6 118 n (ls.map Qad) w):=by
 have hb:=Qaf w (.cells #[] 118);have ho:=World.ownsRow_lit (base:=w.heap.size) (e:=118) (size:=8) w #[] 0 NR (by unfold maxLen;omega) rfl;have HC:=LH (hc.below hb NR);have HL:Hid ((ls.map Qad).length=n*8):=LH (by rw [List.length_map,hl,Nat.mul_comm]);have HO:=LH ho;have HB:=LH hb;have hone:Hid (∀u∈ls.map Qad,u.oneCell'=true):=LH (Qd9 _);have hbase:=LH hb.size;have hn9:0+n<1000000000000:=by omega
 clear hb ho hc hl;go_enter Tryz.func127,Tryz.ntmps127;go_wp2_with (at_builtin;refine Qbb Qw6 HO.out HC.out HL.out hone.out hn9 (by decide) hbase.out rfl rfl rfl rfl ?_;intro v2 w2 ho2 hg2 hv2;have HO2:=LH ho2;have HG2:=LH hg2;have HV2:=LH hv2;clear ho2 hg2 hv2)
 go_ret
 have h2:=HO2.out;rw [Nat.zero_add] at h2;obtain ⟨g,c,rfl,h3,h4,h5,h6⟩:=Qih h2 (fun e=>by have:=(HV2.out e).1;simp at this);exact ⟨g,c,rfl,h3,h4,h5,by simpa using h6,Qav HB.out HO.out HG2.out NR NR⟩
theorem Qy4 (bs:List Bool):∀u∈bs.map Value.bool,u.oneCell'=true:=by
 intro u hu;simp only [List.mem_map] at hu
 obtain ⟨b,_,rfl⟩:=hu
 rfl
theorem Qip (a:Option Addr) (n cap:Nat) (bs:List Bool) (w:World) (hc:Qaq w a (bs.map Value.bool)) (hl:bs.length=n) (hn:n≤1000000) :
  Calls Tryz.prog 128 #[.slice a n cap] w (Je6 4 n (bs.map Value.bool) w):=by
 have hb:=Qaf w (.cells #[] 4);have ho:=World.ownsRow_lit (base:=w.heap.size) (e:=4) (size:=1) w #[] 0 NR (by unfold maxLen;omega) rfl;have HC:=LH (hc.below hb NR);have HL:Hid ((bs.map Value.bool).length=n*1):=LH (by rw [List.length_map,hl,Nat.mul_one]);have HO:=LH ho;have HB:=LH hb;have hone:Hid (∀u∈bs.map Value.bool,u.oneCell'=true):=LH (Qy4 _);have hbase:=LH hb.size;have hn9:0+n<1000000000000:=by omega
 clear hb ho hc hl;go_enter Tryz.func128,Tryz.ntmps128;go_wp2_with (at_builtin;refine Qbb Qte HO.out HC.out HL.out hone.out hn9 (by decide) hbase.out rfl rfl rfl rfl ?_;intro v2 w2 ho2 hg2 hv2;have HO2:=LH ho2;have HG2:=LH hg2;have HV2:=LH hv2;clear ho2 hg2 hv2)
 go_ret
 have h2:=HO2.out;rw [Nat.zero_add] at h2;obtain ⟨g,c,rfl,h3,h4,h5,h6⟩:=Qih h2 (fun e=>by have:=(HV2.out e).1;simp at this);exact ⟨g,c,rfl,h3,h4,h5,by simpa using h6,Qav HB.out HO.out HG2.out NR NR⟩
def Dev.ref (S:Dev):Jds:=⟨S.cache,S.lasting,S.flushed,S.dirty,S.pending,S.steps,if S.armed=true then S.fuse else -1,S.dead⟩
structure Dev.fit (S:Dev) (N:Nat):Prop where
 wf:S.wf
 ok:S.ok N
 arm:S.armed=true→0≤S.fuse
theorem Dev.fit.mono {S:Dev} {N M:Nat} (h:S.fit N) (hM:N≤M):S.fit M:=⟨h.wf,h.ok.mono hM,h.arm⟩
theorem Dev.fit_fuse {S:Dev} {N:Nat} (h:S.fit N):-1≤S.ref.fuse∧S.ref.fuse<9223372036854775808:=by
 unfold Dev.ref;dsimp only;have:=h.ok;unfold Dev.ok at this
 split
 ·rename_i c;have:=h.arm c;omega
 ·omega
theorem Qsw {S:Dev} {N:Nat} (h:S.fit N):(Qd7 S.steps S.ref.fuse S.dead).steps=S.step.steps∧(Qd7 S.steps S.ref.fuse S.dead).fuse=S.step.ref.fuse∧(Qd7 S.steps S.ref.fuse S.dead).dead=S.step.dead∧(Qd7 S.steps S.ref.fuse S.dead).ok = !S.stop:=by
 unfold Qd7 Dev.step Dev.stop Dev.ref;dsimp only;have ha:=h.arm
 cases hd:S.dead
 ·cases hr:S.armed
  ·simp [hr]
  ·by_cases h0:S.fuse=0
   ·simp [h0,hr]
   ·have:=ha hr;have h1:0<S.fuse:=by omega
    simp [h0,h1,hr]
 ·simp
theorem Dev.step_fit {S:Dev} {N:Nat} (h:S.fit N):S.step.fit (N+1):=by
 refine ⟨Dev.step_wf h.wf,Dev.step_ok h.ok,?_⟩;unfold Dev.step;have ha:=h.arm;have hst:S.stop=false→S.armed=true→¬S.fuse=0:=fun h1 h2=>by unfold Dev.stop at h1;simp [h2] at h1;exact h1.2
 cases hs:S.stop
 ·intro c;have c1:=ha c;have c2:=hst hs c;simp at c1 c2 ⊢
  omega
 ·exact ha
theorem Dev.store_dl (S:Dev) (i:Int) (x:Nat):(S.store i x).dirty.length=S.dirty.length:=by
 obtain ⟨e1,e2,e3,e4,e5⟩:=S.step_rest;unfold Dev.store
 split
 ·rfl
 ·split
  ·rw [e4]
  ·simp [Dev.put,e4]
theorem Dev.store_fit {S:Dev} {N:Nat} (h:S.fit N) (i:Int) (x:Nat) (hx:x<18446744073709551616):(S.store i x).fit (N+1):=by
 have h1:=Dev.step_fit h;unfold Dev.store
 split
 ·exact h.mono (by omega)
 ·split
  ·exact h1
  ·have hw:=h1.wf;refine ⟨⟨?_,?_,?_,?_,?_,hw.u64L,?_,hw.u64F⟩,h1.ok,h1.arm⟩
   ·simp [Dev.put,hw.lenL]
   ·simp [Dev.put,hw.lenF]
   ·simp [Dev.put,hw.lenP]
   ·simp [Dev.put,hw.lenD]
   ·simp [Dev.put,hw.small]
   ·exact Qwm hw.u64C _ _ hx
def RIn (v:Value) (b:Nat):Prop:=∃cs,v=.agg cs∧∃(i:Nat) (x:Addr) (n c:Nat),cs[i]?=some (.slice (some x) n c)∧x.block=b
theorem Jg5 {an al aw ad ap:Option Addr} {n1 c1 n2 c2 n3 c3 n4 c4 n5 c5:Nat} {k1 k2:IntKind} {i1 i2:Int} {b1:Bool} {b:Nat} :
  RIn (.agg #[.slice an n1 c1,.slice al n2 c2,.slice aw n3 c3,.slice ad n4 c4,.slice ap n5 c5,.int k1 i1,.int k2 i2,.bool b1]) b↔∃a∈[an,al,aw,ad,ap],∃x,a=some x∧x.block=b:=by
 constructor
 ·rintro ⟨cs,hcs,i,x,n,c,hi,hb⟩;simp only [Value.agg.injEq] at hcs
  subst hcs;rcases i with _ | _ | _ | _ | _ | _ | _ | _ | i
  all_goals first
   | (simp only [List.getElem?_toArray,List.getElem?_cons_zero,List.getElem?_cons_succ,Option.some.injEq,Value.slice.injEq] at hi;exact ⟨_,by simp,x,hi.1,hb⟩)
   | simp at hi
 ·rintro ⟨a,ha,x,rfl,hb⟩;simp only [List.mem_cons,List.not_mem_nil,or_false] at ha
  rcases ha with rfl | rfl | rfl | rfl | rfl
  ·exact ⟨_,rfl,0,x,_,_,rfl,hb⟩
  ·exact ⟨_,rfl,1,x,_,_,rfl,hb⟩
  ·exact ⟨_,rfl,2,x,_,_,rfl,hb⟩
  ·exact ⟨_,rfl,3,x,_,_,rfl,hb⟩
  ·exact ⟨_,rfl,4,x,_,_,rfl,hb⟩
theorem Qh8 {an al aw ad ap an' al' aw' ad' ap':Option Addr} {n1 c1 n2 c2 n3 c3 n4 c4 n5 c5 n1' c1' n2' c2' n3' c3' n4' c4' n5' c5' B:Nat} {i1 i2 i1' i2':Int} {b1 b1':Bool}
  (h:∀a∈[an',al',aw',ad',ap'],a∈[an,al,aw,ad,ap]∨∃g o,a=some ⟨g,o,none⟩∧B≤g) :
  ∀b,RIn (.agg #[.slice an' n1' c1',.slice al' n2' c2',.slice aw' n3' c3',.slice ad' n4' c4',.slice ap' n5' c5',.int .i64 i1',.int .i64 i2',.bool b1']) b→
   RIn (.agg #[.slice an n1 c1,.slice al n2 c2,.slice aw n3 c3,.slice ad n4 c4,.slice ap n5 c5,.int .i64 i1,.int .i64 i2,.bool b1]) b∨B≤b:=by
 intro b hb;rw [Jg5] at hb ⊢;obtain ⟨a,ha,x,rfl,hx⟩:=hb;rcases h _ ha with h | ⟨g,o',h,hg⟩
 ·exact .inl ⟨_,h,x,rfl,hx⟩
 ·cases h
  exact .inr (by dsimp only at hx;omega)
def Qmn (m:Nat) (S:Dev) (code:Int) (v:Value) (w:World):Ending→World→Prop:=fun e w'=>∃v',e=.returned (.tuple #[v',.int .i64 code])∧RAt w' v' m S.ref∧(∀b,RIn v' b→RIn v b∨w.heap.size≤b)∧Below w.heap.size w w'
theorem RAt.touch {w w':World} {v:Value} {m:Nat} {R:Jds} (h:RAt w v m R) {L:List Nat} (ht:Qam L w w') (hL:m=0∨∀b,RIn v b→b∉L):RAt w' v m R:=by
 obtain ⟨an,cn,al,cl,aw,cw,ad,cd,ap,cp,rfl,h1,h2,h3,h4,h5⟩:=h.ex;have key:∀(a:Option Addr) (vs:List Value),a∈[an,al,aw,ad,ap]→(m=0→vs=[])→Qaq w a vs→Qaq w' a vs:=by
  intro a vs ha h0 hc;rcases hc with hc | ⟨b,off,rfl,hc⟩
  ·exact .inl hc
  ·rcases hL with hm | hL
   ·exact .inl (h0 hm)
   ·exact .inr ⟨b,off,rfl,fun i v hi=>Qcd ht (hL b (Jg5.2 ⟨_,ha,_,rfl,rfl⟩)) (hc i v hi)⟩
 have z:∀l:List Nat,l.length=8*m→m=0→l.map Qad=[]:=fun l hl hm=>by subst hm;simp at hl;simp [hl]
 have z2:∀l:List Bool,l.length=m→m=0→l.map Value.bool=[]:=fun l hl hm=>by subst hm;simp at hl;simp [hl]
 exact { h with ex:=⟨an,cn,al,cl,aw,cw,ad,cd,ap,cp,rfl,key _ _ (by simp) (z _ h.lenN) h1,key _ _ (by simp) (z _ h.lenL) h2,key _ _ (by simp) (z _ h.lenW) h3,key _ _ (by simp) (z2 _ h.lenD) h4,key _ _ (by simp) (z2 _ h.lenP) h5⟩ }
theorem RAt.old {w:World} {v:Value} {m:Nat} {R:Jds} (h:RAt w v m R):m=0∨∀b,RIn v b→b<w.heap.size:=by
 by_cases hm:m=0
 ·exact .inl hm
 refine .inr fun b hb=>?_
 obtain ⟨an,cn,al,cl,aw,cw,ad,cd,ap,cp,rfl,h1,h2,h3,h4,h5⟩:=h.ex;rw [Jg5] at hb;obtain ⟨a,ha,x,rfl,rfl⟩:=hb;have key:∀vs:List Value,vs≠[]→Qaq w (some x) vs→x.block<w.heap.size:=by
  intro vs hne hc;rcases hc with hc | ⟨b',off,he,hc⟩
  ·exact absurd hc hne
  ·cases he
   cases vs with
   | nil=>exact absurd rfl hne
   | cons x xs=>exact World.block_lt_of_cell? _ _ (hc 0 x rfl)
 have z:∀l:List Nat,l.length=8*m→l.map Qad≠[]:=fun l hl h=>by simp at h;subst h;simp at hl;omega
 have z2:∀l:List Bool,l.length=m→l.map Value.bool≠[]:=fun l hl h=>by simp at h;subst h;simp at hl;omega
 simp only [List.mem_cons,List.not_mem_nil,or_false] at ha
 rcases ha with rfl | rfl | rfl | rfl | rfl
 ·exact key _ (z _ h.lenN) h1
 ·exact key _ (z _ h.lenL) h2
 ·exact key _ (z _ h.lenW) h3
 ·exact key _ (z2 _ h.lenD) h4
 ·exact key _ (z2 _ h.lenP) h5
theorem Qtf {w W:World} (hb:Below w.heap.size w W) {S:Dev} (hw:S.wf) {m:Nat} (hm:m=S.dirty.length) {an al aw ad ap:Option Addr} {cn cl cw cd cp:Nat} {st fz:Int} {dd:Bool} (hs:st=S.steps) (hf:fz=S.ref.fuse) (hd:dd=S.dead)
  (k1:Qaq W an (S.cache.map Qad)) (k2:Qaq W al (S.lasting.map Qad)) (k3:Qaq W aw (S.flushed.map Qad)) (k4:Qaq W ad (S.dirty.map Value.bool)) (k5:Qaq W ap (S.pending.map Value.bool)) :
  RAt W (.agg #[.slice an m cn,.slice al m cl,.slice aw m cw,.slice ad m cd,.slice ap m cp,.int .i64 st,.int .i64 fz,.bool dd]) m S.ref:=by
 subst hm hs hf hd;exact ⟨⟨_,_,_,_,_,_,_,_,_,_,rfl,k1,k2,k3,k4,k5⟩,hw.lenD,by show S.lasting.length=_;rw [hw.lenL,hw.lenD],by show S.flushed.length=_;rw [hw.lenF,hw.lenD],rfl,hw.lenP,hw.u64C,hw.u64L,hw.u64F⟩
theorem Qxz {w:World} {v:Value} {S:Dev} (h:RAt w v S.dirty.length S.ref) {N:Nat} (hN:N<1000000000000) (hf:S.fit N) (i:Int) (x:Nat) (hx:x<18446744073709551616) (hi:-9223372036854775808≤i∧i≤9223372036854775807) :
  Calls Tryz.prog 77 #[v,.int .i64 i,Qad x] w (Qmn S.dirty.length (S.store i x) (S.storeE i) v w):=by
 obtain ⟨an,cn,al,cl,aw,cw,ad,cd,ap,cp,hv,k1,k2,k3,k4,k5⟩:=h.ex;obtain ⟨m,hm⟩:∃m,m=S.dirty.length:=⟨_,rfl⟩
 have hsm:=hf.wf.small;have hld:=hf.wf.lenD;have hst0:=hf.ok;unfold Dev.ok at hst0;have hfz:=Dev.fit_fuse hf;have HRS:=LH (Qsw hf);have HSF:=LH (Dev.step_fit hf);have HDF:=LH hf;rw [← hm] at hv;subst hv;rw [← hm];have HSt:Hid (S.store i x=if i<0∨(S.cache.length:Int)≤i then S else if S.stop then S.step else S.step.put i.toNat x):=LH rfl;have HSE:Hid (S.storeE i=if i<0∨(S.cache.length:Int)≤i then 2 else if S.stop then 3 else 0):=LH rfl;generalize hPo:Qmn m (S.store i x) (S.storeE i) _ w=Post;have HPo:=LH hPo;rw [← hm] at hld;have HMm:=LH hm;have hcl:S.cache.length=8*m:=hld;have HCL:=LH hcl;have hm8:m≤125000:=by omega
 have e1:S.ref.steps=S.steps:=rfl;have e2:S.ref.dead=S.dead:=rfl;have e3:S.ref.now=S.cache:=rfl;have e4:S.ref.last=S.lasting:=rfl;have e5:S.ref.wait=S.flushed:=rfl;have e6:S.ref.dirty=S.dirty:=rfl;have e7:S.ref.pending=S.pending:=rfl;rw [e3] at k1;rw [e4] at k2;rw [e5] at k3;rw [e6] at k4;rw [e7] at k5;rw [e1,e2];clear e1 e2 e3 e4 e5 e6 e7 hPo hm hcl hld hsm hf h;generalize hsv:S.steps=sv at *;generalize hfv:S.ref.fuse=fz at *;generalize hdv:S.dead=dd at *;have HV:=LH (And.intro hsv (And.intro hfv hdv));have K1:=LH k1;have K2:=LH k2;have K3:=LH k3;have K4:=LH k4;have K5:=LH k5;clear k1 k2 k3 k4 k5;clear hsv hfv hdv;have HM:=LH (Mem.two w #[.slice an m cn,.slice al m cl,.slice aw m cw,.slice ad m cd,.slice ap m cp,.int .i64 sv,.int .i64 fz,.bool dd] 38 Qfz 38);unfold Qfz at HM;go_enter Tryz.func77,Tryz.ntmps77;go_upto_region 1 with fail;generalize (w.alloc _).alloc _=w0 at *;obtain ⟨q,hq⟩:∃q,q=w.heap.size:=⟨_,rfl⟩
 rw [← hq] at HM ⊢;have HQ:=LH hq;clear hq;have c0:=HM.out.cell 0 0 rfl rfl
 by_cases h0:i<0∨(S.cache.length:Int)≤i
 ·have hbad:Hid (S.store i x=S∧S.storeE i=2):=LH (by rw [HSt.out,HSE.out,if_pos h0,if_pos h0];exact ⟨rfl,rfl⟩);have h0':i<0∨8*(m:Int)≤i:=by have:=HCL.out;omega
  clear h0
  by_cases h1:i<0
  ·go_wp2_with (first | (refine Qag Qbk HM.out 0 rfl rfl rfl rfl rfl ?_) | (refine Qaa Qbk HM.out 1 rfl rfl rfl rfl rfl rfl rfl rfl ?_;intro w9 h9 _;have H9:=LH h9;clear h9))
   refine bodyPost_ret (Qac (p:=6) (u:=7) rfl _ _ _ _ _ _ _ rfl (H9.out.exact 1 rfl) Tryz.underlying38 rfl (by kernel_rfl)) rfl ?_;rw [← HPo.out,hbad.out.1,hbad.out.2];exact ⟨_,rfl,Qtf H9.out.below HDF.out.wf HMm.out HV.out.1.symm HV.out.2.1.symm HV.out.2.2.symm (K1.out.below H9.out.below NR) (K2.out.below H9.out.below NR) (K3.out.below H9.out.below NR) (K4.out.below H9.out.below NR) (K5.out.below H9.out.below NR),Qh8 (fun a ha=>.inl ha),H9.out.below⟩
  ·have h2:8*(m:Int)≤i:=by omega
   clear h0';go_wp2_with (first | (refine Qag Qbk HM.out 0 rfl rfl rfl rfl rfl ?_) | (refine Qaa Qbk HM.out 1 rfl rfl rfl rfl rfl rfl rfl rfl ?_;intro w9 h9 _;have H9:=LH h9;clear h9))
   refine bodyPost_ret (Qac (p:=6) (u:=7) rfl _ _ _ _ _ _ _ rfl (H9.out.exact 1 rfl) Tryz.underlying38 rfl (by kernel_rfl)) rfl ?_;rw [← HPo.out,hbad.out.1,hbad.out.2];exact ⟨_,rfl,Qtf H9.out.below HDF.out.wf HMm.out HV.out.1.symm HV.out.2.1.symm HV.out.2.2.symm (K1.out.below H9.out.below NR) (K2.out.below H9.out.below NR) (K3.out.below H9.out.below NR) (K4.out.below H9.out.below NR) (K5.out.below H9.out.below NR),Qh8 (fun a ha=>.inl ha),H9.out.below⟩
 obtain ⟨j,rfl⟩:=Int.eq_ofNat_of_zero_le (show 0≤i by omega);have hjm:(j:Int)<8*(m:Int):=by have:=HCL.out;omega
 have hStop:Hid (S.store (j:Int) x=(if S.stop then S.step else S.step.put j x)∧S.storeE (j:Int)=if S.stop then 3 else 0):=LH (by rw [HSt.out,HSE.out,if_neg h0,if_neg h0];exact ⟨rfl,rfl⟩);clear h0;go_upto_region 3 with fail;go_wp2_with (refine Qag Qbk HM.out 0 rfl rfl rfl rfl rfl ?_)
 refine (Qn0 an al aw ad ap m cn cl cw cd cp sv fz dd _ (by omega) hfz).mono ?_;rintro e w1 ⟨rfl,hb1⟩;rw [HRS.out.1,HRS.out.2.1,HRS.out.2.2.1,HRS.out.2.2.2];have HM1:=LH (HM.out.later hb1);clear hb1 HM c0;obtain ⟨r1,r2,r3,r4,r5⟩:=S.step_rest;have HSr:=LH (S.step_rest);clear r1 r2 r3 r4 r5;generalize hsv:S.step.steps=sv1 at *;generalize hfv:S.step.ref.fuse=fz1 at *;generalize hdv:S.step.dead=dd1 at *;have HV1:=LH (And.intro hsv (And.intro hfv hdv));clear hsv hfv hdv;generalize hstop:S.stop=st at *;have HStp:=LH hstop;clear hstop;go_upto_region 4 with (refine Qaa Qbk HM1.out 0 rfl rfl rfl rfl rfl rfl rfl rfl ?_;intro w2 h2 _;have HM2:=LH h2;clear h2)
 clear HM1
 cases st
 case true =>
  go_wp2_with (first | (refine Qag Qbk HM2.out 0 rfl rfl rfl rfl rfl ?_) | (refine Qaa Qbk HM2.out 1 rfl rfl rfl rfl rfl rfl rfl rfl ?_;intro w9 h9 _;have H9:=LH h9;clear h9))
  refine bodyPost_ret (Qac (p:=6) (u:=7) rfl _ _ _ _ _ _ _ rfl (H9.out.exact 1 rfl) Tryz.underlying38 rfl (by kernel_rfl)) rfl ?_;rw [← HPo.out,hStop.out.1,hStop.out.2,if_pos trivial,if_pos trivial];obtain ⟨r1,r2,r3,r4,r5⟩:=HSr.out;refine ⟨_,rfl,Qtf H9.out.below HSF.out.wf (by rw [r4];exact HMm.out) HV1.out.1.symm HV1.out.2.1.symm HV1.out.2.2.symm ?_ ?_ ?_ ?_ ?_,Qh8 (fun a ha=>.inl ha),H9.out.below⟩
  ·rw [r2];exact K1.out.below H9.out.below NR
  ·rw [r1];exact K2.out.below H9.out.below NR
  ·rw [r3];exact K3.out.below H9.out.below NR
  ·rw [r4];exact K4.out.below H9.out.below NR
  ·rw [r5];exact K5.out.below H9.out.below NR
 case false =>
  have c0:=HM2.out.cell 0 0 rfl rfl;have c3:=HM2.out.cell 0 3 rfl rfl;go_upto_region 6 with fail;have r0:=fun x=>Qab c0 x
  have r3:=fun x=>Qab c3 x
  refine Qai (C:=fun w'=>∃x:Qbi (w2),w'=x.val) [.fl [0,1,3,4],.sq [2] true,.fl [6],.sq [5] true,.sq [7,8,9] false] (by kernel_rfl) (by kernel_rfl) (by intro c a d v w h;cases d <;> exact h) ?_;simp only [Qdj,Qa3,List.getElem?_cons_succ,List.getElem?_cons_zero]
  have hC1:=Qaj (w2);refine Qak hC1 ?_
  repeat (first|go_big_quiet_step (fail)|quiet_step (fail))
  refine wpQuiet_nil ?_;refine Qah (fun K hK=>?_);go_wp2_with fail;have HM3:=LH (HM2.out.later (Qae hC1));refine (Qlb an m cn S.cache _ (K1.out.below HM3.out.below NR) HCL.out (by omega)).mono ?_;rintro e w3 ⟨g1,cg1,rfl,hg1,hc1,hm1,hr1,hb3⟩;have hC2:=Qan hC1 hb3;have HM4:=LH (HM3.out.row hb3 hr1 hg1);clear hr1 hb3 HM3;go_wp2_with fail;refine hK _ _ (fun _=>hC2) ?_;clear hK K;refine Qak hC2 ?_
  repeat (first|go_big_quiet_step (fail)|quiet_step (fail))
  refine wpQuiet_nil ?_;refine Qah (fun K hK=>?_);go_wp2_with fail;refine (Qip ad m cd S.dirty _ (K4.out.below HM4.out.below NR) HMm.out.symm (by omega)).mono ?_;rintro e w4 ⟨g2,cg2,rfl,hg2,hc2,hm2,hr2,hb4⟩;have hC3:=Qan hC2 hb4;have HM5:=LH (HM4.out.row hb4 hr2 hg2);clear hr2 hb4 HM4;go_wp2_with fail;refine hK _ _ (fun _=>hC3) ?_;clear hK K;refine Qal ?_;have f0:=HM5.out.frozen 0 0 rfl;have f3:=HM5.out.frozen 0 3 rfl;have c0':=HM5.out.cell 0 0 rfl rfl;have c3':=HM5.out.cell 0 3 rfl rfl;go_upto_region 7 with fail;have HM6:=LH ((HM5.out.set 0 0 (.slice (some ⟨g1,0,none⟩) m cg1) rfl (by simp)).set 0 3 (.slice (some ⟨g2,0,none⟩) m cg2) rfl (by simp));clear HM5 HM2 hC1 hC2 hC3 r0 r3 c0 c3 f0 f3 c0' c3';generalize (w4.setCell _ _).setCell _ _=w5 at *;have c0:=HM6.out.cell 0 0 rfl rfl;have c3:=HM6.out.cell 0 3 rfl rfl;have hlt:j/8*8+j % 8<(S.cache.map Qad).length:=by rw [List.length_map,HCL.out];omega
  have hlt2:j/8<(S.dirty.map Value.bool).length:=by rw [List.length_map,← HMm.out];omega
  have d1:=HM6.out.cell 2 (j/8*8+j % 8) rfl (GE hlt);have f1:=HM6.out.frozen 2 (j/8*8+j % 8) rfl;have HM7:=LH ((HM6.out.set 2 (j/8*8+j % 8) (Qad x) rfl hlt).set 3 (j/8) (.bool true) rfl hlt2);have HM7a:=LH (HM6.out.set 2 (j/8*8+j % 8) (Qad x) rfl hlt);generalize (S.cache.map Qad)[j/8*8+j % 8]=old at d1;clear hlt;have hq3:0≤(j:Int)/8:=by omega
  have hq4:((j:Int)/8).toNat=j/8:=by omega
  have hq5:(j:Int)/8<(m:Int):=by omega
  have hq5n:j/8<m:=by omega
  have hq6:0≤(j:Int) % 8:=by omega
  have hq7:((j:Int) % 8).toNat=j % 8:=by omega
  have hq8:(j:Int) % 8<8:=by omega
  have hq9:j % 8<8:=by omega
  have hq2:(j:Int).tmod 8=(j:Int) % 8:=Int.tmod_eq_emod_of_nonneg (by omega);have hq1:IntKind.i64.wrap ((j:Int)/8)=(j:Int)/8:=IntWalk.i64_in _ (by omega);go_upto_region 8 with fail;clear d1 f1 c0 c3 HM6;generalize w5.setCell _ _=w6 at *;have c3:=HM7a.out.cell 0 3 rfl rfl;have d1:=HM7a.out.cell 3 (j/8) rfl (GE hlt2);have f1:=HM7a.out.frozen 3 (j/8) rfl;generalize (S.dirty.map Value.bool)[j/8]=old2 at d1;clear hlt2;go_wp2_with (first | (refine Qag Qbk HM7.out 0 rfl rfl rfl rfl rfl ?_) | (refine Qaa Qbk HM7.out 1 rfl rfl rfl rfl rfl rfl rfl rfl ?_;intro w9 h9 _;have H9:=LH h9;clear h9))
  refine bodyPost_ret (Qac (p:=6) (u:=7) rfl _ _ _ _ _ _ _ rfl (H9.out.exact 1 rfl) Tryz.underlying38 rfl (by kernel_rfl)) rfl ?_;rw [← HPo.out,hStop.out.1,hStop.out.2,if_neg (by simp),if_neg (by simp)];obtain ⟨r1,r2,r3,r4,r5⟩:=HSr.out;have hwf:(S.step.put j x).wf:=by
   have hw:=HSF.out.wf;refine ⟨?_,?_,?_,?_,?_,hw.u64L,?_,hw.u64F⟩
   ·simp [Dev.put,hw.lenL]
   ·simp [Dev.put,hw.lenF]
   ·simp [Dev.put,hw.lenP]
   ·simp [Dev.put,hw.lenD]
   ·simp [Dev.put,hw.small]
   ·exact Qwm hw.u64C _ _ hx
  refine ⟨_,rfl,Qtf H9.out.below hwf (by simp [Dev.put,r4];exact HMm.out) HV1.out.1.symm HV1.out.2.1.symm HV1.out.2.2.symm ?_ ?_ ?_ ?_ ?_,Qh8 (by have q1:=H9.out.gbase 2 rfl;have q2:=H9.out.gbase 3 rfl;intro a ha;simp only [List.mem_cons,List.not_mem_nil,or_false] at ha ⊢;rcases ha with rfl | rfl | rfl | rfl | rfl <;> first | exact .inr ⟨_,_,rfl,q1⟩ | exact .inr ⟨_,_,rfl,q2⟩ | simp),H9.out.below⟩
  ·have h:=(H9.out.at 2 rfl).cells;rw [show (S.step.put j x).cache=S.cache.set j x by simp [Dev.put,r2],Qjb]
   rwa [show j/8*8+j % 8=j by omega] at h
  ·rw [show (S.step.put j x).lasting=S.lasting by simp [Dev.put,r1]];exact K2.out.below H9.out.below NR
  ·rw [show (S.step.put j x).flushed=S.flushed by simp [Dev.put,r3]];exact K3.out.below H9.out.below NR
  ·have h:=(H9.out.at 3 rfl).cells;rw [show (S.step.put j x).dirty=S.dirty.set (j/8) true by simp [Dev.put,r4],Qdw];exact h
  ·rw [show (S.step.put j x).pending=S.pending by simp [Dev.put,r5]];exact K5.out.below H9.out.below NR
structure Qiw (w:World) (S:Dev) (an al aw ad ap:Option Addr) (m:Nat) (sv fz:Int) (dd:Bool):Prop where
 k1:Qaq w an (S.cache.map Qad)
 k2:Qaq w al (S.lasting.map Qad)
 k3:Qaq w aw (S.flushed.map Qad)
 k4:Qaq w ad (S.dirty.map Value.bool)
 k5:Qaq w ap (S.pending.map Value.bool)
 hm:m=S.dirty.length
 hs:sv=S.steps
 hf:fz=S.ref.fuse
 hd:dd=S.dead
 cl:S.cache.length=8*m
theorem Jat {w:World} {v:Value} {S:Dev} (h:RAt w v S.dirty.length S.ref) {N:Nat} (hf:S.fit N) :
  ∃an cn al cl aw cw ad cd ap cp m sv fz dd,v=.agg #[.slice an m cn,.slice al m cl,.slice aw m cw,.slice ad m cd,.slice ap m cp,.int .i64 sv,.int .i64 fz,.bool dd]∧Qiw w S an al aw ad ap m sv fz dd∧S.dirty.length=m∧m≤125000∧(0≤sv∧sv≤N)∧(-1≤fz∧fz<9223372036854775808):=by
 obtain ⟨an,cn,al,cl,aw,cw,ad,cd,ap,cp,rfl,k1,k2,k3,k4,k5⟩:=h.ex;have h1:=hf.ok;unfold Dev.ok at h1;have h2:=hf.wf.small;have h3:=hf.wf.lenD;exact ⟨an,cn,al,cl,aw,cw,ad,cd,ap,cp,_,_,_,_,rfl,⟨k1,k2,k3,k4,k5,rfl,rfl,rfl,rfl,h3⟩,rfl,by omega,⟨h1.1,h1.2.1⟩,Dev.fit_fuse hf⟩
theorem Qiw.below {w W:World} {S:Dev} {an al aw ad ap:Option Addr} {m:Nat} {sv fz:Int} {dd:Bool} (h:Qiw w S an al aw ad ap m sv fz dd) (hb:Below w.heap.size w W):Qiw W S an al aw ad ap m sv fz dd :=
 ⟨h.k1.below hb NR,h.k2.below hb NR,h.k3.below hb NR,h.k4.below hb NR,h.k5.below hb NR,h.hm,h.hs,h.hf,h.hd,h.cl⟩
theorem Qiw.rat {W:World} {S:Dev} {an al aw ad ap:Option Addr} {m:Nat} {sv fz:Int} {dd:Bool} {cn cl cw cd cp:Nat} (h:Qiw W S an al aw ad ap m sv fz dd) (hw:S.wf) :
  RAt W (.agg #[.slice an m cn,.slice al m cl,.slice aw m cw,.slice ad m cd,.slice ap m cp,.int .i64 sv,.int .i64 fz,.bool dd]) m S.ref :=
 Qtf (Below.refl _ _) hw h.hm h.hs h.hf h.hd h.k1 h.k2 h.k3 h.k4 h.k5
theorem Qiw.step {W:World} {S:Dev} {an al aw ad ap:Option Addr} {m:Nat} {sv fz:Int} {dd:Bool} (h:Qiw W S an al aw ad ap m sv fz dd) {N:Nat} (hf:S.fit N) :
  Qiw W S.step an al aw ad ap m (Qd7 sv fz dd).steps (Qd7 sv fz dd).fuse (Qd7 sv fz dd).dead∧(Qd7 sv fz dd).ok = !S.stop:=by
 obtain ⟨r1,r2,r3,r4,r5⟩:=S.step_rest;obtain ⟨k1,k2,k3,k4,k5,rfl,rfl,rfl,rfl,hc⟩:=h;obtain ⟨q1,q2,q3,q4⟩:=Qsw hf;exact ⟨⟨by rw [r2];exact k1,by rw [r1];exact k2,by rw [r3];exact k3,by rw [r4];exact k4,by rw [r5];exact k5,by rw [r4],q1,q2,q3,by rw [r2];exact hc⟩,q4⟩
theorem Dev.hold_wf {S:Dev} (h:S.wf) (j:Nat) (hj:j<S.dirty.length):(S.hold j).wf:=by
 have hs:=Qbv S.cache j (by have:=h.lenD;omega);unfold Dev.hold
 split
 ·exact ⟨h.lenL,by show (splice _ _ _).length=_;rw [length_splice _ _ _ (by rw [hs,h.lenF,h.lenD];omega)];exact h.lenF,by simp [h.lenP],h.lenD,h.small,h.u64L,h.u64C,Qfp _ h.u64F (Qpg _ h.u64C)⟩
 ·exact h
theorem Dev.flush_fit {S:Dev} {N:Nat} (h:S.fit N) (j:Int):(S.flush j).fit (N+1):=by
 have h1:=Dev.step_fit h;unfold Dev.flush
 split
 ·exact h.mono (by omega)
 ·split
  ·exact h1
  ·rename_i c _
   have e4:=S.step_rest.2.2.2.1;refine ⟨Dev.hold_wf h1.wf _ (by rw [e4];omega),?_,?_⟩
   ·have:=Dev.hold_same S.step j.toNat;unfold Dev.ok;rw [this.1,this.2];exact h1.ok
   ·unfold Dev.hold
    split <;> exact h1.arm
theorem Dev.flush_dl (S:Dev) (j:Int):(S.flush j).dirty.length=S.dirty.length:=by rw [(Dev.flush_len S j).2]
theorem Jin {α:Type} {l:List α} (h:l.length=8):∃a0 a1 a2 a3 a4 a5 a6 a7,l=[a0,a1,a2,a3,a4,a5,a6,a7]:=by
 match l,h with
 | [a0,a1,a2,a3,a4,a5,a6,a7],_=>exact ⟨a0,a1,a2,a3,a4,a5,a6,a7,rfl⟩
theorem Qg5 {W:World} {an:Option Addr} {l:List Nat} {m j:Nat} (h:Qaq W an (l.map Qad)) (hl:l.length=8*m) (hj:j<m) :
  ∃b off a0 a1 a2 a3 a4 a5 a6 a7,an=some ⟨b,off,none⟩∧seg l j=[a0,a1,a2,a3,a4,a5,a6,a7]∧W.cell? ⟨b,off+j*8,none⟩=some (Qad a0)∧W.cell? ⟨b,off+j*8+1,none⟩=some (Qad a1)∧W.cell? ⟨b,off+j*8+2,none⟩=some (Qad a2)∧
   W.cell? ⟨b,off+j*8+3,none⟩=some (Qad a3)∧W.cell? ⟨b,off+j*8+4,none⟩=some (Qad a4)∧W.cell? ⟨b,off+j*8+5,none⟩=some (Qad a5)∧W.cell? ⟨b,off+j*8+6,none⟩=some (Qad a6)∧W.cell? ⟨b,off+j*8+7,none⟩=some (Qad a7):=by
 obtain ⟨a0,a1,a2,a3,a4,a5,a6,a7,e⟩:=Jin (Qbv l j (by omega));rcases h with h | ⟨b,off,rfl,hc⟩
 ·have:=congrArg List.length h;simp at this
  subst this;simp at hl
  omega
 ·have hk:∀k x,[a0,a1,a2,a3,a4,a5,a6,a7][k]?=some x→W.cell? ⟨b,off+j*8+k,none⟩=some (Qad x):=fun k x hx=>by
   have hk8:k<8:=by have:=(List.getElem?_eq_some_iff.1 hx).1;simpa using this
   have:=Jbh l j k hk8;rw [e,hx] at this;rw [show off+j*8+k=off+(8*j+k) by omega];exact hc _ _ (by rw [List.getElem?_map,← this];rfl)
  exact ⟨b,off,a0,a1,a2,a3,a4,a5,a6,a7,rfl,e,hk 0 a0 rfl,hk 1 a1 rfl,hk 2 a2 rfl,hk 3 a3 rfl,hk 4 a4 rfl,hk 5 a5 rfl,hk 6 a6 rfl,hk 7 a7 rfl⟩
theorem Qou {l:List Nat} {j:Nat} {a0 a1 a2 a3 a4 a5 a6 a7:Nat} {s:List Nat} (h:seg s j=[a0,a1,a2,a3,a4,a5,a6,a7]):splice (l.map Qad) (j*8) [Qad a0,Qad a1,Qad a2,Qad a3,Qad a4,Qad a5,Qad a6,Qad a7]=(splice l (8*j) (seg s j)).map Qad:=by
 rw [h,← Qfj,Nat.mul_comm];rfl
theorem Jcf:Agg Tryz.prog 118 #[Qad 0,Qad 0,Qad 0,Qad 0,Qad 0,Qad 0,Qad 0,Qad 0]:=⟨⟨_,Tryz.underlying118,rfl⟩,by kernel_rfl⟩
theorem Qyv {w:World} {v:Value} {S:Dev} (h:RAt w v S.dirty.length S.ref) {N:Nat} (hN:N<1000000000000) (hf:S.fit N) (i:Int) :
  Calls Tryz.prog 129 #[v,.int .i64 i] w (Qmn S.dirty.length (S.flush i) (S.flushE i) v w):=by
 obtain ⟨an,cn,al,cl,aw,cw,ad,cd,ap,cp,m,sv,fz,dd,rfl,ho,hdl,hm8,hsv,hfz⟩:=Jat h hf;have HRS:=fun W (h:Qiw W S an al aw ad ap m sv fz dd)=>h.step hf
 have HSF:=LH (Dev.step_fit hf);have HDF:=LH hf;rw [hdl];have HSt:Hid (S.flush i=if i<0∨(S.dirty.length:Int)≤i then S else if S.stop then S.step else S.step.hold i.toNat):=LH rfl;have HSE:Hid (S.flushE i=if i<0∨(S.dirty.length:Int)≤i then 2 else if S.stop then 3 else 0):=LH rfl;generalize hpo:Qmn m (S.flush i) (S.flushE i) _ w=Post;have HPO:=LH hpo;have HDL:=LH hdl;have HO:=LH ho;clear hpo hdl ho;clear hf h;have HM:=LH (Mem.two w #[.slice an m cn,.slice al m cl,.slice aw m cw,.slice ad m cd,.slice ap m cp,.int .i64 sv,.int .i64 fz,.bool dd] 38 Qfz 38);unfold Qfz at HM;go_enter Tryz.func129,Tryz.ntmps129;go_upto_region 1 with fail;generalize (w.alloc _).alloc _=w0 at *;obtain ⟨q,hq⟩:∃q,q=w.heap.size:=⟨_,rfl⟩
 rw [← hq] at HM ⊢;have HQ:=LH hq;clear hq;have c0:=HM.out.cell 0 0 rfl rfl
 by_cases h0:i<0∨(S.dirty.length:Int)≤i
 ·have hbad:Hid (S.flush i=S∧S.flushE i=2):=LH (by rw [HSt.out,HSE.out,if_pos h0,if_pos h0];exact ⟨rfl,rfl⟩);rw [HDL.out] at h0
  by_cases h1:i<0
  ·clear h0;go_wp2_with (first | (refine Qag Qbk HM.out 0 rfl rfl rfl rfl rfl ?_) | (refine Qaa Qbk HM.out 1 rfl rfl rfl rfl rfl rfl rfl rfl ?_;intro w9 h9 _;have H9:=LH h9;clear h9))
   refine bodyPost_ret (Qac (p:=4) (u:=5) rfl _ _ _ _ _ _ _ rfl (H9.out.exact 1 rfl) Tryz.underlying38 rfl (by kernel_rfl)) rfl ?_;rw [← HPO.out,hbad.out.1,hbad.out.2];exact ⟨_,rfl,(HO.out.below H9.out.below).rat HDF.out.wf,Qh8 (fun a ha=>.inl ha),H9.out.below⟩
  ·have h2:(m:Int)≤i:=by omega
   clear h0;go_wp2_with (first | (refine Qag Qbk HM.out 0 rfl rfl rfl rfl rfl ?_) | (refine Qaa Qbk HM.out 1 rfl rfl rfl rfl rfl rfl rfl rfl ?_;intro w9 h9 _;have H9:=LH h9;clear h9))
   refine bodyPost_ret (Qac (p:=4) (u:=5) rfl _ _ _ _ _ _ _ rfl (H9.out.exact 1 rfl) Tryz.underlying38 rfl (by kernel_rfl)) rfl ?_;rw [← HPO.out,hbad.out.1,hbad.out.2];exact ⟨_,rfl,(HO.out.below H9.out.below).rat HDF.out.wf,Qh8 (fun a ha=>.inl ha),H9.out.below⟩
 obtain ⟨j,rfl⟩:=Int.eq_ofNat_of_zero_le (show 0≤i by omega);have hjm:j<m:=by rw [HDL.out] at h0;omega
 have hjm':(j:Int)<(m:Int):=by omega
 have hStop:Hid (S.flush (j:Int)=(if S.stop then S.step else S.step.hold j)∧S.flushE (j:Int)=if S.stop then 3 else 0):=LH (by rw [HSt.out,HSE.out,if_neg h0,if_neg h0];exact ⟨rfl,rfl⟩);clear h0;go_upto_region 3 with fail;go_wp2_with (refine Qag Qbk HM.out 0 rfl rfl rfl rfl rfl ?_)
 refine (Qn0 an al aw ad ap m cn cl cw cd cp sv fz dd _ (by omega) hfz).mono ?_;rintro e w1 ⟨rfl,hb1⟩;have HM1:=LH (HM.out.later hb1);have HO1:=LH (HRS w1 (HO.out.below HM1.out.below)).1;rw [(HRS w1 (HO.out.below HM1.out.below)).2];clear hb1 HM c0 HRS;have HSr:=LH (S.step_rest);generalize (Qd7 sv fz dd).steps=sv1 at *;generalize (Qd7 sv fz dd).fuse=fz1 at *;generalize (Qd7 sv fz dd).dead=dd1 at *;generalize hstop:S.stop=st at *;have HStp:=LH hstop;clear hstop;go_upto_region 4 with (refine Qaa Qbk HM1.out 0 rfl rfl rfl rfl rfl rfl rfl rfl ?_;intro w2 h2 ht2;have HM2:=LH h2;have HT2:=LH ht2;clear h2 ht2)
 have HO2:=LH (HO.out.below HM2.out.below);clear HM1
 cases st
 case true =>
  go_wp2_with (first | (refine Qag Qbk HM2.out 0 rfl rfl rfl rfl rfl ?_) | (refine Qaa Qbk HM2.out 1 rfl rfl rfl rfl rfl rfl rfl rfl ?_;intro w9 h9 _;have H9:=LH h9;clear h9))
  refine bodyPost_ret (Qac (p:=4) (u:=5) rfl _ _ _ _ _ _ _ rfl (H9.out.exact 1 rfl) Tryz.underlying38 rfl (by kernel_rfl)) rfl ?_;rw [← HPO.out,hStop.out.1,hStop.out.2,if_pos trivial,if_pos trivial];have h1:=HO1.out;refine ⟨_,rfl,Qiw.rat ⟨?_,?_,?_,?_,?_,h1.hm,h1.hs,h1.hf,h1.hd,h1.cl⟩ HSF.out.wf,Qh8 (fun a ha=>.inl ha),H9.out.below⟩
  ·rw [HSr.out.2.1];exact HO.out.k1.below H9.out.below NR
  ·rw [HSr.out.1];exact HO.out.k2.below H9.out.below NR
  ·rw [HSr.out.2.2.1];exact HO.out.k3.below H9.out.below NR
  ·rw [HSr.out.2.2.2.1];exact HO.out.k4.below H9.out.below NR
  ·rw [HSr.out.2.2.2.2];exact HO.out.k5.below H9.out.below NR
 case false =>
  have c3:=HM2.out.cell 0 3 rfl rfl;have hjd:j<S.dirty.length:=by have:=HDL.out;omega
  have HHold:Hid (S.step.hold j=if S.step.dirty.getD j false then { S.step with pending:=S.step.pending.set j true,flushed:=splice S.step.flushed (8*j) (seg S.step.cache j) } else S.step):=LH rfl;obtain ⟨b3,o3,rfl,_,hcs⟩:=HO2.out.k4.atMap false hjd;have d0:=hcs j hjd;clear hcs;have HDY:Hid (S.dirty.getD j false=S.step.dirty.getD j false):=LH (by rw [HSr.out.2.2.2.1]);generalize hdy:S.dirty.getD j false=dy at *;clear hjd;have HDY2:=LH hdy;clear hdy
  cases dy
  case false =>
   go_wp2_with (first | (refine Qag Qbk HM2.out 0 rfl rfl rfl rfl rfl ?_) | (refine Qaa Qbk HM2.out 1 rfl rfl rfl rfl rfl rfl rfl rfl ?_;intro w9 h9 _;have H9:=LH h9;clear h9))
   refine bodyPost_ret (Qac (p:=4) (u:=5) rfl _ _ _ _ _ _ _ rfl (H9.out.exact 1 rfl) Tryz.underlying38 rfl (by kernel_rfl)) rfl ?_;rw [← HPO.out,hStop.out.1,hStop.out.2,if_neg (by simp),if_neg (by simp),HHold.out,← HDY.out,if_neg (by simp)];have h1:=HO1.out;refine ⟨_,rfl,Qiw.rat ⟨?_,?_,?_,?_,?_,h1.hm,h1.hs,h1.hf,h1.hd,h1.cl⟩ HSF.out.wf,Qh8 (fun a ha=>.inl ha),H9.out.below⟩
   ·rw [HSr.out.2.1];exact HO.out.k1.below H9.out.below NR
   ·rw [HSr.out.1];exact HO.out.k2.below H9.out.below NR
   ·rw [HSr.out.2.2.1];exact HO.out.k3.below H9.out.below NR
   ·rw [HSr.out.2.2.2.1];exact HO.out.k4.below H9.out.below NR
   ·rw [HSr.out.2.2.2.2];exact HO.out.k5.below H9.out.below NR
  case true =>
   have c2:=HM2.out.cell 0 2 rfl rfl;have c4:=HM2.out.cell 0 4 rfl rfl;go_upto_region 7 with fail;have r2:=fun x=>Qab c2 x
   have r4:=fun x=>Qab c4 x
   refine Qai (C:=fun w'=>∃x:Qbi (w2),w'=x.val) [.fl [0,1,3,4],.sq [2] true,.fl [6],.sq [5] true,.sq [7,8,9] false] (by kernel_rfl) (by kernel_rfl) (by intro c a d v w h;cases d <;> exact h) ?_;simp only [Qdj,Qa3,List.getElem?_cons_succ,List.getElem?_cons_zero]
   have hC1:=Qaj (w2);refine Qak hC1 ?_
   repeat (first|go_big_quiet_step (fail)|quiet_step (fail))
   refine wpQuiet_nil ?_;refine Qah (fun K hK=>?_);go_wp2_with fail;have HM3:=LH (HM2.out.later (Qae hC1));have HCL:Hid (S.flushed.length=8*m∧S.pending.length=m):=LH (by
    have h1:=HDF.out.wf.lenF;have h2:=HDF.out.wf.lenP;have h3:=HO.out.cl;have h4:=HDL.out
    omega)
   refine (Qlb aw m cw S.flushed _ (HO.out.k3.below HM3.out.below NR) HCL.out.1 (by omega)).mono ?_;rintro e w3 ⟨g1,cg1,rfl,hg1,hc1,hm1,hr1,hb3⟩;have hC2:=Qan hC1 hb3;have HM4:=LH (HM3.out.row hb3 hr1 hg1);clear hr1 hb3 HM3;go_wp2_with fail;refine hK _ _ (fun _=>hC2) ?_;clear hK K;refine Qak hC2 ?_
   repeat (first|go_big_quiet_step (fail)|quiet_step (fail))
   refine wpQuiet_nil ?_;refine Qah (fun K hK=>?_);go_wp2_with fail;refine (Qip ap m cp S.pending _ (HO.out.k5.below HM4.out.below NR) HCL.out.2 (by omega)).mono ?_;rintro e w4 ⟨g2,cg2,rfl,hg2,hc2,hm2,hr2,hb4⟩;have hC3:=Qan hC2 hb4;have HM5:=LH (HM4.out.row hb4 hr2 hg2);clear hr2 hb4 HM4;go_wp2_with fail;refine hK _ _ (fun _=>hC3) ?_;clear hK K;refine Qal ?_;have f2:=HM5.out.frozen 0 2 rfl;have f4:=HM5.out.frozen 0 4 rfl;have c2':=HM5.out.cell 0 2 rfl rfl;have c4':=HM5.out.cell 0 4 rfl rfl;go_upto_region 8 with fail;have HM6:=LH ((HM5.out.set 0 2 (.slice (some ⟨g1,0,none⟩) m cg1) rfl (by simp)).set 0 4 (.slice (some ⟨g2,0,none⟩) m cg2) rfl (by simp));clear HM5 HM2 hC1 hC2 hC3 r2 r4 c2 c3 c4 f2 f4 c2' c4' d0 HO2 HT2;generalize (w4.setCell _ _).setCell _ _=w5 at *;have HO6:=LH (HO.out.below HM6.out.below);obtain ⟨b0,o0,a0,a1,a2,a3,a4,a5,a6,a7,rfl,hseg,e0,e1,e2,e3,e4,e5,e6,e7⟩:=Qg5 HO6.out.k1 HO6.out.cl hjm;have HSg:=LH hseg;have c0:=HM6.out.cell 0 0 rfl rfl;have c2:=HM6.out.cell 0 2 rfl rfl;have r0:=fun x=>Qab c0 x
   have r2:=fun x=>Qab c2 x
   have s0:=fun x=>Qab e0 x
   have s1:=fun x=>Qab e1 x
   have s2:=fun x=>Qab e2 x
   have s3:=fun x=>Qab e3 x
   have s4:=fun x=>Qab e4 x
   have s5:=fun x=>Qab e5 x
   have s6:=fun x=>Qab e6 x
   have s7:=fun x=>Qab e7 x
   clear hseg e0 e1 e2 e3 e4 e5 e6 e7 c0 c2;refine Qai (C:=fun w'=>∃x:Qbi (w5),w'=x.val) [.fl [0,1,2,3,4,5,6,7],.sq [8,9] false] (by kernel_rfl) (by kernel_rfl) (by intro c a d v w h;cases d <;> exact h) ?_;simp only [Qdj,Qa3,List.getElem?_cons_succ,List.getElem?_cons_zero]
   have hC1:=Qaj (w5);refine Qak hC1 ?_
   repeat (first|go_big_quiet_step (fail)|quiet_step (fail))
   refine wpQuiet_nil ?_;clear r0 r2 s0 s1 s2 s3 s4 s5 s6 s7;have HM7:=LH (HM6.out.later (Qae hC1));clear HM6 HO6 hC1;have hfit:j*8+8≤(S.flushed.map Qad).length:=by rw [List.length_map,HCL.out.1];omega
   refine Qal ?_;go_upto_region 9 with (refine Qe8 Jcf HM7.out 2 (cs:=#[Qad a0,Qad a1,Qad a2,Qad a3,Qad a4,Qad a5,Qad a6,Qad a7]) rfl rfl rfl rfl rfl rfl hfit rfl ?_;intro w8 h8 _;have HM8:=LH h8;clear h8)
   clear HM7;have hlt2:j<(S.pending.map Value.bool).length:=by rw [List.length_map,HCL.out.2];omega
   have c4:=HM8.out.cell 0 4 rfl rfl;have d1:=HM8.out.cell 3 j rfl (GE hlt2);have f1:=HM8.out.frozen 3 j rfl;have HM9:=LH (HM8.out.set 3 j (.bool true) rfl hlt2);generalize (S.pending.map Value.bool)[j]=old2 at d1;clear hlt2;go_wp2_with (first | (refine Qag Qbk HM9.out 0 rfl rfl rfl rfl rfl ?_) | (refine Qaa Qbk HM9.out 1 rfl rfl rfl rfl rfl rfl rfl rfl ?_;intro w9 h9 _;have H9:=LH h9;clear h9))
   refine bodyPost_ret (Qac (p:=4) (u:=5) rfl _ _ _ _ _ _ _ rfl (H9.out.exact 1 rfl) Tryz.underlying38 rfl (by kernel_rfl)) rfl ?_;rw [← HPO.out,hStop.out.1,hStop.out.2,if_neg (by simp),if_neg (by simp)];have hwf:=Dev.hold_wf HSF.out.wf j (by rw [HSr.out.2.2.2.1,HDL.out];exact hjm);rw [HHold.out,← HDY.out,if_pos rfl] at hwf ⊢;have h1:=HO1.out;refine ⟨_,rfl,Qiw.rat ⟨?_,?_,?_,?_,?_,h1.hm,h1.hs,h1.hf,h1.hd,h1.cl⟩ hwf,Qh8 (by have q1:=H9.out.gbase 2 rfl;have q2:=H9.out.gbase 3 rfl;intro a ha;simp only [List.mem_cons,List.not_mem_nil,or_false] at ha ⊢;rcases ha with rfl | rfl | rfl | rfl | rfl <;> first | exact .inr ⟨_,_,rfl,q1⟩ | exact .inr ⟨_,_,rfl,q2⟩ | simp),H9.out.below⟩
   ·rw [HSr.out.2.1];exact HO.out.k1.below H9.out.below NR
   ·rw [HSr.out.1];exact HO.out.k2.below H9.out.below NR
   ·have h:=(H9.out.at 2 rfl).cells;dsimp only at h ⊢;rw [HSr.out.2.2.1,HSr.out.2.1,← Qou HSg.out];exact h
   ·rw [HSr.out.2.2.2.1];exact HO.out.k4.below H9.out.below NR
   ·have h:=(H9.out.at 3 rfl).cells;dsimp only at h ⊢;rw [HSr.out.2.2.2.2,Qdw];exact h
theorem Qde {P:Program} {e:TypeId} {k:IntKind} (he:P.underlying e=some (.int k)) (d:Nat) (w:World) (xs ys:List Int) :
  ∀is:List Nat,(∀i∈is,i<xs.length∧i<ys.length)→∃b,(Op.eqItems (d+1) e 1 (xs.map (Value.int k)).toArray (ys.map (Value.int k)).toArray is).run P w=.ok b w∧(b=true↔∀i∈is,xs[i]?=ys[i]?)
 | [],_=>⟨true,by simp [Op.eqItems],by simp⟩
 | i :: is,h=>by
  obtain ⟨h1,h2⟩:=h i (by simp);obtain ⟨b,hb,hiff⟩:=Qde he d w xs ys is (fun j hj=>h j (by simp [hj]));have hagg:(isAgg e).run P w=.ok false w:=by unfold isAgg;rw [Sem.run_bind,run_underlying he w];simp
  have hp:∀(zs:List Int) (hz:i<zs.length),(part e (zs.map (Value.int k)).toArray (i*1)).run P w=.ok (.int k zs[i]) w:=fun zs hz=>by
   simp [part,hagg,hz]
  simp only [Op.eqItems,Sem.run_bind,hp xs h1,hp ys h2,Result.andThen_ok]
  rw [run_equalIn_int w d e k k _ _ he];simp only [Result.andThen_ok]
  by_cases hab:xs[i]=ys[i]
  ·have:(xs[i] == ys[i])=true:=by simpa using hab
   simp only [this,Bool.not_true,Bool.false_eq_true,if_false]
   refine ⟨b,hb,?_⟩;rw [hiff];simp [h1,h2,hab]
  ·have:(xs[i] == ys[i])=false:=by simpa using hab
   simp only [this,Bool.not_false,if_true,Sem.run_pure]
   refine ⟨false,rfl,?_⟩;simp [h1,h2,hab]
theorem Qrb:Tryz.prog.cellsOf 40=1:=by kernel_rfl
theorem Qut:(Tryz.prog.info? 40).isSome=true:=by kernel_rfl
theorem Jcr (w:World) (xs ys:List Nat) (hx:xs.length=8) (hy:ys.length=8):(Op.equalIn 10000 118 (.agg (xs.map Qad).toArray) (.agg (ys.map Qad).toArray)).run Tryz.prog w=.ok (decide (xs=ys)) w:=by
 obtain ⟨i,hi⟩:=Option.isSome_iff_exists.1 Qut;have hn:∀l:List Nat,l.map Qad=(l.map (fun n:Nat=>(n:Int))).map (Value.int .u64):=by intro l;simp
 rw [show (10000:Nat)=9999+1 from rfl,run_equalIn_array w 9999 _ _ Tryz.underlying118 hi,Qrb,show (9999:Nat)=9998+1 from rfl,hn xs,hn ys];obtain ⟨b,hb,hiff⟩:=Qde Tryz.underlying40 9998 w (xs.map (fun n:Nat=>(n:Int))) (ys.map (fun n:Nat=>(n:Int))) (List.range 8) (fun i hi=>by simp at hi;simp;omega);rw [hb];have:b=decide (xs=ys):=by
  rw [Bool.eq_iff_iff,hiff,decide_eq_true_iff];constructor
  ·intro h
   apply List.ext_getElem (by rw [hx,hy])
   intro i h1 h2;have:=h i (by simp;omega);simp [h1,h2] at this
   omega
  ·rintro rfl i _;rfl
 rw [this]
theorem Jhj:Tryz.prog.eqGuardType Tryz.prog.depth 118=false:=by kernel_rfl
theorem Dev.settle_wf {S:Dev} (h:S.wf) (j:Nat) (hj:j<S.dirty.length):(S.settle j).wf:=by
 have hs:=Qbv S.flushed j (by have:=h.lenD;have:=h.lenF;omega);unfold Dev.settle
 split
 ·exact ⟨by show (splice _ _ _).length=_;rw [length_splice _ _ _ (by rw [hs,h.lenL,h.lenD];omega)];exact h.lenL,h.lenF,by simp [h.lenP],by simp [h.lenD],h.small,Qfp _ h.u64L (Qpg _ h.u64F),h.u64C,h.u64F⟩
 ·exact h
theorem Qky {S:Dev} (h:S.wf):∀k,k≤S.dirty.length→(S.fenceTo k).wf
 | 0,_=>h
 | k+1,hk=>Dev.settle_wf (Qky h k (by omega)) k (by rw [(Qg7 S k).1];omega)
theorem Qsh (S:Dev) (j:Nat):(S.settle j).armed=S.armed∧(S.settle j).dead=S.dead:=by unfold Dev.settle;split <;> exact ⟨rfl,rfl⟩
theorem Qkd (S:Dev) (k:Nat):(S.fenceTo k).armed=S.armed∧(S.fenceTo k).dead=S.dead:=by
 induction k with
 | zero=>exact ⟨rfl,rfl⟩
 | succ k ih=>have h:=Qsh (S.fenceTo k) k;exact ⟨h.1.trans ih.1,h.2.trans ih.2⟩
theorem Qu0 {S:Dev} {N:Nat} (h:S.fit N) (k:Nat) (hk:k≤S.dirty.length):(S.fenceTo k).fit N:=by
 obtain ⟨e1,e2⟩:=Qhk S k;obtain ⟨f1,f2⟩:=Qkd S k;refine ⟨Qky h.wf k hk,?_,?_⟩
 ·unfold Dev.ok;rw [e1,e2];exact h.ok
 ·rw [f1,e2];exact h.arm
theorem Dev.fence_fit {S:Dev} {N:Nat} (h:S.fit N):S.fence.fit (N+1):=by
 unfold Dev.fence
 split
 ·exact Dev.step_fit h
 ·exact Qu0 (Dev.step_fit h) _ (by rw [S.step_rest.2.2.2.1];exact Nat.le_refl _)
def Jbo (q:Nat) (T:Dev) (an aw:Option Addr) (m cn cw g1 c1 g2 c2 g3 c3:Nat) (sv fz:Int) (dd:Bool):List Ent :=
  [⟨q,38,[.slice an m cn,.slice (some ⟨g1,0,none⟩) m c1,.slice aw m cw,.slice (some ⟨g2,0,none⟩) m c2,.slice (some ⟨g3,0,none⟩) m c3,.int .i64 sv,.int .i64 fz,.bool dd],true⟩,
   ⟨q+1,38,Qfz.toList,true⟩,⟨g1,118,T.lasting.map Qad,false⟩,⟨g2,4,T.dirty.map Value.bool,false⟩,⟨g3,4,T.pending.map Value.bool,false⟩]
theorem Qxj {w:World} {v:Value} {S:Dev} (h:RAt w v S.dirty.length S.ref) {N:Nat} (hN:N<1000000000000) (hf:S.fit N) :
  Calls Tryz.prog 130 #[v] w (Qmn S.dirty.length S.fence S.fenceE v w):=by
 obtain ⟨an,cn,al,cl,aw,cw,ad,cd,ap,cp,m,sv,fz,dd,rfl,ho,hdl,hm8,hsv,hfz⟩:=Jat h hf;have HRS:=fun W (h:Qiw W S an al aw ad ap m sv fz dd)=>h.step hf
 have HSF:=LH (Dev.step_fit hf);have HFF:=LH (Dev.fence_fit hf);have HDF:=LH hf;rw [hdl];have HSt:Hid (S.fence=if S.stop then S.step else S.step.fenceTo S.dirty.length):=LH rfl;have HSE:Hid (S.fenceE=if S.stop then 3 else 0):=LH rfl;generalize hpo:Qmn m S.fence S.fenceE _ w=Post;have HPO:=LH hpo;have HDL:=LH hdl;have HO:=LH ho;clear hpo hdl ho;clear hf h;have HM:=LH (Mem.two w #[.slice an m cn,.slice al m cl,.slice aw m cw,.slice ad m cd,.slice ap m cp,.int .i64 sv,.int .i64 fz,.bool dd] 38 Qfz 38);go_enter Tryz.func130,Tryz.ntmps130;go_upto_region 1 with fail;rw [show (#[.slice none 0 0,.slice none 0 0,.slice none 0 0,.slice none 0 0,.slice none 0 0,.int .i64 0,.int .i64 0,.bool false]:Array Value)=Qfz from rfl];generalize (w.alloc _).alloc _=w0 at *;obtain ⟨q,hq⟩:∃q,q=w.heap.size:=⟨_,rfl⟩
 rw [← hq] at HM ⊢;have HQ:=LH hq;clear hq;go_wp2_with (refine Qag Qbk HM.out 0 rfl rfl rfl rfl rfl ?_)
 refine (Qn0 an al aw ad ap m cn cl cw cd cp sv fz dd _ (by omega) hfz).mono ?_;rintro e w1 ⟨rfl,hb1⟩;have HM1:=LH (HM.out.later hb1);have HO1:=LH (HRS w1 (HO.out.below HM1.out.below)).1;rw [(HRS w1 (HO.out.below HM1.out.below)).2];clear hb1 HM HRS;have HSr:=LH (S.step_rest);generalize (Qd7 sv fz dd).steps=sv1 at *;generalize (Qd7 sv fz dd).fuse=fz1 at *;generalize (Qd7 sv fz dd).dead=dd1 at *;generalize hstop:S.stop=st at *;have HStp:=LH hstop;clear hstop;go_upto_region 2 with (refine Qaa Qbk HM1.out 0 rfl rfl rfl rfl rfl rfl rfl rfl ?_;intro w2 h2 ht2;have HM2:=LH h2;clear h2 ht2)
 clear HM1
 cases st
 case true =>
  go_wp2_with (first | (refine Qag Qbk HM2.out 0 rfl rfl rfl rfl rfl ?_) | (refine Qaa Qbk HM2.out 1 rfl rfl rfl rfl rfl rfl rfl rfl ?_;intro w9 h9 _;have H9:=LH h9;clear h9))
  refine bodyPost_ret (Qac (p:=2) (u:=3) rfl _ _ _ _ _ _ _ rfl (H9.out.exact 1 rfl) Tryz.underlying38 rfl (by kernel_rfl)) rfl ?_;rw [← HPO.out,HSt.out,HSE.out,if_pos trivial,if_pos trivial];have h1:=HO1.out;refine ⟨_,rfl,Qiw.rat ⟨?_,?_,?_,?_,?_,h1.hm,h1.hs,h1.hf,h1.hd,h1.cl⟩ HSF.out.wf,Qh8 (fun a ha=>.inl ha),H9.out.below⟩
  ·rw [HSr.out.2.1];exact HO.out.k1.below H9.out.below NR
  ·rw [HSr.out.1];exact HO.out.k2.below H9.out.below NR
  ·rw [HSr.out.2.2.1];exact HO.out.k3.below H9.out.below NR
  ·rw [HSr.out.2.2.2.1];exact HO.out.k4.below H9.out.below NR
  ·rw [HSr.out.2.2.2.2];exact HO.out.k5.below H9.out.below NR
 case false =>
  have HCL:Hid (S.lasting.length=8*m∧S.pending.length=m∧S.flushed.length=8*m):=LH (by
   have h1:=HDF.out.wf.lenL;have h2:=HDF.out.wf.lenP;have h3:=HO.out.cl;have h4:=HDL.out;have h5:=HDF.out.wf.lenF
   omega)
  have c1:=HM2.out.cell 0 1 rfl rfl;have c3:=HM2.out.cell 0 3 rfl rfl;have c4:=HM2.out.cell 0 4 rfl rfl;go_upto_region 4 with fail;have r1:=fun x=>Qab c1 x
  have r3:=fun x=>Qab c3 x
  have r4:=fun x=>Qab c4 x
  refine Qai (C:=fun w'=>∃x:Qbi (w2),w'=x.val) [.fl [0,1,3,4,6,7],.sq [2] true,.fl [9],.sq [5] true,.sq [8] true,.sq [10,11,12,13,14] false] (by kernel_rfl) (by kernel_rfl) (by intro c a d v w h;cases d <;> exact h) ?_;simp only [Qdj,Qa3,List.getElem?_cons_succ,List.getElem?_cons_zero]
  have hC1:=Qaj (w2);refine Qak hC1 ?_
  repeat (first|go_big_quiet_step (fail)|quiet_step (fail))
  refine wpQuiet_nil ?_;refine Qah (fun K hK=>?_);go_wp2_with fail;have HM3:=LH (HM2.out.later (Qae hC1));refine (Qlb al m cl S.lasting _ (HO.out.k2.below HM3.out.below NR) HCL.out.1 (by omega)).mono ?_;rintro e w3 ⟨g1,cg1,rfl,hg1,hc1,hm1,hr1,hb3⟩;have hC2:=Qan hC1 hb3;have HM4:=LH (HM3.out.row hb3 hr1 hg1);clear hr1 hb3 HM3;go_wp2_with fail;refine hK _ _ (fun _=>hC2) ?_;clear hK K;refine Qak hC2 ?_
  repeat (first|go_big_quiet_step (fail)|quiet_step (fail))
  refine wpQuiet_nil ?_;refine Qah (fun K hK=>?_);go_wp2_with fail;refine (Qip ad m cd S.dirty _ (HO.out.k4.below HM4.out.below NR) HDL.out (by omega)).mono ?_;rintro e w4 ⟨g2,cg2,rfl,hg2,hc2,hm2,hr2,hb4⟩;have hC3:=Qan hC2 hb4;have HM5:=LH (HM4.out.row hb4 hr2 hg2);clear hr2 hb4 HM4;go_wp2_with fail;refine hK _ _ (fun _=>hC3) ?_;clear hK K;refine Qah (fun K hK=>?_);go_wp2_with fail;refine (Qip ap m cp S.pending _ (HO.out.k5.below HM5.out.below NR) HCL.out.2.1 (by omega)).mono ?_;rintro e w5 ⟨g3,cg3,rfl,hg3,hc3,hm3,hr3,hb5⟩;have hC4:=Qan hC3 hb5;have HM6:=LH (HM5.out.row hb5 hr3 hg3);clear hr3 hb5 HM5;go_wp2_with fail;refine hK _ _ (fun _=>hC4) ?_;clear hK K;refine Qal ?_;have f1:=HM6.out.frozen 0 1 rfl;have f3:=HM6.out.frozen 0 3 rfl;have f4:=HM6.out.frozen 0 4 rfl;have c1':=HM6.out.cell 0 1 rfl rfl;have c3':=HM6.out.cell 0 3 rfl rfl;have c4':=HM6.out.cell 0 4 rfl rfl;go_upto_region 5 with fail;have HM7:=LH (((HM6.out.set 0 1 (.slice (some ⟨g1,0,none⟩) m cg1) rfl (by simp)).set 0 3 (.slice (some ⟨g2,0,none⟩) m cg2) rfl (by simp)).set 0 4 (.slice (some ⟨g3,0,none⟩) m cg3) rfl (by simp));clear HM6 HM2 hC1 hC2 hC3 hC4 r1 r3 r4 c1 c3 c4 f1 f3 f4 c1' c3' c4';generalize ((w5.setCell _ _).setCell _ _).setCell _ _=w6 at *;have HM8:Hid (Mem w w6 (Jbo q (S.step.fenceTo 0) an aw m cn cw g1 cg1 g2 cg2 g3 cg3 sv1 fz1 dd1)):=LH (by
   have h:=HM7.out;obtain ⟨e1,e2,e3,e4,e5⟩:=HSr.out;show Mem w w6 [_,_,⟨g1,_,S.step.lasting.map Qad,false⟩,⟨g2,_,S.step.dirty.map Value.bool,false⟩,⟨g3,_,S.step.pending.map Value.bool,false⟩];rw [e1,e4,e5]
   exact h)
  clear HM7;go_wp2_with fail
  go_loopw [5] (fun i wr=>∃k:Nat,k≤m∧i=.int .i64 k∧Mem w wr (Jbo q (S.step.fenceTo k) an aw m cn cw g1 cg1 g2 cg2 g3 cg3 sv1 fz1 dd1)) (fun i _=>m-(intOf i).toNat)
  case atStart=>exact ⟨0,Nat.zero_le _,rfl,HM8.out⟩
  case round =>
   obtain ⟨k,hk,rfl,hmem⟩:=hrel;have HT:=LH (Qg7 S.step k);have HTw:=LH (Qky HSF.out.wf k (by rw [HSr.out.2.2.2.1,HDL.out];exact hk));have HTn:Hid (S.step.fenceTo (k+1)=(S.step.fenceTo k).settle k):=LH rfl;have HTm:Hid (k=m→S.step.fenceTo m=S.step.fenceTo k):=LH (fun h=>by rw [h]);have HTf:=LH (Qhk S.step k);have HTg:=LH (Qkd S.step k);generalize S.step.fenceTo k=T at *;have c0:=hmem.cell 0 0 rfl rfl;have c1:=hmem.cell 0 1 rfl rfl;have c2:=hmem.cell 0 2 rfl rfl;have c3:=hmem.cell 0 3 rfl rfl;have c4:=hmem.cell 0 4 rfl rfl;have HMEM:=LH hmem;clear hmem;clear HM8
   by_cases hlt:k<m
   ·have hlt':(k:Int)<(m:Int):=by omega
    have hpl:k<(T.pending.map Value.bool).length:=by rw [List.length_map,HTw.out.lenP,HT.out.1,HSr.out.2.2.2.1,HDL.out];exact hlt
    have d0:=HMEM.out.cell 4 k rfl (GE hpl);rw [List.getElem_map] at d0;have HPg:Hid (T.pending.getD k false=T.pending[k]'(by simpa using hpl)):=LH (by simp [show k<T.pending.length by simpa using hpl]);generalize T.pending[k]'(by simpa using hpl)=pk at *;have HST:Hid (T.settle k=if T.pending.getD k false then { T with lasting:=splice T.lasting (8*k) (seg T.flushed k),pending:=T.pending.set k false,dirty:=T.dirty.set k (!decide (seg T.flushed k=seg T.cache k)) } else T):=LH rfl;rw [HPg.out] at HST
    cases pk
    case false =>
     go_wp2_with fail;exact ⟨⟨k+1,by omega,Qb2 (by omega),by rw [HTn.out,HST.out,if_neg (by simp)];exact HMEM.out⟩,by simp [intOf];omega⟩
    case true =>
     clear hpl;have hw:=HMEM.out.below;have HOk:=LH (HO.out.below hw);have hwl:T.flushed.length=8*m:=by rw [HT.out.2.2,HSr.out.2.2.1];exact HCL.out.2.2
     obtain ⟨b0,o0,a0,a1,a2,a3,a4,a5,a6,a7,rfl,hseg,e0,e1,e2,e3,e4,e5,e6,e7⟩:=Qg5 (l:=S.flushed) HOk.out.k3 HCL.out.2.2 hlt;obtain ⟨b1,o1,n0,n1,n2,n3,n4,n5,n6,n7,rfl,hseg2,p0,p1,p2,p3,p4,p5,p6,p7⟩:=Qg5 (l:=S.cache) HOk.out.k1 HOk.out.cl hlt;have HSg:Hid (seg T.flushed k=[a0,a1,a2,a3,a4,a5,a6,a7]):=LH (by rw [HT.out.2.2,HSr.out.2.2.1];exact hseg);have HSh:Hid (seg T.cache k=[n0,n1,n2,n3,n4,n5,n6,n7]):=LH (by rw [HT.out.2.1,HSr.out.2.1];exact hseg2);have hfit:k*8+8≤(T.lasting.map Qad).length:=by rw [List.length_map,HTw.out.lenL,HT.out.2.1,HSr.out.2.1,HO.out.cl];omega
     clear hw hwl hseg hseg2;go_upto_region 9 with fail;have r1:=fun x=>Qab c1 x
     have r2:=fun x=>Qab c2 x
     have s0:=fun x=>Qab e0 x
     have s1:=fun x=>Qab e1 x
     have s2:=fun x=>Qab e2 x
     have s3:=fun x=>Qab e3 x
     have s4:=fun x=>Qab e4 x
     have s5:=fun x=>Qab e5 x
     have s6:=fun x=>Qab e6 x
     have s7:=fun x=>Qab e7 x
     refine Qai (C:=fun w'=>∃x:Qbi (wr),w'=x.val) [.fl [0,1,2,3,4,5,6,7],.sq [8,9] false] (by kernel_rfl) (by kernel_rfl) (by intro c a d v w h;cases d <;> exact h) ?_;simp only [Qdj,Qa3,List.getElem?_cons_succ,List.getElem?_cons_zero]
     have hC1:=Qaj (wr);refine Qak hC1 ?_
     repeat (first|go_big_quiet_step (fail)|quiet_step (fail))
     refine wpQuiet_nil ?_;clear r1 r2 s0 s1 s2 s3 s4 s5 s6 s7;have HM9:=LH (HMEM.out.later (Qae hC1));clear HMEM c0 c1 c2 c3 c4 d0 e0 e1 e2 e3 e4 e5 e6 e7 p0 p1 p2 p3 p4 p5 p6 p7;refine Qal ?_;go_upto_region 10 with (refine Qe8 Jcf HM9.out 2 (cs:=#[Qad a0,Qad a1,Qad a2,Qad a3,Qad a4,Qad a5,Qad a6,Qad a7]) rfl rfl rfl rfl rfl rfl hfit rfl ?_;intro w8 h8 _;have HM8:=LH h8;clear h8)
     clear HM9 hC1 HOk;have hpl:k<(T.pending.map Value.bool).length:=by rw [List.length_map,HTw.out.lenP,HT.out.1,HSr.out.2.2.2.1,HDL.out];exact hlt
     have hdl2:k<(T.dirty.map Value.bool).length:=by rw [List.length_map,HT.out.1,HSr.out.2.2.2.1,HDL.out];exact hlt
     have c4:=HM8.out.cell 0 4 rfl rfl;have d1:=HM8.out.cell 4 k rfl (GE hpl);have f1:=HM8.out.frozen 4 k rfl;have HM10:=LH (HM8.out.set 4 k (.bool false) rfl hpl);generalize (T.pending.map Value.bool)[k]=old2 at d1;clear hpl;go_upto_region 11 with fail;clear c4 d1 f1 HM8;generalize w8.setCell _ _=w9 at *;have HOk:=LH (HO.out.below HM10.out.below);obtain ⟨b0',o0',a0',a1',a2',a3',a4',a5',a6',a7',he1,hseg,e0,e1,e2,e3,e4,e5,e6,e7⟩:=Qg5 (l:=S.flushed) HOk.out.k3 HCL.out.2.2 hlt;obtain ⟨b1',o1',n0',n1',n2',n3',n4',n5',n6',n7',he2,hseg2,p0,p1,p2,p3,p4,p5,p6,p7⟩:=Qg5 (l:=S.cache) HOk.out.k1 HOk.out.cl hlt
     cases he1
     cases he2
     rw [← HSr.out.2.2.1,← HT.out.2.2,HSg.out] at hseg;rw [← HSr.out.2.1,← HT.out.2.1,HSh.out] at hseg2
     cases hseg
     cases hseg2
     have c0:=HM10.out.cell 0 0 rfl rfl;have c2:=HM10.out.cell 0 2 rfl rfl;have c3:=HM10.out.cell 0 3 rfl rfl;have r0:=fun x=>Qab c0 x
     have r2:=fun x=>Qab c2 x
     have r3:=fun x=>Qab c3 x
     have s0:=fun x=>Qab e0 x
     have s1:=fun x=>Qab e1 x
     have s2:=fun x=>Qab e2 x
     have s3:=fun x=>Qab e3 x
     have s4:=fun x=>Qab e4 x
     have s5:=fun x=>Qab e5 x
     have s6:=fun x=>Qab e6 x
     have s7:=fun x=>Qab e7 x
     have t0:=fun x=>Qab p0 x
     have t1:=fun x=>Qab p1 x
     have t2:=fun x=>Qab p2 x
     have t3:=fun x=>Qab p3 x
     have t4:=fun x=>Qab p4 x
     have t5:=fun x=>Qab p5 x
     have t6:=fun x=>Qab p6 x
     have t7:=fun x=>Qab p7 x
     have heq:∀w',(Op.equalIn 10000 118 (.agg #[Qad n0,Qad n1,Qad n2,Qad n3,Qad n4,Qad n5,Qad n6,Qad n7]) (.agg #[Qad a0,Qad a1,Qad a2,Qad a3,Qad a4,Qad a5,Qad a6,Qad a7])).run Tryz.prog w'=.ok (decide ([n0,n1,n2,n3,n4,n5,n6,n7]=[a0,a1,a2,a3,a4,a5,a6,a7])) w':=fun w'=>Jcr w' [n0,n1,n2,n3,n4,n5,n6,n7] [a0,a1,a2,a3,a4,a5,a6,a7] rfl rfl
     have HDc:Hid (decide (seg T.flushed k=seg T.cache k)=decide ([n0,n1,n2,n3,n4,n5,n6,n7]=[a0,a1,a2,a3,a4,a5,a6,a7])):=LH (by rw [HSg.out,HSh.out,decide_eq_decide];exact eq_comm);have hgd:=Jhj;generalize decide ([n0,n1,n2,n3,n4,n5,n6,n7]=[a0,a1,a2,a3,a4,a5,a6,a7])=bb at *;clear c0 c2 c3 e0 e1 e2 e3 e4 e5 e6 e7 p0 p1 p2 p3 p4 p5 p6 p7;refine Qai (C:=fun w'=>∃x:Qbi (w9),w'=x.val) [.fl [0,1,2,3,4,5,6,7,8,9,10,11,12,13],.sq [14,15] false] (by kernel_rfl) (by kernel_rfl) (by intro c a d v w h;cases d <;> exact h) ?_;simp only [Qdj,Qa3,List.getElem?_cons_succ,List.getElem?_cons_zero]
     have hC1:=Qaj (w9);refine Qak hC1 ?_
     repeat (first|go_big_quiet_step (fail)|quiet_step (fail))
     refine wpQuiet_nil ?_;clear r0 r2 r3 s0 s1 s2 s3 s4 s5 s6 s7 t0 t1 t2 t3 t4 t5 t6 t7 heq hgd;have HM11:=LH (HM10.out.later (Qae hC1));clear HM10 hC1 HOk;have d1:=HM11.out.cell 3 k rfl (GE hdl2);have f1:=HM11.out.frozen 3 k rfl;have HM12:=LH (HM11.out.set 3 k (.bool (!bb)) rfl hdl2);generalize (T.dirty.map Value.bool)[k]=old3 at d1;clear hdl2;refine Qal ?_;go_wp2_with fail;refine ⟨⟨k+1,by omega,Qb2 (by omega),?_⟩,by simp [intOf];omega⟩;rw [HTn.out,HST.out,if_pos rfl,HDc.out];unfold Jbo;dsimp only;rw [Qdw,Qdw,← Qou HSg.out];exact HM12.out
   ·obtain rfl:k=m:=by omega
    have hlt':decide ((k:Int)<(k:Int))=false:=by simp
    go_wp2_with (first | (refine Qag Qbk HMEM.out 0 rfl rfl rfl rfl rfl ?_) | (refine Qaa Qbk HMEM.out 1 rfl rfl rfl rfl rfl rfl rfl rfl ?_;intro w9 h9 _;have H9:=LH h9;clear h9))
    refine bodyPost_ret (Qac (p:=2) (u:=3) rfl _ _ _ _ _ _ _ rfl (H9.out.exact 1 rfl) Tryz.underlying38 rfl (by kernel_rfl)) rfl ?_;rw [← HPO.out,HSt.out,HSE.out,if_neg (by simp),if_neg (by simp),HDL.out,HTm.out (by first | rfl | trivial)];have h1:=HO1.out;have hb:=H9.out.below;refine ⟨_,rfl,Qiw.rat ⟨?_,(H9.out.at 2 rfl).cells,?_,(H9.out.at 3 rfl).cells,(H9.out.at 4 rfl).cells,?_,?_,?_,?_,?_⟩ HTw.out,Qh8 (by have q1:=H9.out.gbase 2 rfl;have q2:=H9.out.gbase 3 rfl;have q3:=H9.out.gbase 4 rfl;intro a ha;simp only [List.mem_cons,List.not_mem_nil,or_false] at ha ⊢;rcases ha with rfl | rfl | rfl | rfl | rfl <;> first | exact .inr ⟨_,_,rfl,q1⟩ | exact .inr ⟨_,_,rfl,q2⟩ | exact .inr ⟨_,_,rfl,q3⟩ | simp),hb⟩
    ·rw [HT.out.2.1,HSr.out.2.1];exact HO.out.k1.below hb NR
    ·rw [HT.out.2.2,HSr.out.2.2.1];exact HO.out.k3.below hb NR
    ·rw [HT.out.1,HSr.out.2.2.2.1,HDL.out]
    ·rw [HTf.out.1];exact h1.hs
    ·rw [h1.hf];unfold Dev.ref;dsimp only;rw [HTf.out.2,HTg.out.1]
    ·rw [HTg.out.2];exact h1.hd
    ·rw [HT.out.2.1];exact h1.cl
def Qcm (p n:Nat):Nat:=if 0<n then (p+n-1)/8-p/8+1 else 0
def Dev.runAt (S:Dev) (p n k:Nat):Qdi:=S.flushRun (p/8) (min (k-p/8) (Qcm p n))
theorem Qqe (S:Dev) (p n:Nat):S.runAt p n 0=⟨S,0⟩:=by
 unfold Dev.runAt;rw [Nat.zero_sub,Nat.zero_min];rfl
theorem Qyt (S:Dev) (p n k:Nat) (h:¬(0<n∧p≤8*k+7∧8*k<p+n)):S.runAt p n (k+1)=S.runAt p n k:=by
 unfold Dev.runAt
 congr 1
 unfold Qcm
 split <;> omega
theorem Jbg (S:Dev) (p n k:Nat) (h:0<n∧p≤8*k+7∧8*k<p+n) (he:(S.runAt p n k).err=0):S.runAt p n (k+1)=⟨(S.runAt p n k).dev.flush (k:Int),(S.runAt p n k).dev.flushE (k:Int)⟩:=by
 have h1:min (k-p/8) (Qcm p n)=k-p/8:=by unfold Qcm;rw [if_pos h.1];omega
 have h2:min (k+1-p/8) (Qcm p n)=(k-p/8)+1:=by unfold Qcm;rw [if_pos h.1];omega
 unfold Dev.runAt at he ⊢;rw [h1] at he;rw [h2,h1,Dev.flushRun,if_neg (by rw [he];simp),show p/8+(k-p/8)=k by omega]
theorem Qvu (S:Dev) (p n k m:Nat) (hm:p+n≤8*m) (hk:k≤m) (h:(S.runAt p n k).err≠0):S.runAt p n k=S.flushRun (p/8) (Qcm p n):=by
 unfold Dev.runAt at h ⊢;exact (Dev.flushRun_stays S _ _ _ (Nat.min_le_right _ _) h).symm
theorem Jah (S:Dev) (p n m:Nat) (hm:p+n≤8*m):S.runAt p n m=S.flushRun (p/8) (Qcm p n):=by
 unfold Dev.runAt
 congr 1
 unfold Qcm
 split <;> omega
theorem Qve {S:Dev} (p n:Nat) (h:p+n≤S.cache.length):S.persist (p:Int) (n:Int)=if (S.flushRun (p/8) (Qcm p n)).err≠0 then S.flushRun (p/8) (Qcm p n) else ⟨(S.flushRun (p/8) (Qcm p n)).dev.fence,(S.flushRun (p/8) (Qcm p n)).dev.fenceE⟩:=by
 unfold Dev.persist;rw [if_neg (by omega)]
 by_cases h0:0<n
 ·rw [if_pos (by omega)];unfold Dev.persistN Qcm;rw [if_pos h0,show ((p:Int)/8).toNat=p/8 by omega,show (((p:Int)+(n:Int)-1)/8-(p:Int)/8+1).toNat=(p+n-1)/8-p/8+1 by omega]
 ·rw [if_neg (by omega)];unfold Qcm;rw [if_neg h0]
  rfl
theorem Qh5 {S:Dev} {N:Nat} (h:S.fit N) (a:Nat):∀k,(S.flushRun a k).dev.fit (N+k)
 | 0=>h
 | k+1=>by
  rw [Dev.flushRun]
  split
  ·exact (Qh5 h a k).mono (by omega)
  ·exact Dev.flush_fit (Qh5 h a k) _
theorem Qjq (S:Dev) (a:Nat):∀k,(S.flushRun a k).dev.dirty.length=S.dirty.length
 | 0=>rfl
 | k+1=>by
  rw [Dev.flushRun]
  split
  ·exact Qjq S a k
  ·dsimp only;rw [Dev.flush_dl];exact Qjq S a k
theorem Jd2 {w:World} {v:Value} {S:Dev} {m:Nat} (hm:S.dirty.length=m) (h:RAt w v m S.ref) {N:Nat} (hN:N<1000000000000) (hf:S.fit N) (i:Int) (x:Nat) (hx:x<18446744073709551616) (hi:-9223372036854775808≤i∧i≤9223372036854775807) :
  Calls Tryz.prog 77 #[v,.int .i64 i,Qad x] w (Qmn m (S.store i x) (S.storeE i) v w):=by
 subst hm;exact Qxz h hN hf i x hx hi
theorem Jda {w:World} {v:Value} {S:Dev} {m:Nat} (hm:S.dirty.length=m) (h:RAt w v m S.ref) {N:Nat} (hN:N<1000000000000) (hf:S.fit N) (i:Int) :
  Calls Tryz.prog 129 #[v,.int .i64 i] w (Qmn m (S.flush i) (S.flushE i) v w):=by
 subst hm;exact Qyv h hN hf i
theorem Jd8 {w:World} {v:Value} {S:Dev} {m:Nat} (hm:S.dirty.length=m) (h:RAt w v m S.ref) {N:Nat} (hN:N<1000000000000) (hf:S.fit N) :
  Calls Tryz.prog 130 #[v] w (Qmn m S.fence S.fenceE v w):=by
 subst hm;exact Qxj h hN hf
def Jiz (v0:Value) (w W:World) (q m:Nat) (T:Dev):Prop:=∃an cn al cl aw cw ad cd ap cp sv fz dd,Mem w W [⟨q,38,[.slice an m cn,.slice al m cl,.slice aw m cw,.slice ad m cd,.slice ap m cp,.int .i64 sv,.int .i64 fz,.bool dd],true⟩,⟨q+1,38,Qfz.toList,true⟩]∧
 RAt W (.agg #[.slice an m cn,.slice al m cl,.slice aw m cw,.slice ad m cd,.slice ap m cp,.int .i64 sv,.int .i64 fz,.bool dd]) m T.ref∧(m=0∨∀b,RIn (.agg #[.slice an m cn,.slice al m cl,.slice aw m cw,.slice ad m cd,.slice ap m cp,.int .i64 sv,.int .i64 fz,.bool dd]) b→b<q∨q+2≤b)∧
 (∀b,RIn (.agg #[.slice an m cn,.slice al m cl,.slice aw m cw,.slice ad m cd,.slice ap m cp,.int .i64 sv,.int .i64 fz,.bool dd]) b→RIn v0 b∨w.heap.size≤b)
theorem Qss {w:World} {v:Value} {S:Dev} (h:RAt w v S.dirty.length S.ref) {N:Nat} (hN:N<100000000000) (hf:S.fit N) (p n:Int) :
  Calls Tryz.prog 78 #[v,.int .i64 p,.int .i64 n] w (Qmn S.dirty.length (S.persist p n).dev (S.persist p n).err v w):=by
 obtain ⟨an,cn,al,cl,aw,cw,ad,cd,ap,cp,m,sv,fz,dd,rfl,ho,hdl,hm8,hsv,hfz⟩:=Jat h hf;have HRA:=LH h;have HOld:=LH h.old;rw [hdl] at HOld;obtain ⟨v0,hv0⟩:∃v0:Value,v0=.agg #[.slice an m cn,.slice al m cl,.slice aw m cw,.slice ad m cd,.slice ap m cp,.int .i64 sv,.int .i64 fz,.bool dd]:=⟨_,rfl⟩
 have HV0:=LH hv0;clear hv0;have HDF:=LH hf;rw [hdl] at HRA;rw [hdl];have HPD:Hid (S.persist p n=if p<0∨n<0∨(S.cache.length:Int)<p∨(S.cache.length:Int)-p<n then ⟨S,2⟩
  else if 0<n then S.persistN (p/8).toNat ((p+n-1)/8-p/8+1).toNat else ⟨S.fence,S.fenceE⟩):=LH rfl
 have HPR:=LH (Qve (S:=S));have HCL:Hid (S.cache.length=8*m):=LH ho.cl;generalize hpo:Qmn m (S.persist p n).dev (S.persist p n).err _ w=Post;have HPO:=LH hpo;have HDL:=LH hdl;have HO:=LH ho;clear hpo hdl ho;clear hf h;have HM:=LH (Mem.two w #[.slice an m cn,.slice al m cl,.slice aw m cw,.slice ad m cd,.slice ap m cp,.int .i64 sv,.int .i64 fz,.bool dd] 38 Qfz 38);go_enter Tryz.func78,Tryz.ntmps78;go_upto_region 1 with fail;rw [show (#[.slice none 0 0,.slice none 0 0,.slice none 0 0,.slice none 0 0,.slice none 0 0,.int .i64 0,.int .i64 0,.bool false]:Array Value)=Qfz from rfl];generalize (w.alloc _).alloc _=w0 at *;obtain ⟨q,hq⟩:∃q,q=w.heap.size:=⟨_,rfl⟩
 rw [← hq] at HM ⊢;have HQ:=LH hq;clear hq;have c0:=HM.out.cell 0 0 rfl rfl
 go_cut [33] from 10 (fun c wc=>c=.bool (decide (p<0∨n<0∨8*(m:Int)<p∨8*(m:Int)-p<n))∧wc=w0)
 case first =>
  by_cases h1:p<0
  ·go_wp2_with fail
   go_meet
   exact ⟨by simp [h1],rfl⟩
  by_cases h2:n<0
  ·go_wp2_with fail
   go_meet
   exact ⟨by simp [h2],rfl⟩
  by_cases h3:8*(m:Int)<p
  ·go_wp2_with fail
   go_meet
   exact ⟨by simp [h3],rfl⟩
  have hw:IntKind.i64.wrap (8*(m:Int)-p)=8*(m:Int)-p:=IntWalk.i64_in _ (by omega)
  by_cases h4:8*(m:Int)-p<n
  ·go_wp2_with fail
   go_meet
   exact ⟨by simp [h4],rfl⟩
  have h5:¬(p<0∨n<0∨8*(m:Int)<p∨8*(m:Int)-p<n):=by omega
  have H5:=LH h5;clear h5;go_wp2_with fail
  go_meet
  exact ⟨by simp [H5.out],rfl⟩
 case rest =>
  obtain ⟨rfl,rfl⟩:=hcut
  by_cases h0:p<0∨n<0∨8*(m:Int)<p∨8*(m:Int)-p<n
  ·have HV:Hid (S.persist p n=⟨S,2⟩):=LH (by rw [HPD.out,if_pos (by rw [HCL.out];omega)]);rw [decide_eq_true h0];clear h0;go_wp2_with (first | (refine Qag Qbk HM.out 0 rfl rfl rfl rfl rfl ?_) | (refine Qaa Qbk HM.out 1 rfl rfl rfl rfl rfl rfl rfl rfl ?_;intro w9 h9 _;have H9:=LH h9;clear h9))
   refine bodyPost_ret (Qac (p:=6) (u:=7) rfl _ _ _ _ _ _ _ rfl (H9.out.exact 1 rfl) Tryz.underlying38 rfl (by kernel_rfl)) rfl ?_;rw [← HPO.out,HV.out];exact ⟨_,rfl,HRA.out.below H9.out.below NR,fun b hb=>.inl hb,H9.out.below⟩
  rw [decide_eq_false h0];obtain ⟨p,rfl⟩:=Int.eq_ofNat_of_zero_le (show 0≤p by omega);obtain ⟨n,rfl⟩:=Int.eq_ofNat_of_zero_le (show 0≤n by omega);have hpn:p+n≤8*m:=by omega
  have hpr:=HPR.out p n (by rw [HCL.out];exact hpn);have HV:=LH hpr;clear h0 hpr;clear HPR HPD c0;go_wp2_with fail
  go_loopw [8,9] (fun e i wr=>∃k:Nat,k≤m∧i=.int .i64 k∧e=.int .i64 0∧(S.runAt p n k).err=0∧Jiz v0 w wr q m (S.runAt p n k).dev) (fun _ i _=>m-(intOf i).toNat)
  case atStart=>exact ⟨0,Nat.zero_le _,rfl,rfl,by rw [Qqe],by rw [Qqe];exact ⟨_,_,_,_,_,_,_,_,_,_,_,_,_,HM.out,HRA.out.below HM.out.below NR,HOld.out.imp id (fun h b hb=>.inl (by rw [HQ.out];exact h b hb)),fun b hb=>.inl (by rw [HV0.out];exact hb)⟩⟩
  case round =>
   obtain ⟨k,hk,rfl,rfl,he0,an,cn,al,cl,aw,cw,ad,cd,ap,cp,sv,fz,dd,hmem,hra,hap,hri⟩:=hrel;have HMs:=LH (Qyt S p n k);have HHt:=LH (Jbg S p n k);have HSy:=LH (fun h=>Qvu S p n (k+1) m hpn h);have HEn:=LH (Jah S p n m hpn);have HKm:Hid (k=m→S.runAt p n m=S.runAt p n k):=LH (fun h=>by rw [h]);have HTf:=LH (Qh5 HDF.out (p/8) (min (k-p/8) (Qcm p n)));have HTd:=LH (Qjq S (p/8) (min (k-p/8) (Qcm p n)));have hln:Qcm p n≤200000:=by unfold Qcm;split <;> omega
   have hmin:min (k-p/8) (Qcm p n)≤200000:=by omega
   rw [show S.flushRun (p/8) (min (k-p/8) (Qcm p n))=S.runAt p n k from rfl] at HTf HTd;generalize min (k-p/8) (Qcm p n)=mm at *;generalize S.runAt p n k=T at *;have c0:=hmem.cell 0 0 rfl rfl;have HTL:Hid (T.dev.dirty.length=m):=LH (by rw [HTd.out,HDL.out]);have HMEM:=LH hmem;have HE0:=LH he0;clear hmem he0;have HRA2:=LH hra;clear hra;have HAP:=LH hap;have HRI:=LH hri;clear HM hap hri
   by_cases hlt:k<m
   ·have hlt':(k:Int)<(m:Int):=by omega
    by_cases hh:0<n∧p≤8*k+7∧8*k<p+n
    ·have HHn:=LH (HHt.out hh HE0.out);obtain ⟨h1,h2,h3⟩:=hh;have h1':(0:Int)<(n:Int):=by omega
     have h2':(p:Int)≤8*(k:Int)+7:=by omega
     have h3':8*(k:Int)<(p:Int)+(n:Int):=by omega
     go_wp2_with (refine Qag Qbk HMEM.out 0 rfl rfl rfl rfl rfl ?_)
     refine (Jda HTL.out HRA2.out (N:=N+mm) (by omega) HTf.out k).mono ?_;rintro e w1 ⟨v',rfl,hra1,hri1,hb1⟩;obtain ⟨an1,cn1,al1,cl1,aw1,cw1,ad1,cd1,ap1,cp1,rfl,y1,y2,y3,y4,y5⟩:=hra1.ex;clear y1 y2 y3 y4 y5;generalize T.dev.flush (k:Int)=T1 at *;generalize T.dev.flushE (k:Int)=E1 at *;generalize T1.ref.steps=sv1 at *;generalize T1.ref.fuse=fz1 at *;generalize T1.ref.dead=dd1 at *;have HM1:=LH (HMEM.out.later hb1);have HR1:=LH hra1;have hq2:q+2≤wr.heap.size:=HMEM.out.glt 1 rfl;have HAP1:Hid (m=0∨∀b,RIn (.agg #[.slice an1 m cn1,.slice al1 m cl1,.slice aw1 m cw1,.slice ad1 m cd1,.slice ap1 m cp1,.int .i64 sv1,.int .i64 fz1,.bool dd1]) b→b<q∨q+2≤b):=LH (HAP.out.imp id (fun h b hb=>(hri1 b hb).elim (h b) (fun h=>.inr (by omega))));have HRI1:Hid (∀b,RIn (.agg #[.slice an1 m cn1,.slice al1 m cl1,.slice aw1 m cw1,.slice ad1 m cd1,.slice ap1 m cp1,.int .i64 sv1,.int .i64 fz1,.bool dd1]) b→RIn v0 b∨w.heap.size≤b):=LH (fun b hb=>(hri1 b hb).elim (HRI.out b) (fun h=>.inr (by have:=HMEM.out.below.size;omega)));clear hra1 hb1 hri1 HMEM c0 HAP HRI
     by_cases hE:E1=0
     ·subst hE;go_wp2_with (refine Qaa Qbk HM1.out 0 rfl rfl rfl rfl rfl rfl rfl rfl ?_;intro w2 h2 ht2;have HM2:=LH h2;have HT2:=LH ht2;clear h2 ht2)
      refine ⟨⟨k+1,by omega,Qb2 (by omega),rfl,by rw [HHn.out],?_⟩,by simp [intOf];omega⟩;rw [HHn.out];exact ⟨_,_,_,_,_,_,_,_,_,_,_,_,_,HM2.out,HR1.out.touch HT2.out (HAP1.out.imp id (fun h b hb=>by have:=h b hb;simp;omega)),HAP1.out,HRI1.out⟩
     ·have hE1:(E1 != 0)=true:=by simpa using hE
      have HR:Hid (S.persist (p:Int) (n:Int)=⟨T1,E1⟩):=LH (by
       have h1:=HSy.out (by omega) (by rw [HHn.out];exact hE);rw [HHn.out] at h1
       rw [HV.out,← h1,if_pos hE])
      clear hE;go_upto_region 9 with (refine Qaa Qbk HM1.out 0 rfl rfl rfl rfl rfl rfl rfl rfl ?_;intro w2 h2 ht2;have HM2:=LH h2;have HT2:=LH ht2;clear h2 ht2)
      go_wp2_with (first | (refine Qag Qbk HM2.out 0 rfl rfl rfl rfl rfl ?_) | (refine Qaa Qbk HM2.out 1 rfl rfl rfl rfl rfl rfl rfl rfl ?_;intro w9 h9 ht9;have H9:=LH h9;have HT9:=LH ht9;clear h9 ht9))
      refine bodyPost_ret (Qac (p:=6) (u:=7) rfl _ _ _ _ _ _ _ rfl (H9.out.exact 1 rfl) Tryz.underlying38 rfl (by kernel_rfl)) rfl ?_;rw [← HPO.out,HR.out];exact ⟨_,rfl,(HR1.out.touch HT2.out (HAP1.out.imp id (fun h b hb=>by have:=h b hb;simp;omega))).touch HT9.out (HAP1.out.imp id (fun h b hb=>by have:=h b hb;simp;omega)),by rw [← HV0.out];exact HRI1.out,H9.out.below⟩
    ·have HHn:=LH (HMs.out hh);have hh':n=0∨(0<n∧8*k+7<p)∨(0<n∧p≤8*k+7∧p+n≤8*k):=by omega
     clear hh;rcases hh' with rfl | ⟨h1,h2⟩|⟨h1,h2,h3⟩
     ·go_wp2_with fail;refine ⟨⟨k+1,by omega,Qb2 (by omega),rfl,by rw [HHn.out];exact HE0.out,?_⟩,by simp [intOf];omega⟩;rw [HHn.out];exact ⟨_,_,_,_,_,_,_,_,_,_,_,_,_,HMEM.out,HRA2.out,HAP.out,HRI.out⟩
     ·have h1':(0:Int)<(n:Int):=by omega
      have h2':decide ((p:Int)≤8*(k:Int)+7)=false:=by simp;omega
      go_wp2_with fail;refine ⟨⟨k+1,by omega,Qb2 (by omega),rfl,by rw [HHn.out];exact HE0.out,?_⟩,by simp [intOf];omega⟩;rw [HHn.out];exact ⟨_,_,_,_,_,_,_,_,_,_,_,_,_,HMEM.out,HRA2.out,HAP.out,HRI.out⟩
     ·have h1':(0:Int)<(n:Int):=by omega
      have h2':(p:Int)≤8*(k:Int)+7:=by omega
      have h3':decide (8*(k:Int)<(p:Int)+(n:Int))=false:=by simp;omega
      go_wp2_with fail;refine ⟨⟨k+1,by omega,Qb2 (by omega),rfl,by rw [HHn.out];exact HE0.out,?_⟩,by simp [intOf];omega⟩;rw [HHn.out];exact ⟨_,_,_,_,_,_,_,_,_,_,_,_,_,HMEM.out,HRA2.out,HAP.out,HRI.out⟩
   ·obtain rfl:k=m:=by omega
    have hlt':decide ((k:Int)<(k:Int))=false:=by simp
    have HR:Hid (S.persist (p:Int) (n:Int)=⟨T.dev.fence,T.dev.fenceE⟩):=LH (by
     have h1:=HEn.out;rw [HKm.out (by first | rfl | trivial)] at h1
     rw [HV.out,← h1,if_neg (by rw [HE0.out];simp)])
    go_wp2_with (refine Qag Qbk HMEM.out 0 rfl rfl rfl rfl rfl ?_)
    refine (Jd8 HTL.out HRA2.out (N:=N+mm) (by omega) HTf.out).mono ?_;rintro e w1 ⟨v',rfl,hra1,hri1,hb1⟩;obtain ⟨an1,cn1,al1,cl1,aw1,cw1,ad1,cd1,ap1,cp1,rfl,y1,y2,y3,y4,y5⟩:=hra1.ex;clear y1 y2 y3 y4 y5;generalize T.dev.fence=T1 at *;generalize T.dev.fenceE=E1 at *;generalize T1.ref.steps=sv1 at *;generalize T1.ref.fuse=fz1 at *;generalize T1.ref.dead=dd1 at *;have HM1:=LH (HMEM.out.later hb1);have HR1:=LH hra1;have hq2:q+2≤wr.heap.size:=HMEM.out.glt 1 rfl;have HAP1:Hid (k=0∨∀b,RIn (.agg #[.slice an1 k cn1,.slice al1 k cl1,.slice aw1 k cw1,.slice ad1 k cd1,.slice ap1 k cp1,.int .i64 sv1,.int .i64 fz1,.bool dd1]) b→b<q∨q+2≤b):=LH (HAP.out.imp id (fun h b hb=>(hri1 b hb).elim (h b) (fun h=>.inr (by omega))));have HRI1:Hid (∀b,RIn (.agg #[.slice an1 k cn1,.slice al1 k cl1,.slice aw1 k cw1,.slice ad1 k cd1,.slice ap1 k cp1,.int .i64 sv1,.int .i64 fz1,.bool dd1]) b→RIn v0 b∨w.heap.size≤b):=LH (fun b hb=>(hri1 b hb).elim (HRI.out b) (fun h=>.inr (by have:=HMEM.out.below.size;omega)));clear hra1 hb1 hri1 HMEM c0 HAP HRI;go_wp2_with (refine Qaa Qbk HM1.out 1 rfl rfl rfl rfl rfl rfl rfl rfl ?_;intro w9 h9 ht9;have H9:=LH h9;have HT9:=LH ht9;clear h9 ht9)
    refine bodyPost_ret (Qac (p:=6) (u:=7) rfl _ _ _ _ _ _ _ rfl (H9.out.exact 1 rfl) Tryz.underlying38 rfl (by kernel_rfl)) rfl ?_;rw [← HPO.out,HR.out];exact ⟨_,rfl,HR1.out.touch HT9.out (HAP1.out.imp id (fun h b hb=>by have:=h b hb;simp;omega)),by rw [← HV0.out];exact HRI1.out,H9.out.below⟩
theorem Qy2 {w:World} {v:Value} {S:Dev} {m:Nat} (hm:S.dirty.length=m) (h:RAt w v m S.ref) {N:Nat} (hN:N<100000000000) (hf:S.fit N) (p n:Int) :
  Calls Tryz.prog 78 #[v,.int .i64 p,.int .i64 n] w (Qmn m (S.persist p n).dev (S.persist p n).err v w):=by
 subst hm;exact Qss h hN hf p n
end
end Go.Proofs.YtpohaahihdhleaaGreat
