/- Parts of the proof, one behind the other: Qd, Qi, Qj, Vn, Wt, Vo, Vg, Vt, Qg, Qa, Qc, Qe, Qh. -/
import Derived.Test.YtpohaahihdhleaaGreatRA11
import Derived.Deep.DeepCutAuto
set_option linter.unusedVariables false
namespace Go.Proofs.YtpohaahihdhleaaGreat
open Go.RowKit
theorem Dev.store_lasting (S : Dev) (i : Int) (x : Nat) : (S.store i x).lasting = S.lasting := by
 unfold Dev.store
 split
 ·rfl
 ·split
  ·exact S.step_rest.1
  ·exact S.step_rest.1
theorem stores_lasting : ∀ (l : List (Nat × Nat)) (S : Dev), (S.stores l).dev.lasting = S.lasting
 | [], _ => rfl
 | (i, x) :: l, S => by
  rw [stores_cons]
  split
  ·exact S.store_lasting _ _
  ·rw [stores_lasting l]; exact S.store_lasting _ _
theorem Dev.flush_lasting (S : Dev) (j : Int) : (S.flush j).lasting = S.lasting := by
 unfold Dev.flush
 split
 ·rfl
 ·split
  ·exact S.step_rest.1
  ·unfold Dev.hold
   split
   ·exact S.step_rest.1
   ·exact S.step_rest.1
theorem flushRun_lasting (S : Dev) (a : Nat) : ∀ m, (S.flushRun a m).dev.lasting = S.lasting
 | 0 => rfl
 | m + 1 => by
  unfold Dev.flushRun
  split
  ·exact flushRun_lasting S a m
  ·exact (Dev.flush_lasting _ _).trans (flushRun_lasting S a m)
theorem fence_lasting {S : Dev} (h : S.fenceE ≠ 0) : S.fence.lasting = S.lasting := by
 unfold Dev.fenceE at h
 by_cases c : S.stop = true
 ·unfold Dev.fence
  rw [if_pos c]
  exact S.step_rest.1
 ·rw [if_neg c] at h; exact absurd rfl h
theorem persist_lasting {S : Dev} {p n : Int} (h : (S.persist p n).err ≠ 0) : (S.persist p n).dev.lasting = S.lasting := by
 unfold Dev.persist at h ⊢
 by_cases c1 : p < 0 ∨ n < 0 ∨ (S.cache.length : Int) < p ∨ (S.cache.length : Int) - p < n
 ·rw [if_pos c1]
 rw [if_neg c1] at h ⊢
 by_cases c2 : 0 < n
 ·rw [if_pos c2] at h ⊢
  unfold Dev.persistN at h ⊢
  by_cases c3 : (S.flushRun (p / 8).toNat ((p + n - 1) / 8 - p / 8 + 1).toNat).err ≠ 0
  ·rw [if_pos c3]; exact flushRun_lasting _ _ _
  ·rw [if_neg c3] at h ⊢
   exact (fence_lasting h).trans (flushRun_lasting _ _ _)
 ·rw [if_neg c2] at h ⊢
  exact fence_lasting h
theorem Dev.store_dirty {S : Dev} (i x : Nat) {k : Nat} (h : (S.store (i : Int) x).dirty.getD k false = true) : S.dirty.getD k false = true ∨ i / 8 = k := by
 unfold Dev.store at h
 split at h
 ·exact .inl h
 ·split at h
  ·rw [S.step_rest.2.2.2.1] at h; exact .inl h
  ·simp only [Dev.put, S.step_rest.2.2.2.1, Int.toNat_natCast] at h
   by_cases c : i / 8 = k
   ·exact .inr c
   ·rw [List.getD_eq_getElem?_getD, List.getElem?_set_ne c, ← List.getD_eq_getElem?_getD] at h
    exact .inl h
theorem stores_dirty : ∀ (l : List (Nat × Nat)) (S : Dev) {k : Nat} (_ : (S.stores l).dev.dirty.getD k false = true), S.dirty.getD k false = true ∨ ∃ q ∈ l, q.1 / 8 = k
 | [], S, k, h => .inl h
 | (i, x) :: l, S, k, h => by
  rw [stores_cons] at h
  by_cases c : S.storeE (i : Int) ≠ 0
  ·rw [if_pos c] at h
   rcases Dev.store_dirty i x h with h | h
   ·exact .inl h
   ·exact .inr ⟨(i, x), List.mem_cons_self, h⟩
  ·rw [if_neg c] at h
   rcases stores_dirty l _ h with h | ⟨q, hq, e⟩
   ·rcases Dev.store_dirty i x h with h | h
    ·exact .inl h
    ·exact .inr ⟨(i, x), List.mem_cons_self, h⟩
   ·exact .inr ⟨q, List.mem_cons_of_mem _ hq, e⟩
def Clr (S : Dev) : Prop := S.inv ∧ ∀ l, S.dirty.getD l false = false
theorem Clr.same {S : Dev} (h : Clr S) : S.lasting = S.cache := by
 apply List.ext_getElem h.1.wf.lenL
 intro i h1 h2
 have := h.1.sound i (h.2 _)
 rw [List.getD_eq_getElem?_getD, List.getElem?_eq_getElem h1, List.getD_eq_getElem?_getD, List.getElem?_eq_getElem h2] at this
 exact this
def Dev.lay (S : Dev) (l : List (Nat × Nat)) (p n : Nat) : Done := (S.stores l).bind (fun S => S.persist (p : Int) (n : Int))
theorem lay_clr {S : Dev} (h : Clr S) {l : List (Nat × Nat)} (hl : ∀ p ∈ l, p.2 < 18446744073709551616) {p n : Nat} (hn : 0 < n) (hk : ∀ q ∈ l, p ≤ q.1 ∧ q.1 < p + n) :
  ((S.lay l p n).err = 0 → Clr (S.lay l p n).dev ∧ (S.lay l p n).dev.cache = l.foldl (fun c p => c.set p.1 p.2) S.cache) ∧ ((S.lay l p n).err ≠ 0 → (S.lay l p n).dev.lasting = S.lasting) := by
 unfold Dev.lay Done.bind
 by_cases hs : (S.stores l).err ≠ 0
 ·rw [if_pos hs]
  exact ⟨fun e => absurd e hs, fun _ => stores_lasting l S⟩
 ·rw [if_neg hs]
  have hs0 : (S.stores l).err = 0 := by simpa using hs
  have hinv := stores_inv h.1 l hl
  have hsl := stores_lasting l S
  have hsc := stores_cache l S hs0
  have hsd : ∀ k, (S.stores l).dev.dirty.getD k false = true → ∃ q ∈ l, q.1 / 8 = k := fun k hk => by
   rcases stores_dirty l S hk with c | c
   ·rw [h.2] at c; cases c
   ·exact c
  generalize (S.stores l).dev = T at *
  refine ⟨fun e => ?_, fun e => (persist_lasting e).trans hsl⟩
  obtain ⟨p1, p2, p3, p4, p5⟩ := Dev.persist_clean hinv p n hn e
  refine ⟨⟨Dev.persist_inv hinv _ _, fun k => ?_⟩, p1.trans hsc⟩
  cases c : T.dirty.getD k false
  ·exact p5 k c
  ·obtain ⟨q, hq, rfl⟩ := hsd k c
   exact p4 q.1 (hk q hq).1 (hk q hq).2
theorem Dev.live.stores {S : Dev} (h : S.live) : ∀ (l : List (Nat × Nat)) (_ : ∀ q ∈ l, q.1 < S.cache.length), (S.stores l).err = 0 ∧ (S.stores l).dev.live ∧ (S.stores l).dev.cache.length = S.cache.length ∧ (S.stores l).dev.dirty.length = S.dirty.length := by
 intro l
 induction l generalizing S with
 | nil => intro _; exact ⟨rfl, h, rfl, rfl⟩
 | cons p l ih =>
  intro hk
  obtain ⟨i, x⟩ := p
  have hs := h.store_ok i x (hk _ List.mem_cons_self)
  have hcl : (S.store (i : Int) x).cache.length = S.cache.length := by rw [hs.2, List.length_set]
  have hdl : (S.store (i : Int) x).dirty.length = S.dirty.length := by
   unfold Dev.store
   split
   ·rfl
   ·split
    ·rw [S.step_rest.2.2.2.1]
    ·simp [Dev.put, S.step_rest.2.2.2.1]
  have h1 := ih (h.store (i : Int) x) (fun q hq => by rw [hcl]; exact hk q (List.mem_cons_of_mem _ hq))
  rw [stores_cons, if_neg (by rw [hs.1]; simp)]
  exact ⟨h1.1, h1.2.1, h1.2.2.1.trans hcl, h1.2.2.2.trans hdl⟩
theorem lay_live {S : Dev} (h : S.live) (hd : S.cache.length = 8 * S.dirty.length) {l : List (Nat × Nat)} {p n : Nat} (hk : ∀ q ∈ l, q.1 < S.cache.length) (hn : 0 < n) (hp : p + n ≤ S.cache.length) : (S.lay l p n).err = 0 ∧ (S.lay l p n).dev.live := by
 obtain ⟨h1, h2, h3, h4⟩ := h.stores l hk
 unfold Dev.lay Done.bind
 rw [if_neg (by rw [h1]; simp)]
 exact ⟨(h2.persist p n hn (by rw [h3, h4]; exact hd) (by rw [h3]; exact hp)).1, h2.persist_live p n hn (by rw [h3, h4]; exact hd) (by rw [h3]; exact hp)⟩
theorem mem_upL {a : Nat} {g : Nat → Nat} {k n j : Nat} : j ∈ (upL a g k n).map Prod.fst ↔ a + k ≤ j ∧ j < a + n := by
 unfold upL
 simp only [List.map_map, List.mem_map, List.mem_range', Function.comp]
 constructor
 ·rintro ⟨b, ⟨i, hi, rfl⟩, rfl⟩; omega
 ·rintro ⟨h1, h2⟩; exact ⟨j - a, ⟨j - a - k, by omega, by omega⟩, by omega⟩
theorem mem_slotL {g : Nat → Nat} {j : Nat} : j ∈ (slotL 64 g).map Prod.fst ↔ 64 ≤ j ∧ j < 80 := by
 rw [show (slotL 64 g).map Prod.fst = [65, 66, 67, 68, 69, 70, 71, 73, 74, 75, 76, 77, 78, 79, 64, 72] from rfl]
 simp only [List.mem_cons, List.not_mem_nil, or_false]
 omega
theorem key_mem {l : List (Nat × Nat)} {q : Nat × Nat} (h : q ∈ l) : q.1 ∈ l.map Prod.fst := List.mem_map_of_mem h
theorem upL_val {a : Nat} {g : Nat → Nat} {k n : Nat} : ∀ p ∈ upL a g k n, p.2 = g (p.1 - a) := fun p hp => by
 obtain ⟨j, _, rfl⟩ := List.mem_map.1 hp
 simp
theorem slotL_val {a : Nat} {g : Nat → Nat} : ∀ p ∈ slotL a g, p.2 = g (p.1 - a) := fun p hp => by
 rcases List.mem_append.1 hp with hp | hp
 ·obtain ⟨j, _, rfl⟩ := List.mem_map.1 hp
  simp
 ·simp only [List.mem_cons, List.not_mem_nil, or_false] at hp
  rcases hp with rfl | rfl
  ·simp
  ·simp
def fmtW (n id j : Nat) : Nat := if j < 8 then (supN n id).getD j 0 else if 64 ≤ j ∧ j < 80 then (slotW 1 [0, 0, 0, 0, 0, 0, 0, 0]).getD (j - 64) 0 else if 257 ≤ j ∧ j < 256 + n then encN ((j - 256 : Nat) : Int) 0 0 0 else 0
theorem Dev.format_is {S : Dev} {n id : Nat} (hn : 2 ≤ n) (hn2 : n ≤ 256) (hlen : S.cache.length = 512 * n) (hd : S.cache.length = 8 * S.dirty.length) : S.format id =
  (S.lay (upL 256 (fun b => encN (b : Int) 0 0 0) 1 n) 257 (n - 1)).bind (fun T => (T.lay (slotL 64 (fun k => (slotW 1 [0, 0, 0, 0, 0, 0, 0, 0]).getD k 0)) 64 16).bind (fun U => U.writeSuper n id)) := by
 unfold Dev.format
 rw [show S.cache.length / 512 = n by omega, if_pos ⟨hn, hn2, by omega⟩]
 unfold Dev.fmtG Dev.lay
 rw [show ((257 : Nat) : Int) = 257 from rfl, show ((n - 1 : Nat) : Int) = (n : Int) - 1 by omega]
 rfl
theorem writeSuper_is {S : Dev} {n id : Nat} (hn : 2 ≤ n) (hn2 : n ≤ 256) (hlen : S.cache.length = 512 * n) : S.writeSuper n id = S.lay (upL 0 (fun k => (supN n id).getD k 0) 0 8) 0 8 := by
 unfold Dev.writeSuper
 rw [if_pos ⟨hn, hn2, by omega⟩]
 rfl
theorem slot1_lt (k : Nat) : (slotW 1 [0, 0, 0, 0, 0, 0, 0, 0]).getD k 0 < 18446744073709551616 := slotW_lt (by decide) k
theorem format_ends {S : Dev} (h : Clr S) {n id : Nat} (hn : 2 ≤ n) (hn2 : n ≤ 256) (hid : id < 18446744073709551616) (hz : S.cache = List.replicate (512 * n) 0) :
  ((S.format id).err = 0 → Clr (S.format id).dev ∧ (S.format id).dev.cache.length = 512 * n ∧ ∀ j, (S.format id).dev.cache.getD j 0 = fmtW n id j) ∧
  ((S.format id).err ≠ 0 → (S.format id).dev.lasting.length = 512 * n ∧ ∀ j, j < 8 → (S.format id).dev.lasting.getD j 0 = 0) := by
 have hlen : S.cache.length = 512 * n := by rw [hz, List.length_replicate]
 have hz0 : ∀ j, S.cache.getD j 0 = 0 := fun j => by
  rw [hz, List.getD_eq_getElem?_getD, List.getElem?_replicate]
  split <;> rfl
 rw [Dev.format_is hn hn2 hlen h.1.wf.lenD]
 have a := lay_clr h (l := upL 256 (fun b => encN (b : Int) 0 0 0) 1 n) (upL_lt _ _ _ _ (fun j => encN_lt _ _ _ _)) (p := 257) (n := n - 1) (by omega) (fun q hq => by have := mem_upL.1 (key_mem hq); omega)
 have hS : S.lasting = S.cache := h.same
 unfold Done.bind
 generalize hD1 : S.lay (upL 256 (fun b => encN (b : Int) 0 0 0) 1 n) 257 (n - 1) = D1 at *
 by_cases c1 : D1.err ≠ 0
 ·rw [if_pos c1]
  refine ⟨fun e => absurd e c1, fun _ => ?_⟩
  rw [a.2 c1, hS]
  exact ⟨hlen, fun j _ => hz0 j⟩
 rw [if_neg c1]
 try dsimp only
 obtain ⟨h1, e1⟩ := a.1 (by simpa using c1)
 have l1 : D1.dev.cache.length = 512 * n := by rw [e1, foldl_set_len, hlen]
 have v1 : ∀ j, j < 512 * n → D1.dev.cache.getD j 0 = if 257 ≤ j ∧ j < 256 + n then encN ((j - 256 : Nat) : Int) 0 0 0 else 0 := fun j hj => by
  rw [e1, foldl_set_at (fun j => encN ((j - 256 : Nat) : Int) 0 0 0) _ upL_val j _ (by omega), hz0]
  by_cases c : 257 ≤ j ∧ j < 256 + n
  ·rw [if_pos c, if_pos (mem_upL.2 (by omega))]
  ·rw [if_neg c, if_neg (fun hh => c (by have := mem_upL.1 hh; omega))]
 clear hD1 a c1 e1
 have b := lay_clr h1 (l := slotL 64 (fun k => (slotW 1 [0, 0, 0, 0, 0, 0, 0, 0]).getD k 0)) (slotL_lt _ _ slot1_lt) (p := 64) (n := 16) (by omega) (fun q hq => by have := mem_slotL.1 (key_mem hq); omega)
 have hS1 := h1.same
 generalize hD2 : D1.dev.lay (slotL 64 (fun k => (slotW 1 [0, 0, 0, 0, 0, 0, 0, 0]).getD k 0)) 64 16 = D2 at *
 by_cases c2 : D2.err ≠ 0
 ·rw [if_pos c2]
  refine ⟨fun e => absurd e c2, fun _ => ?_⟩
  rw [b.2 c2, hS1]
  exact ⟨l1, fun j hj => by rw [v1 j (by omega), if_neg (by omega)]⟩
 rw [if_neg c2]
 try dsimp only
 obtain ⟨h2, e2⟩ := b.1 (by simpa using c2)
 have l2 : D2.dev.cache.length = 512 * n := by rw [e2, foldl_set_len, l1]
 have v2 : ∀ j, j < 512 * n → D2.dev.cache.getD j 0 = if 64 ≤ j ∧ j < 80 then (slotW 1 [0, 0, 0, 0, 0, 0, 0, 0]).getD (j - 64) 0 else if 257 ≤ j ∧ j < 256 + n then encN ((j - 256 : Nat) : Int) 0 0 0 else 0 := fun j hj => by
  rw [e2, foldl_set_at (fun j => (slotW 1 [0, 0, 0, 0, 0, 0, 0, 0]).getD (j - 64) 0) _ slotL_val j _ (by omega), v1 j hj]
  by_cases c : 64 ≤ j ∧ j < 80
  ·rw [if_pos c, if_pos (mem_slotL.2 c)]
  ·rw [if_neg c, if_neg (fun hh => c (mem_slotL.1 hh))]
 clear hD2 b c2 e2 v1
 rw [writeSuper_is hn hn2 l2]
 have c := lay_clr h2 (l := upL 0 (fun k => (supN n id).getD k 0) 0 8) (upL_lt _ _ _ _ (fun j => supN_lt (by omega) hid j)) (p := 0) (n := 8) (by omega) (fun q hq => by have := mem_upL.1 (key_mem hq); omega)
 have hS2 := h2.same
 generalize hD3 : D2.dev.lay (upL 0 (fun k => (supN n id).getD k 0) 0 8) 0 8 = D3 at *
 refine ⟨fun e => ?_, fun e => ?_⟩
 ·obtain ⟨h3, e3⟩ := c.1 e
  have l3 : D3.dev.cache.length = 512 * n := by rw [e3, foldl_set_len, l2]
  refine ⟨h3, l3, fun j => ?_⟩
  by_cases hj : j < 512 * n
  ·rw [e3, foldl_set_at (fun j => (supN n id).getD (j - 0) 0) _ upL_val j _ (by omega), v2 j hj]
   unfold fmtW
   by_cases c : j < 8
   ·rw [if_pos c, if_pos (mem_upL.2 (by omega))]; rfl
   ·rw [if_neg c, if_neg (fun hh => c (by have := mem_upL.1 hh; omega))]
  ·rw [getD_zero_of (by omega)]
   unfold fmtW
   rw [if_neg (by omega), if_neg (by omega), if_neg (by omega)]
 ·rw [c.2 e, hS2]
  exact ⟨l2, fun j hj => by rw [v2 j (by omega), if_neg (by omega), if_neg (by omega)]⟩
theorem format_live {S : Dev} (h : Clr S) (hv : S.live) {n id : Nat} (hn : 2 ≤ n) (hn2 : n ≤ 256) (hid : id < 18446744073709551616) (hlen : S.cache.length = 512 * n) : (S.format id).err = 0 := by
 rw [Dev.format_is hn hn2 hlen h.1.wf.lenD]
 have a := lay_clr h (l := upL 256 (fun b => encN (b : Int) 0 0 0) 1 n) (upL_lt _ _ _ _ (fun j => encN_lt _ _ _ _)) (p := 257) (n := n - 1) (by omega) (fun q hq => by have := mem_upL.1 (key_mem hq); omega)
 have a' := lay_live hv h.1.wf.lenD (l := upL 256 (fun b => encN (b : Int) 0 0 0) 1 n) (p := 257) (n := n - 1) (fun q hq => by have := mem_upL.1 (key_mem hq); omega) (by omega) (by omega)
 unfold Done.bind
 generalize S.lay (upL 256 (fun b => encN (b : Int) 0 0 0) 1 n) 257 (n - 1) = D1 at *
 rw [if_neg (by rw [a'.1]; simp)]
 try dsimp only
 obtain ⟨h1, e1⟩ := a.1 a'.1
 have l1 : D1.dev.cache.length = 512 * n := by rw [e1, foldl_set_len, hlen]
 have b := lay_clr h1 (l := slotL 64 (fun k => (slotW 1 [0, 0, 0, 0, 0, 0, 0, 0]).getD k 0)) (slotL_lt _ _ slot1_lt) (p := 64) (n := 16) (by omega) (fun q hq => by have := mem_slotL.1 (key_mem hq); omega)
 have b' := lay_live a'.2 h1.1.wf.lenD (l := slotL 64 (fun k => (slotW 1 [0, 0, 0, 0, 0, 0, 0, 0]).getD k 0)) (p := 64) (n := 16) (fun q hq => by have := mem_slotL.1 (key_mem hq); omega) (by omega) (by omega)
 generalize D1.dev.lay (slotL 64 (fun k => (slotW 1 [0, 0, 0, 0, 0, 0, 0, 0]).getD k 0)) 64 16 = D2 at *
 rw [if_neg (by rw [b'.1]; simp)]
 try dsimp only
 obtain ⟨h2, e2⟩ := b.1 b'.1
 have l2 : D2.dev.cache.length = 512 * n := by rw [e2, foldl_set_len, l1]
 rw [writeSuper_is hn hn2 l2]
 exact (lay_live b'.2 h2.1.wf.lenD (l := upL 0 (fun k => (supN n id).getD k 0) 0 8) (p := 0) (n := 8) (fun q hq => by have := mem_upL.1 (key_mem hq); omega) (by omega) (by omega)).1
theorem dwords_fmt {T : Dev} {n id : Nat} (hT : ∀ j, T.cache.getD j 0 = fmtW n id j) (a m : Nat) : dwordsAt T a m = (List.range m).map (fun k => fmtW n id (a + k)) := by
 unfold dwordsAt
 exact List.map_congr_left (fun k _ => by rw [peek_in, hT])
theorem supN_of (n id : Nat) : supD (supN n id) = if 2 ≤ n ∧ n ≤ 256 then (n, id, 0) else (0, 0, 26) := by
 unfold supD
 rw [if_neg (by simp [supN]), if_neg (by simp [supN, supH])]
 by_cases h : 2 ≤ n ∧ n ≤ 256
 ·rw [if_pos h, if_pos ⟨h.1, h.2, rfl⟩]; rfl
 ·rw [if_neg h, if_neg (fun hh => h ⟨hh.1, hh.2.1⟩)]
theorem slot_first : slotC (slotD (slotW 1 [0, 0, 0, 0, 0, 0, 0, 0])) (slotD (List.replicate 16 0)) = (1, [0, 0, 0, 0, 0, 0, 0, 0], 0, true) := by kernel_rfl
theorem fmt_sup {T : Dev} {n id : Nat} (hT : ∀ j, T.cache.getD j 0 = fmtW n id j) (hn : 2 ≤ n) (hn2 : n ≤ 256) (hlen : T.cache.length = 512 * n) : supR T = (n, id, 0) := by
 unfold supR
 have : dwordsAt T 0 8 = supN n id := by rw [dwords_fmt hT]; rfl
 have hs : supD (supN n id) = (n, id, 0) := by rw [supN_of, if_pos ⟨hn, hn2⟩]
 rw [this, hs, if_neg]
 rintro (h | h)
 ·exact h rfl
 ·exact h hlen.symm
theorem fmt_roots {T : Dev} {n id : Nat} (hT : ∀ j, T.cache.getD j 0 = fmtW n id j) : rootsN T = (1, [0, 0, 0, 0, 0, 0, 0, 0], 0, true) := by
 unfold rootsN
 have h1 : dwordsAt T 64 16 = slotW 1 [0, 0, 0, 0, 0, 0, 0, 0] := by
  rw [dwords_fmt hT]
  apply List.ext_getElem (by rw [slotW_len]; simp)
  intro i h1 h2
  have hi : i < 16 := by simpa using h1
  rw [List.getElem_map, List.getElem_range]
  unfold fmtW
  rw [if_neg (by omega), if_pos (by omega), Nat.add_sub_cancel_left, List.getD_eq_getElem?_getD, List.getElem?_eq_getElem h2]
  rfl
 have h2 : dwordsAt T 128 16 = List.replicate 16 0 := by
  rw [dwords_fmt hT]
  apply List.ext_getElem (by simp)
  intro i h1 h2
  have hi : i < 16 := by simpa using h1
  rw [List.getElem_map, List.getElem_range, List.getElem_replicate]
  unfold fmtW
  rw [if_neg (by omega), if_neg (by omega), if_neg (by omega)]
 rw [h1, h2]
 exact slot_first
theorem fmt_word {T : Dev} {n id : Nat} (hT : ∀ j, T.cache.getD j 0 = fmtW n id j) {b : Nat} (h1 : 1 ≤ b) (h2 : b < n) : devWord T b = encN (b : Int) 0 0 0 := by
 rw [devWord_at, hT]
 unfold fmtW
 rw [if_neg (by omega), if_neg (by omega), if_pos (by omega), Nat.add_sub_cancel_left]
theorem empty_hds {T : Dev} {n id : Nat} (hT : ∀ j, T.cache.getD j 0 = fmtW n id j) : hds (devWord T) n = List.replicate n default := by
 unfold hds
 apply List.ext_getElem (by simp)
 intro b h1 h2
 have hb : b < n := by simpa using h1
 rw [List.getElem_replicate, List.getElem_map, List.getElem_range]
 unfold hdF
 split
 ·rfl
 ·rw [fmt_word hT (by omega) hb, dec_enc _ _ _ _ right_zero]; rfl
theorem no_rch {ok : Nat → Prop} {P : Nat → List Nat} {f : List Nat} (h0 : ¬ ok 0) (hf : ∀ x ∈ f, x = 0) {y : Nat} (h : Rch ok P f y) : False := by
 induction h with
 | base h hx => exact h0 (hf _ h ▸ hx)
 | step _ _ _ ih => exact ih
theorem fmt_rootL {T : Dev} {n id : Nat} (hT : ∀ j, T.cache.getD j 0 = fmtW n id j) : ∀ x ∈ rootL T, x = 0 := by
 unfold rootL
 rw [fmt_roots hT]
 intro x hx
 simp at hx
 exact hx
theorem fmt_look {T : Dev} {n id : Nat} (hT : ∀ j, T.cache.getD j 0 = fmtW n id j) (hn : 2 ≤ n) (hn2 : n ≤ 256) (hlen : T.cache.length = 512 * n) : lookE T = 0 := by
 have hs := fmt_sup hT hn hn2 hlen
 unfold lookE
 rw [hs, if_neg (by simp), if_neg, if_neg, if_neg]
 ·rw [Classical.not_not]
  rintro x hx (h | ⟨y, hy, _⟩)
  ·exact absurd (fmt_rootL hT x h) hx
  ·exact (no_rch (okN_zero _ _) (fmt_rootL hT) hy).elim
 ·rw [fmt_roots hT]; simp
 ·rw [Classical.not_not]
  intro b h1 h2
  rw [fmt_word hT h1 h2, dec_enc _ _ _ _ right_zero]
theorem fmt_live {T : Dev} {n id : Nat} (hT : ∀ j, T.cache.getD j 0 = fmtW n id j) {ys : List Nat} (h : ∀ x, x ∈ ys ↔ Rch (okN T (lookL T)) (ptrN T) (rootL T) x) : ys = [] :=
 List.eq_nil_iff_forall_not_mem.2 (fun x hx => no_rch (okN_zero _ _) (fmt_rootL hT) ((h x).1 hx))
theorem fmt_rewrite {T : Dev} {n id : Nat} (hT : ∀ j, T.cache.getD j 0 = fmtW n id j) (hn : 2 ≤ n) (hn2 : n ≤ 256) (hlen : T.cache.length = 512 * n) : T.rewrite (lookL T) (keepL (lookL T) []) n = ⟨T, 0⟩ := by
 have hL : lookL T = List.replicate n default := by unfold lookL; rw [fmt_sup hT hn hn2 hlen]; exact empty_hds hT
 unfold Dev.rewrite
 rw [if_pos]
 unfold chgL
 rw [List.filter_eq_nil_iff.2, List.map_nil]
 intro b _
 rw [hL]
 unfold keepL
 simp
theorem fmt_count {n : Nat} (h2 : 2 ≤ n) (h5 : n ≤ 5) : sumOf (runsOf (freeL (freeAt (List.replicate n default)) n n)) = n - 1 := by
 have : n = 2 ∨ n = 3 ∨ n = 4 ∨ n = 5 := by omega
 rcases this with rfl | rfl | rfl | rfl <;> decide
theorem store_lens (S : Dev) (i : Int) (x : Nat) : (S.store i x).cache.length = S.cache.length ∧ (S.store i x).dirty.length = S.dirty.length := by
 obtain ⟨_, e2, _, e4, _⟩ := S.step_rest
 unfold Dev.store
 split
 ·exact ⟨rfl, rfl⟩
 ·split
  ·rw [e2, e4]; exact ⟨rfl, rfl⟩
  ·simp [Dev.put, e2, e4]
theorem format_okN {S : Dev} (h : S.inv) {N : Nat} (ho : S.ok N) (id : Nat) (hid : id < 18446744073709551616) : (S.format id).dev.ok (N + 900000) := by
 unfold Dev.format
 split
 ·rename_i hc
  have h1 := fmtG_ok h ho (S.cache.length / 512) (by omega)
  have i1 := fmtG_inv h (S.cache.length / 512)
  refine Done.bind_okN h1 (by omega) ?_
  have h2 := writeSlot_ok i1 h1 64 1 [0, 0, 0, 0, 0, 0, 0, 0] (by omega)
  have i2 := writeSlot_inv i1 64 1 [0, 0, 0, 0, 0, 0, 0, 0] (by omega)
  exact Done.bind_okN h2 (by omega) ((writeSuper_ok i2 h2 _ id hid).mono (by omega))
 ·exact ho.mono (by omega)
theorem Clr.arm {S : Dev} (h : Clr S) (n : Int) : Clr (S.arm n) := ⟨⟨⟨h.1.wf.lenL, h.1.wf.lenF, h.1.wf.lenP, h.1.wf.lenD, h.1.wf.small, h.1.wf.u64L, h.1.wf.u64C, h.1.wf.u64F⟩, h.1.sound, h.1.pend⟩, h.2⟩
theorem fresh_clr {ws : List Nat} {m : Nat} (h8 : ws.length = 8 * m) (hs : ws.length ≤ 1000000) (hu : ∀ z ∈ ws, z < 18446744073709551616) : Clr (freshDev ws m) :=
 ⟨fresh_inv h8 hs hu, fun l => by unfold freshDev; simp only [List.getD_eq_getElem?_getD, List.getElem?_replicate]; split <;> rfl⟩
theorem RvOpen.fmt {S : Dev} {F : Foot} {w w' : World} {e : Ending} (h : RvOpen S F w e w') {n id : Nat} (hT : ∀ j, S.cache.getD j 0 = fmtW n id j) (hn : 2 ≤ n) (hn2 : n ≤ 5) (hlen : S.cache.length = 512 * n) :
  Touch F.list w w' ∧ ∃ (A : AF) (nn g : Nat) (m : Al) (va : Option Addr) (vc : Nat), e = .returned (.tuple #[stV n id (valloc A) (.pointer (some ⟨g, 0, none⟩)) (.slice va 0 vc), .int .i64 0]) ∧ AlAt w' A nn n m ∧ sumOf (runsOf m.bm.free) = n - 1 := by
 obtain ⟨ht, ⟨he, _⟩ | ⟨_, ys, _, hys, h⟩⟩ := h
 ·exact absurd (fmt_look hT hn (by omega) hlen) he
 ·have := fmt_live hT hys
  subst this
  have hs := fmt_sup hT hn (by omega) hlen
  have hr := fmt_rewrite hT hn (by omega) hlen
  rw [hs] at h
  dsimp only at h
  rw [hr] at h
  rcases h with ⟨h, _⟩ | ⟨_, A, nn, g, lv, rfl, _, _, hal, _, hlv, _⟩
  ·exact absurd rfl h
  ·obtain ⟨va, vc, rfl, _⟩ := hlv.cells
   refine ⟨ht, A, nn, g, _, va, vc, rfl, hal, ?_⟩
   show sumOf (runsOf (freeL (freeAt (hds (devWord S) n)) n n)) = n - 1
   rw [empty_hds hT]
   exact fmt_count hn hn2
structure Pw (P : Nat → Nat → Prop) (D : Dev) : Prop where
 las : ∀ j, P j (D.lasting.getD j 0)
 cac : ∀ j, P j (D.cache.getD j 0)
 flu : ∀ j, D.pending.getD (j / 8) false = true → P j (D.flushed.getD j 0)
section
variable {P : Nat → Nat → Prop} {D : Dev}
theorem Pw.step (h : Pw P D) : Pw P D.step := by
 obtain ⟨e1, e2, e3, e4, e5⟩ := D.step_rest
 exact ⟨by rw [e1]; exact h.las, by rw [e2]; exact h.cac, by rw [e3, e5]; exact h.flu⟩
theorem Pw.store (h : Pw P D) (i : Nat) {x : Nat} (hx : P i x) : Pw P (D.store (i : Int) x) := by
 unfold Dev.store
 split
 ·exact h
 ·rename_i hi
  split
  ·exact h.step
  ·have h1 := h.step
   refine ⟨h1.las, fun j => ?_, h1.flu⟩
   show P j ((D.step.cache.set (i : Int).toNat x).getD j 0)
   rw [Int.toNat_natCast, getD_setN _ _ _ _ (by rw [D.step_rest.2.1]; omega)]
   by_cases e : j = i
   ·rw [if_pos e, e]; exact hx
   ·rw [if_neg e]; exact h1.cac j
theorem Pw.stores : ∀ (l : List (Nat × Nat)) {D : Dev}, Pw P D → (∀ q ∈ l, P q.1 q.2) → Pw P (D.stores l).dev
 | [], _, h, _ => h
 | (i, x) :: l, D, h, hl => by
  have h1 := h.store i (hl _ List.mem_cons_self)
  rw [stores_cons]
  split
  ·exact h1
  ·exact Pw.stores l h1 (fun q hq => hl q (List.mem_cons_of_mem _ hq))
theorem Pw.hold (h : Pw P D) (hw : D.wf) {j : Nat} (hj : j < D.dirty.length) : Pw P (D.hold j) := by
 unfold Dev.hold
 split
 ·have hD := hw.lenD
  refine ⟨h.las, h.cac, fun i hi => ?_⟩
  show P i ((splice D.flushed (8 * j) (seg D.cache j)).getD i 0)
  rw [splice_seg_getD _ _ _ _ (by rw [hw.lenF]; omega) (by omega)]
  by_cases e : i / 8 = j
  ·rw [if_pos e]; exact h.cac i
  ·rw [if_neg e]
   refine h.flu i ?_
   have : (D.pending.set j true).getD (i / 8) false = true := hi
   rw [getD_setB _ _ _ _ (by rw [hw.lenP]; exact hj), if_neg e] at this
   exact this
 ·exact h
theorem Pw.flush (h : Pw P D) (hw : D.wf) (j : Int) : Pw P (D.flush j) := by
 unfold Dev.flush
 split
 ·exact h
 ·split
  ·exact h.step
  ·exact h.step.hold (Dev.step_wf hw) (by rw [D.step_rest.2.2.2.1]; omega)
theorem Pw.flushRun (h : Pw P D) (hi : D.inv) (a : Nat) : ∀ m, Pw P (D.flushRun a m).dev
 | 0 => h
 | m + 1 => by
  unfold Dev.flushRun
  split
  ·exact Pw.flushRun h hi a m
  ·exact (Pw.flushRun h hi a m).flush (Dev.flushRun_inv hi a m).wf _
theorem Pw.fence (h : Pw P D) (hw : D.wf) : Pw P D.fence := by
 cases hs : D.stop
 ·have f := Dev.fence_at hw hs
  refine ⟨fun j => ?_, by rw [f.cache]; exact h.cac, fun j hj => ?_⟩
  ·rw [f.lasting]
   split
   ·rename_i hc; exact h.flu j hc.2
   ·exact h.las j
  ·rw [f.pending] at hj
   rw [f.flushed]
   split at hj
   ·cases hj
   ·exact h.flu j hj
 ·unfold Dev.fence
  rw [hs]
  exact h.step
theorem Pw.persist (h : Pw P D) (hi : D.inv) (p n : Int) : Pw P (D.persist p n).dev := by
 unfold Dev.persist
 split
 ·exact h
 ·split
  ·unfold Dev.persistN
   split
   ·exact h.flushRun hi _ _
   ·exact (h.flushRun hi _ _).fence (Dev.flushRun_inv hi _ _).wf
  ·exact h.fence hi.wf
theorem Pw.lay (h : Pw P D) (hi : D.inv) {l : List (Nat × Nat)} (hl : ∀ q ∈ l, P q.1 q.2) (hu : ∀ p ∈ l, p.2 < 18446744073709551616) (p n : Int) : Pw P ((D.stores l).bind (fun S => S.persist p n)).dev := by
 unfold Done.bind
 split
 ·exact h.stores l hl
 ·exact (h.stores l hl).persist (stores_inv hi l hu) p n
theorem Pw.crash (h : Pw P D) (hw : D.wf) (cs : List Nat) : ∀ j, P j ((D.crashW cs).getD j 0) := by
 unfold Dev.crashW
 have hls : ∀ l ∈ dirtyL D.dirty D.dirty.length, l < D.dirty.length := fun l hl => ((dirtyL_mem _ _ _).1 hl).1
 generalize dirtyL D.dirty D.dirty.length = ls at *
 have hD := hw.lenD
 have key : ∀ i, i ≤ ls.length → ∀ j, P j ((crashTo D ls cs i).getD j 0) := by
  intro i
  induction i with
  | zero => intro _; exact h.las
  | succ i ih =>
   intro hi j
   have hlen := (crashTo_wf hw ls cs hls i (by omega)).1
   have hl := hls (ls.getD i 0) (by
    rw [List.getD_eq_getElem?_getD, List.getElem?_eq_getElem (by omega)]
    exact List.getElem_mem _)
   have ih := ih (by omega)
   rw [show crashTo D ls cs (i + 1) = crashOne D (crashTo D ls cs i) (ls.getD i 0) (cs.getD i 0) from rfl]
   generalize crashTo D ls cs i = out at *
   generalize ls.getD i 0 = l at *
   unfold crashOne
   split
   ·split
    ·rename_i hp
     rw [splice_seg_getD _ _ _ _ (by omega) (by rw [hw.lenF]; omega)]
     split
     ·rename_i e; exact h.flu j (by rw [e]; exact hp)
     ·exact ih j
    ·exact ih j
   ·split
    ·rw [splice_seg_getD _ _ _ _ (by omega) (by omega)]
     split
     ·exact h.cac j
     ·exact ih j
    ·exact ih j
 exact key _ (Nat.min_le_left _ _)
end
theorem Clr.pw {P : Nat → Nat → Prop} {S : Dev} (h : Clr S) (hP : ∀ j, P j (S.cache.getD j 0)) : Pw P S :=
 ⟨fun j => by rw [h.same]; exact hP j, hP, fun j hj => by
  have := h.1.pend _ hj
  rw [h.2] at this; cases this⟩
structure KeptL (L : List Hd) (ys : List Nat) (M : List Hd) : Prop where
 len : M.length = L.length
 at_ : ∀ i, M.getD i default = L.getD i default ∨ M.getD i default = (keepL L ys).getD i default
section
variable {S : Dev} {L M : List Hd} {ys : List Nat}
theorem KeptL.kept (hM : KeptL L ys M) (h : Live S L ys) {x : Nat} (hx : x ∈ ys) {i : Nat} (h1 : x / 512 ≤ i) (h2 : i < x / 512 + keepN L (x / 512)) : M.getD i default = L.getD i default := by
 rcases hM.at_ i with c | c
 ·exact c
 ·rw [c]; exact h.kept hx h1 h2
theorem KeptL.kept0 (hM : KeptL L ys M) (h : Live S L ys) {x : Nat} (hx : x ∈ ys) : M.getD (x / 512) default = L.getD (x / 512) default := by
 have hr := h.room hx
 have := (keepN_fits (L := L) (b := x / 512) (by omega)).1
 exact hM.kept h hx (Nat.le_refl _) (by omega)
theorem KeptL.whole (hM : KeptL L ys M) (h : Live S L ys) {x : Nat} (hx : x ∈ ys) : wholeN M (x / 512) = wholeN L (x / 512) := by
 by_cases hw : wholeN L (x / 512) = 0
 ·rw [hw]
  rcases (h.room hx).2.2 with ⟨r1, r2⟩ | ⟨r1, _⟩
  ·by_cases c4 : wholeN M (x / 512) = 0
   ·exact c4
   ·have := (wholeN_fits c4).2.1
    rw [hM.kept0 h hx] at this
    omega
  ·exact absurd hw r1
 ·obtain ⟨f1, f2, f3, f4, f5⟩ := wholeN_fits hw
  have hkn : keepN L (x / 512) = wholeN L (x / 512) := by unfold keepN; omega
  refine wholeN_of (by omega) ?_ (by rw [hM.len]; exact f4) (fun i i1 i2 => ?_)
  ·rw [hM.kept0 h hx]
   have hr := of_decide_eq_true (h.right (x / 512) f1)
   unfold HdRight at hr
   have h3 : (L.getD (x / 512) default).c = 0 := by omega
   generalize L.getD (x / 512) default = y at *
   obtain ⟨k, c, l⟩ := y
   dsimp only at f2 f3 h3
   rw [f2, h3, f3]
  ·rw [hM.kept h hx (by omega) (by rw [hkn]; omega)]
   exact f5 i i1 i2
theorem KeptL.placed (hM : KeptL L ys M) (h : Live S L ys) {T : Dev} (hc : ∀ j, 512 ≤ j → T.cache.getD j 0 = S.cache.getD j 0) (hl : T.cache.length = S.cache.length) {x : Nat} (hx : x ∈ ys) : placedN T M (x : Int) = placedN S L (x : Int) := by
 have hr := h.room hx
 have hp : ∀ i : Nat, peek T.cache ((x : Int) + (i : Int)) = peek S.cache ((x : Int) + (i : Int)) := fun i => by
  rw [show (x : Int) + (i : Int) = ((x + i : Nat) : Int) by omega, peek_in, peek_in]
  exact hc _ (by omega)
 have hh : headN T (x : Int) = headN S (x : Int) := by
  have h0 := hp 0
  simp at h0
  unfold headN
  rw [hl, h0]
 unfold placedN
 rw [hh, hM.len]
 by_cases c1 : (x : Int) < 512 ∨ 512 * (L.length : Int) ≤ (x : Int) ∨ (headN S (x : Int)).code ≠ 0
 ·rw [if_pos c1, if_pos c1]
 ·rw [if_neg c1, if_neg c1]
  by_cases c2 : small (objSize (headN S (x : Int)).p (headN S (x : Int)).d)
  ·rw [if_pos c2, if_pos c2]
   have hq : isCell M (ofN (objSize (headN S (x : Int)).p (headN S (x : Int)).d : Nat)) (x : Int).toNat ↔ isCell L (ofN (objSize (headN S (x : Int)).p (headN S (x : Int)).d : Nat)) (x : Int).toNat := by
    rw [Int.toNat_natCast]
    unfold isCell
    rw [hM.len, hM.kept0 h hx]
   by_cases c3 : isCell L (ofN (objSize (headN S (x : Int)).p (headN S (x : Int)).d : Nat)) (x : Int).toNat
   ·rw [if_pos c3, if_pos (hq.2 c3)]
   ·rw [if_neg c3, if_neg (fun hh => c3 (hq.1 hh))]
  ·rw [if_neg c2, if_neg c2, Int.toNat_natCast, hM.whole h hx]
theorem KeptL.keep (hM : KeptL L ys M) (h : Live S L ys) : keepL M ys = keepL L ys := by
 have hk : ∀ x ∈ ys, ∀ i, HdStays M x i ↔ HdStays L x i := fun x hx i => by
  unfold HdStays keepN
  rw [hM.len, hM.whole h hx]
 have he : ∀ i, (keepL M ys).getD i default = (keepL L ys).getD i default := fun i => by
  classical
  rw [keepL_at, keepL_at]
  by_cases c : ∃ x ∈ ys, HdStays L x i
  ·rw [if_pos c]
   obtain ⟨x, hx, hs⟩ := c
   rw [if_pos ⟨x, hx, (hk x hx i).2 hs⟩]
   exact hM.kept h hx hs.2.2.1 hs.2.2.2
  ·rw [if_neg c, if_neg (fun hh => by obtain ⟨x, hx, hs⟩ := hh; exact c ⟨x, hx, (hk x hx i).1 hs⟩)]
 apply List.ext_getElem (by rw [keepL_len, keepL_len, hM.len])
 intro i h1 h2
 have := he i
 rw [List.getD_eq_getElem?_getD, List.getElem?_eq_getElem h1, List.getD_eq_getElem?_getD, List.getElem?_eq_getElem h2] at this
 exact this
end
theorem ptrsD_same {S T : Dev} (hl : T.cache.length = S.cache.length) {x : Nat} (hp : ∀ i : Nat, peek T.cache ((x : Int) + (i : Int)) = peek S.cache ((x : Int) + (i : Int))) : ptrsD T (x : Int) = ptrsD S (x : Int) := by
 have hh : headN T (x : Int) = headN S (x : Int) := by
  have h0 := hp 0
  simp at h0
  unfold headN
  rw [hl, h0]
 unfold ptrsD
 rw [hh]
 split
 ·unfold ptrL
  refine List.map_congr_left (fun i _ => ?_)
  have := hp (1 + i)
  rw [show (x : Int) + ((1 + i : Nat) : Int) = (x : Int) + 1 + (i : Int) by omega] at this
  rw [this]
 ·rfl
def MixW (S : Dev) (n : Nat) (ys : List Nat) (j v : Nat) : Prop := v = S.cache.getD j 0 ∨ ∃ b, 1 ≤ b ∧ b < n ∧ j = 256 + b ∧ v = encN (b : Int) ((keepL (lookL S) ys).getD b default).k ((keepL (lookL S) ys).getD b default).c ((keepL (lookL S) ys).getD b default).l
theorem rewrite_mix {S U : Dev} (hU : Clr U) (hc : U.cache = S.cache) {n : Nat} {ys : List Nat} : Pw (MixW S n ys) (U.rewrite (lookL S) (keepL (lookL S) ys) n).dev := by
 have h0 : Pw (MixW S n ys) U := hU.pw (fun j => .inl (by rw [hc]))
 unfold Dev.rewrite
 split
 ·exact h0
 ·refine h0.lay hU.1 (fun q hq => ?_) (fun q hq => ?_) _ _
  ·unfold chgL at hq
   obtain ⟨b, hb, rfl⟩ := List.mem_map.1 hq
   have hb := (List.mem_filter.1 hb).1
   rw [List.mem_range'] at hb
   obtain ⟨i, hi, rfl⟩ := hb
   exact .inr ⟨1 + 1 * i, by omega, by omega, rfl, rfl⟩
  ·unfold chgL at hq
   obtain ⟨b, _, rfl⟩ := List.mem_map.1 hq
   exact encN_lt _ _ _ _
theorem rewrite_inv {U : Dev} (hU : U.inv) (L K : List Hd) (n : Nat) : (U.rewrite L K n).dev.inv := by
 unfold Dev.rewrite
 split
 ·exact hU
 ·exact put_inv hU (fun p hp => by
   unfold chgL at hp
   obtain ⟨b, _, rfl⟩ := List.mem_map.1 hp
   exact encN_lt _ _ _ _) _ _
theorem rewrite_live {U : Dev} (hv : U.live) (hd : U.cache.length = 8 * U.dirty.length) {L K : List Hd} {n : Nat} (hn : 2 ≤ n) (hlen : U.cache.length = 512 * n) : (U.rewrite L K n).err = 0 := by
 unfold Dev.rewrite
 split
 ·rfl
 ·have := (lay_live hv hd (l := chgL L K 1 n) (p := 257) (n := n - 1) (fun q hq => by
   obtain ⟨b, h1, h2, h3, _⟩ := chgL_key.1 (key_mem hq)
   omega) (by omega) (by omega)).1
  unfold Dev.lay at this
  rw [show ((257 : Nat) : Int) = 257 from rfl, show ((n - 1 : Nat) : Int) = (n : Int) - 1 by omega] at this
  exact this
structure Again (S T : Dev) (ys : List Nat) : Prop where
 sup : supR T = supR S
 roots : rootsN T = rootsN S
 look : lookE T = 0
 rch : ∀ x, Rch (okN T (lookL T)) (ptrN T) (rootL T) x ↔ Rch (okN S (lookL S)) (ptrN S) (rootL S) x
 keep : keepL (lookL T) ys = keepL (lookL S) ys
 high : ∀ j, 512 ≤ j → T.cache.getD j 0 = S.cache.getD j 0
theorem mix_again {S T : Dev} {n : Nat} {ys : List Nat} (hS : lookE S = 0) (hn : n = (supR S).1) (hys : ∀ x, x ∈ ys ↔ Rch (okN S (lookL S)) (ptrN S) (rootL S) x) (hl : T.cache.length = S.cache.length) (hT : ∀ j, MixW S n ys j (T.cache.getD j 0)) : Again S T ys := by
 obtain ⟨h1, h2, h3, h4⟩ := lookE_zero hS
 obtain ⟨s1, s2, s3⟩ := supR_ok h1
 rw [← hn] at h2 s1 s2 s3
 have hout : ∀ j, j < 257 ∨ 256 + n ≤ j → T.cache.getD j 0 = S.cache.getD j 0 := fun j hj => by
  rcases hT j with c | ⟨b, b1, b2, rfl, _⟩
  ·exact c
  ·omega
 have hdw : ∀ a m, a + m ≤ 257 → dwordsAt T a m = dwordsAt S a m := fun a m ham => by
  unfold dwordsAt
  refine List.map_congr_left (fun k hk => ?_)
  rw [peek_in, peek_in]
  have := List.mem_range.1 hk
  exact hout _ (.inl (by omega))
 have hsup : supR T = supR S := by unfold supR; rw [hdw 0 8 (by omega), hl]
 have hro : rootsN T = rootsN S := by unfold rootsN; rw [hdw 64 16 (by omega), hdw 128 16 (by omega)]
 have hlv : Live S (lookL S) ys := look_live hS (fun x hx => ((hys x).1 hx).ok')
 have hLl : (lookL S).length = n := by rw [hn]; unfold lookL; exact hds_length _ _
 have hw : ∀ b, 1 ≤ b → b < n → devWord S b = encN (b : Int) ((lookL S).getD b default).k ((lookL S).getD b default).c ((lookL S).getD b default).l ∧ hdRight ((lookL S).getD b default).k ((lookL S).getD b default).c ((lookL S).getD b default).l = true := fun b b1 b2 => by
  unfold lookL
  rw [← hn]
  exact hds_word h2 b1 b2
 have hKr : ∀ b, b < n → hdRight ((keepL (lookL S) ys).getD b default).k ((keepL (lookL S) ys).getD b default).c ((keepL (lookL S) ys).getD b default).l = true := fun b hb => by
  rcases hlv.cases b with c | ⟨c, _⟩
  ·rw [c]; exact right_zero
  ·rw [c]; exact hlv.right b (by rw [hLl]; exact hb)
 have hword : ∀ b, 1 ≤ b → b < n → ∃ z : Hd, (z = (lookL S).getD b default ∨ z = (keepL (lookL S) ys).getD b default) ∧ decN (b : Int) (devWord T b) = ⟨z.k, z.c, z.l, 0⟩ := fun b b1 b2 => by
  rcases hT (256 + b) with c | ⟨b', _, _, e, c⟩
  ·refine ⟨_, .inl rfl, ?_⟩
   rw [devWord_at, c, ← devWord_at, (hw b b1 b2).1]
   exact dec_enc _ _ _ _ (hw b b1 b2).2
  ·obtain rfl : b = b' := by omega
   refine ⟨_, .inr rfl, ?_⟩
   rw [devWord_at, c]
   exact dec_enc _ _ _ _ (hKr b b2)
 have hMl : (lookL T).length = n := by unfold lookL; rw [hds_length, hsup, hn]
 have hM : KeptL (lookL S) ys (lookL T) := ⟨by rw [hMl, hLl], fun i => by
  by_cases hi : i < n
  ·by_cases h0 : i = 0
   ·subst h0
    refine .inl ?_
    rw [hlv.zero]
    unfold lookL
    rw [hds_at _ (by rw [hsup, ← hn]; exact hi)]
    unfold hdF
    rw [if_pos rfl]; rfl
   ·obtain ⟨z, hz, hd⟩ := hword i (by omega) hi
    have : (lookL T).getD i default = z := by
     unfold lookL
     rw [hds_at _ (by rw [hsup, ← hn]; exact hi)]
     unfold hdF
     rw [if_neg h0, hd]
    rw [this]; exact hz
  ·refine .inl ?_
   rw [List.getD_eq_getElem?_getD, List.getElem?_eq_none (by omega), List.getD_eq_getElem?_getD, List.getElem?_eq_none (by omega)]⟩
 have hhigh : ∀ j, 512 ≤ j → T.cache.getD j 0 = S.cache.getD j 0 := fun j hj => hout j (.inr (by omega))
 have hrl : rootL T = rootL S := by unfold rootL; rw [hro]
 have hpl : ∀ x ∈ ys, placedN T (lookL T) (x : Int) = placedN S (lookL S) (x : Int) := fun x hx => hM.placed hlv hhigh hl hx
 have hok : ∀ x ∈ ys, okN T (lookL T) x := fun x hx => by
  unfold okN
  rw [hpl x hx]
  exact hlv.ok x hx
 have hpt : ∀ x ∈ ys, ptrN T x = ptrN S x := fun x hx => by
  unfold ptrN
  have hr := hlv.room hx
  have hp : ∀ i : Nat, peek T.cache ((x : Int) + (i : Int)) = peek S.cache ((x : Int) + (i : Int)) := fun i => by
   rw [show (x : Int) + (i : Int) = ((x + i : Nat) : Int) by omega, peek_in, peek_in]
   exact hhigh _ (by omega)
  exact ptrsD_same hl hp
 have fwd : ∀ x, Rch (okN S (lookL S)) (ptrN S) (rootL S) x → Rch (okN T (lookL T)) (ptrN T) (rootL T) x := fun x hx => by
  induction hx with
  | base h hx => exact .base (by rw [hrl]; exact h) (hok _ ((hys _).2 (.base h hx)))
  | step hy h hx ih => exact .step ih (by rw [hpt _ ((hys _).2 hy)]; exact h) (hok _ ((hys _).2 (.step hy h hx)))
 have bwd : ∀ x, Rch (okN T (lookL T)) (ptrN T) (rootL T) x → Rch (okN S (lookL S)) (ptrN S) (rootL S) x := fun x hx => by
  induction hx with
  | base h hx =>
   rw [hrl] at h
   exact .base h (h4 _ (fun h0 => okN_zero _ _ (h0 ▸ hx)) (.inl h))
  | step hy h hx ih =>
   rw [hpt _ ((hys _).2 ih)] at h
   exact .step ih h (h4 _ (fun h0 => okN_zero _ _ (h0 ▸ hx)) (.inr ⟨_, ih, h⟩))
 refine ⟨hsup, hro, ?_, fun x => ⟨bwd x, fwd x⟩, hM.keep hlv, hhigh⟩
 unfold lookE
 rw [if_neg (by rw [hsup]; simpa using h1), if_neg, if_neg (by rw [hro, h3]; simp), if_neg]
 ·rw [Classical.not_not]
  rintro x hx0 (h | ⟨y, hy, h⟩)
  ·rw [hrl] at h
   exact hok x ((hys x).2 (.base h (h4 x hx0 (.inl h))))
  ·have hy' := bwd y hy
   rw [hpt y ((hys y).2 hy')] at h
   exact hok x ((hys x).2 (.step hy' h (h4 x hx0 (.inr ⟨y, hy', h⟩))))
 ·rw [Classical.not_not, hsup, ← hn]
  intro b b1 b2
  obtain ⟨z, _, hd⟩ := hword b b1 b2
  rw [hd]
theorem look_cache {S U : Dev} (h : U.cache = S.cache) : lookE U = lookE S ∧ supR U = supR S ∧ rootsN U = rootsN S ∧ lookL U = lookL S ∧ okN U = okN S ∧ ptrN U = ptrN S ∧ rootL U = rootL S := by
 obtain ⟨a1, a2, a3, a4, a5, a6, a7, a8, a9⟩ := U
 obtain ⟨b1, b2, b3, b4, b5, b6, b7, b8, b9⟩ := S
 dsimp only at h
 subst h
 exact ⟨rfl, rfl, rfl, rfl, rfl, rfl, rfl⟩
theorem stores_len : ∀ (l : List (Nat × Nat)) (S : Dev), (S.stores l).dev.cache.length = S.cache.length
 | [], _ => rfl
 | (i, x) :: l, S => by
  rw [stores_cons]
  split
  ·exact (store_lens S _ _).1
  ·rw [stores_len l]; exact (store_lens S _ _).1
theorem flushRun_cache (S : Dev) (a : Nat) : ∀ m, (S.flushRun a m).dev.cache = S.cache
 | 0 => rfl
 | m + 1 => by
  unfold Dev.flushRun
  split
  ·exact flushRun_cache S a m
  ·exact (Dev.flush_len _ _).1.trans (flushRun_cache S a m)
theorem fence_cache {S : Dev} (h : S.wf) : S.fence.cache = S.cache := by
 cases hs : S.stop
 ·exact (Dev.fence_at h hs).cache
 ·unfold Dev.fence
  rw [hs]
  exact S.step_rest.2.1
theorem persist_cache {S : Dev} (h : S.inv) (p n : Int) : (S.persist p n).dev.cache = S.cache := by
 unfold Dev.persist
 split
 ·rfl
 ·split
  ·unfold Dev.persistN
   split
   ·exact flushRun_cache _ _ _
   ·exact (fence_cache (Dev.flushRun_inv h _ _).wf).trans (flushRun_cache _ _ _)
  ·exact fence_cache h.wf
theorem chgL_lt (was now : List Hd) (B : Nat) : ∀ p ∈ chgL was now 1 B, p.2 < 18446744073709551616 := fun p hp => by
 unfold chgL at hp
 obtain ⟨b, _, rfl⟩ := List.mem_map.1 hp
 exact encN_lt _ _ _ _
theorem rewrite_len {U : Dev} (hU : U.inv) (L K : List Hd) (n : Nat) : (U.rewrite L K n).dev.cache.length = U.cache.length := by
 unfold Dev.rewrite
 split
 ·rfl
 ·unfold Done.bind
  split
  ·exact stores_len _ _
  ·rw [persist_cache (stores_inv hU _ (chgL_lt _ _ _))]; exact stores_len _ _
theorem rewrite_clr {U : Dev} (hU : Clr U) {L K : List Hd} {n : Nat} (hn : 2 ≤ n) (he : (U.rewrite L K n).err = 0) : Clr (U.rewrite L K n).dev := by
 unfold Dev.rewrite at he ⊢
 by_cases c : chgL L K 1 n = []
 ·rw [if_pos c]; exact hU
 ·rw [if_neg c] at he ⊢
  have e : (U.stores (chgL L K 1 n)).bind (fun S => S.persist 257 ((n : Int) - 1)) = U.lay (chgL L K 1 n) 257 (n - 1) := by
   unfold Dev.lay
   rw [show ((257 : Nat) : Int) = 257 from rfl, show ((n - 1 : Nat) : Int) = (n : Int) - 1 by omega]
  rw [e] at he ⊢
  exact ((lay_clr hU (chgL_lt _ _ _) (by omega) (fun q hq => by
   obtain ⟨b, h1, h2, h3, _⟩ := chgL_key.1 (key_mem hq)
   omega)).1 he).1
theorem RvOpen.left {S U : Dev} (hU : Clr U) (hc : U.cache = S.cache) {F : Foot} {w w' : World} {e : Ending} (h : RvOpen U F w e w') : ∃ (V : Dev) (v : Value), e = .returned v ∧ Touch F.list w w' ∧ DevAt w' F V ∧ V.inv ∧ V.cache.length = S.cache.length ∧
  ((lookE S ≠ 0 ∧ V = U) ∨ (lookE S = 0 ∧ ∃ ys : List Nat, ys.Pairwise (· < ·) ∧ (∀ x, x ∈ ys ↔ Rch (okN S (lookL S)) (ptrN S) (rootL S) x) ∧ Pw (MixW S (supR S).1 ys) V)) := by
 obtain ⟨e1, e2, e3, e4, e5, e6, e7⟩ := look_cache hc
 obtain ⟨ht, ⟨h1, rfl, hd⟩ | ⟨h1, ys, hso, hys, h⟩⟩ := h
 ·exact ⟨U, _, rfl, ht, hd, hU.1, by rw [hc], .inl ⟨by rw [← e1]; exact h1, rfl⟩⟩
 ·rw [e4, e5, e6, e7] at hys
  rw [e4, e2] at h
  have hmix : Pw (MixW S (supR S).1 ys) (U.rewrite (lookL S) (keepL (lookL S) ys) (supR S).1).dev := rewrite_mix hU hc
  have hinv := rewrite_inv hU.1 (lookL S) (keepL (lookL S) ys) (supR S).1
  have hlen := rewrite_len hU.1 (lookL S) (keepL (lookL S) ys) (supR S).1
  rw [hc] at hlen
  rw [e1] at h1
  rcases h with ⟨_, rfl, hd⟩ | ⟨_, A, nn, g, lv, rfl, hAF, _, hal, _⟩
  ·exact ⟨_, _, rfl, ht, hd, hinv, hlen, .inr ⟨h1, ys, hso, hys, hmix⟩⟩
  ·have hd := hal.man.dev
   rw [hAF] at hd
   exact ⟨_, _, rfl, ht, hd, hinv, hlen, .inr ⟨h1, ys, hso, hys, hmix⟩⟩
theorem live_zero {S : Dev} {L : List Hd} {ys : List Nat} (h : Live S L ys) : (keepL L ys).getD 0 default = default := by
 rcases h.cases 0 with c | ⟨c, _⟩
 ·exact c
 ·rw [c]; exact h.zero
structure Opnd (S T : Dev) (F : Foot) (w : World) (A : AF) (nn g : Nat) (m : Al) (va : Option Addr) (ys : List Nat) : Prop where
 al : AlAt w A nn (supR S).1 m
 foot : A.X.F = F
 roots : RootsAt w g F (rootsN S).1 (rootsN S).2.1 (rootsN S).2.2.1
 live : Cells w va (ys.map vi)
 dev : m.bm.dev = T
 list : m.bm.list = keepL (lookL S) ys
 used : m.used = marksOf (List.replicate S.cache.length false) ys
 clr : Clr T
 len : T.cache.length = S.cache.length
 high : ∀ j, 512 ≤ j → T.cache.getD j 0 = S.cache.getD j 0
theorem Opnd.below {S T : Dev} {F : Foot} {w w' : World} {A : AF} {nn g : Nat} {m : Al} {va : Option Addr} {ys : List Nat} (h : Opnd S T F w A nn g m va ys) (hb : Below w.heap.size w w') : Opnd S T F w' A nn g m va ys :=
 ⟨h.al.below hb, h.foot, h.roots.below hb (Nat.le_refl _), h.live.below hb (Nat.le_refl _), h.dev, h.list, h.used, h.clr, h.len, h.high⟩
theorem RvOpen.good {S : Dev} (hS : Clr S) (hv : S.live) (hl : lookE S = 0) {F : Foot} {w w' : World} {e : Ending} (h : RvOpen S F w e w') : Touch F.list w w' ∧ ∃ (ys : List Nat) (A : AF) (nn g : Nat) (m : Al) (va : Option Addr) (vc : Nat) (T : Dev), ys.Pairwise (· < ·) ∧ (∀ x, x ∈ ys ↔ Rch (okN S (lookL S)) (ptrN S) (rootL S) x) ∧
  e = .returned (.tuple #[.agg #[.int .i64 ((supR S).1 : Int), vu64 (supR S).2.1, .int .i64 ((supR S).1 : Int), valloc A, .pointer (some ⟨g, 0, none⟩), .slice va ys.length vc], .int .i64 0]) ∧ Opnd S T F w' A nn g m va ys := by
 obtain ⟨h1, h2, _, _⟩ := lookE_zero hl
 obtain ⟨s1, s2, s3⟩ := supR_ok h1
 obtain ⟨ht, ⟨h1, _⟩ | ⟨_, ys, hso, hys, h⟩⟩ := h
 ·exact absurd hl h1
 have he : (S.rewrite (lookL S) (keepL (lookL S) ys) (supR S).1).err = 0 := rewrite_live hv hS.1.wf.lenD s1 s3.symm
 have hnd : ys.Nodup := hso.imp (fun h => Nat.ne_of_lt h)
 have hlv : Live S (lookL S) ys := look_live hl (fun x hx => ((hys x).1 hx).ok')
 obtain ⟨_, _, _, o4, o5, o6⟩ := reopen_ok (S := S) (n := (supR S).1) rfl rfl rfl rfl hS.1 hS.2 hl (fun x hx => ((hys x).1 hx).ok') hnd he
 have hw : ∀ b, 1 ≤ b → b < (supR S).1 → S.cache.getD (256 + b) 0 = encN (b : Int) ((lookL S).getD b default).k ((lookL S).getD b default).c ((lookL S).getD b default).l := fun b b1 b2 => by
  rw [← devWord_at]
  unfold lookL
  exact (hds_word h2 b1 b2).1
 obtain ⟨r1, r2, r3, r4⟩ := rewrite_ok hS.1 s3.symm s1 (fun b _ _ => hS.2 _) hw he
 have hclr := rewrite_clr hS s1 he
 rcases h with ⟨h, _⟩ | ⟨_, A, nn, g, lv, rfl, hAF, hnn, hal, hrt, hlvv, _, _, _⟩
 ·exact absurd he h
 obtain ⟨va, vc, rfl, hcv, _⟩ := hlvv.cells
 refine ⟨ht, ys, A, nn, g, _, va, vc, _, hso, hys, rfl, hal, hAF, hrt, hcv, rfl, ?_, ?_, hclr, r2, fun j hj => r4 j (.inr (by omega))⟩
 ·show hds (devWord (S.rewrite (lookL S) (keepL (lookL S) ys) (supR S).1).dev) (supR S).1 = _
  apply List.ext_getElem (by rw [hds_length, keepL_len]; unfold lookL; rw [hds_length])
  intro i h1 h2
  have : (hds (devWord (S.rewrite (lookL S) (keepL (lookL S) ys) (supR S).1).dev) (supR S).1).getD i default = (keepL (lookL S) ys).getD i default := by
   by_cases c : 1 ≤ i
   ·exact o6 i c
   ·obtain rfl : i = 0 := by omega
    rw [live_zero hlv, hds_at _ (by rw [hds_length] at h1; exact h1)]
    unfold hdF
    rw [if_pos rfl]; rfl
  rw [List.getD_eq_getElem?_getD, List.getElem?_eq_getElem h1, List.getD_eq_getElem?_getD, List.getElem?_eq_getElem h2] at this
  exact this
 ·show marksOf (List.replicate (S.rewrite (lookL S) (keepL (lookL S) ys) (supR S).1).dev.cache.length false) ys = _
  rw [r2]
theorem RvOpen.bad {S : Dev} (hl : lookE S ≠ 0) {F : Foot} {w w' : World} {e : Ending} (h : RvOpen S F w e w') : Touch F.list w w' ∧ e = .returned (.tuple #[.agg stZ, .int .i64 (lookE S)]) := by
 obtain ⟨ht, ⟨_, rfl, _⟩ | ⟨h1, _⟩⟩ := h
 ·exact ⟨ht, rfl⟩
 ·exact absurd h1 hl
theorem RvOpen.any {S : Dev} (hS : Clr S) (hv : S.live) {F : Foot} {w w' : World} {e : Ending} (h : RvOpen S F w e w') : Touch F.list w w' ∧ ∃ (C : Array Value) (le : Int), e = .returned (.tuple #[.agg C, .int .i64 le]) ∧ C.size = 6 ∧ C.toList.all (·.oneCell') = true ∧
  ((lookE S ≠ 0 ∧ le = lookE S) ∨ (lookE S = 0 ∧ le = 0 ∧ ∃ (ys : List Nat) (A : AF) (nn g : Nat) (m : Al) (va : Option Addr) (vc : Nat) (T : Dev), ys.Pairwise (· < ·) ∧ (∀ x, x ∈ ys ↔ Rch (okN S (lookL S)) (ptrN S) (rootL S) x) ∧
   C = #[.int .i64 ((supR S).1 : Int), vu64 (supR S).2.1, .int .i64 ((supR S).1 : Int), valloc A, .pointer (some ⟨g, 0, none⟩), .slice va ys.length vc] ∧ Opnd S T F w' A nn g m va ys)) := by
 by_cases hl : lookE S = 0
 ·obtain ⟨ht, ys, A, nn, g, m, va, vc, T, h1, h2, rfl, h4⟩ := h.good hS hv hl
  exact ⟨ht, _, _, rfl, rfl, rfl, .inr ⟨hl, rfl, ys, A, nn, g, m, va, vc, T, h1, h2, rfl, h4⟩⟩
 ·obtain ⟨ht, rfl⟩ := h.bad hl
  exact ⟨ht, _, _, rfl, rfl, rfl, .inl ⟨hl, rfl⟩⟩
def objW (S : Dev) (x : Nat) : List Nat := wordsAt S.cache (x : Int) (if (headN S (x : Int)).code = 0 then objSize (headN S (x : Int)).p (headN S (x : Int)).d else 0)
theorem objW_len {S : Dev} (hs : S.cache.length ≤ 1000000) (x : Nat) : (objW S x).length ≤ 1000000000 := by
 unfold objW
 rw [wordsAt_length]
 split
 ·next h =>
  have := (headN_code S (x : Int))
  rcases this with h1 | h1
  ·omega
  ·rw [h1] at h; cases h
 ·omega
theorem objW_same {S T : Dev} (hl : T.cache.length = S.cache.length) {x : Nat} (hx : 512 ≤ x) (hh : ∀ j, 512 ≤ j → T.cache.getD j 0 = S.cache.getD j 0) : objW T x = objW S x := by
 have hp : ∀ i : Nat, peek T.cache ((x : Int) + (i : Int)) = peek S.cache ((x : Int) + (i : Int)) := fun i => by
  rw [show (x : Int) + (i : Int) = ((x + i : Nat) : Int) by omega, peek_in, peek_in]
  exact hh _ (by omega)
 have hd : headN T (x : Int) = headN S (x : Int) := by
  have h0 := hp 0
  simp at h0
  unfold headN
  rw [hl, h0]
 unfold objW wordsAt
 rw [hd]
 exact List.map_congr_left (fun i _ => hp i)
theorem crash_clr {V : Dev} (hV : V.inv) (cs : List Nat) : Clr (V.crash cs) ∧ (V.crash cs).live ∧ (V.crash cs).cache = V.crashW cs ∧ (V.crash cs).cache.length = V.cache.length ∧ ∀ N, (V.crash cs).ok N := by
 have hw := Dev.crash_wf hV.wf cs
 refine ⟨fresh_clr (by rw [hw.1]; exact hV.wf.lenD) (by rw [hw.1]; exact hV.wf.small) hw.2, fresh_live _ _, rfl, hw.1, fun N => fresh_ok _ _ N⟩
theorem crash_look {S U V : Dev} (hS : Clr S) (hU : Clr U) (hc : U.cache = S.cache) (hV : V.inv) (hlen : V.cache.length = S.cache.length) (cs : List Nat)
  (h : (lookE S ≠ 0 ∧ V = U) ∨ (lookE S = 0 ∧ ∃ ys : List Nat, ys.Pairwise (· < ·) ∧ (∀ x, x ∈ ys ↔ Rch (okN S (lookL S)) (ptrN S) (rootL S) x) ∧ Pw (MixW S (supR S).1 ys) V)) :
  (lookE S ≠ 0 ∧ lookE (V.crash cs) = lookE S) ∨ (lookE S = 0 ∧ ∃ ys : List Nat, ys.Pairwise (· < ·) ∧ (∀ x, x ∈ ys ↔ Rch (okN S (lookL S)) (ptrN S) (rootL S) x) ∧ Again S (V.crash cs) ys) := by
 obtain ⟨_, _, c1, c2, _⟩ := crash_clr hV cs
 rcases h with ⟨h1, rfl⟩ | ⟨h1, ys, hso, h2, h3⟩
 ·refine .inl ⟨h1, (look_cache ?_).1⟩
  rw [← hc]
  apply List.ext_getElem c2
  intro i h1 h2
  have := Dev.crash_clean hV cs i (hU.2 _)
  rw [← c1, List.getD_eq_getElem?_getD, List.getElem?_eq_getElem h1, List.getD_eq_getElem?_getD, List.getElem?_eq_getElem h2] at this
  exact this
 ·exact .inr ⟨h1, ys, hso, h2, mix_again h1 rfl h2 (c2.trans hlen) (fun j => by rw [c1]; exact h3.crash hV.wf cs j)⟩
end Go.Proofs.YtpohaahihdhleaaGreat
namespace Go.Proofs.YtpohaahihdhleaaGreat
open Go.RowKit Go.Maps
section
variable {w wr w' : World} {q : Nat} {D : Array Value} {sv : Value} {seen : List Nat}
end
end Go.Proofs.YtpohaahihdhleaaGreat
namespace Go.Proofs.YtpohaahihdhleaaGreat
open Go.RowKit
end Go.Proofs.YtpohaahihdhleaaGreat
namespace Go.Proofs.YtpohaahihdhleaaGreat
open Go.RowKit Go.Maps
end Go.Proofs.YtpohaahihdhleaaGreat
namespace Go.Proofs.YtpohaahihdhleaaGreat
open Go.RowKit
theorem gsI8 : Tryz.prog.eqGuardType Tryz.prog.depth 24 = false := by kernel_rfl
theorem cellsI64 : Tryz.prog.cellsOf 3 = 1 := by kernel_rfl
theorem infoI64 : (Tryz.prog.info? 3).isSome = true := by kernel_rfl
theorem equalI8 (w : World) (xs : List Int) (hx : xs.length = 8) : (Op.equalIn 10000 24 (.agg (xs.map (Value.int .i64)).toArray) (.agg (xs.map (Value.int .i64)).toArray)).run Tryz.prog w = .ok true w := by
 obtain ⟨i, hi⟩ := Option.isSome_iff_exists.1 infoI64
 rw [show (10000 : Nat) = 9999 + 1 from rfl, run_equalIn_array w 9999 _ _ Tryz.underlying24 hi, cellsI64, show (9999 : Nat) = 9998 + 1 from rfl]
 obtain ⟨b, hb, hiff⟩ := run_eqItems_ints Tryz.underlying3 9998 w xs xs (List.range 8) (fun i hi => by simp at hi; omega)
 rw [hb, hiff.2 (fun _ _ => rfl)]
structure ThV where
 pos : Nat
 p : Nat
 d : Nat
 ta : Option Addr
 tc : Nat
 tgt : List Int
instance : Inhabited ThV := ⟨⟨0, 0, 0, none, 0, []⟩⟩
def ThV.cs (t : ThV) : List Value := [.int .u16 (t.pos : Int), .int .u16 (t.p : Int), .int .u16 (t.d : Int), .slice t.ta t.tgt.length t.tc]
theorem ThV.len (t : ThV) : t.cs.length = 4 := rfl
structure ThV.ok (w : World) (t : ThV) : Prop where
 pos : t.pos < 65536
 p : t.p < 65536
 d : t.d < 65536
 tgt : Cells w t.ta (t.tgt.map (Value.int .i64))
 len : t.tgt.length ≤ maxLen
theorem ThV.ok.below {w w' : World} {t : ThV} (h : t.ok w) (hb : Below w.heap.size w w') : t.ok w' := ⟨h.pos, h.p, h.d, h.tgt.below hb (Nat.le_refl _), h.len⟩
structure Img where
 ha : Option Addr
 nh : Nat
 hc : Nat
 L : List Hd
 ta : Option Addr
 nt : Nat
 tc : Nat
 T : List ThV
 r0 : Int
 r1 : Int
 r2 : Int
 r3 : Int
 r4 : Int
 r5 : Int
 r6 : Int
 r7 : Int
 e0 : Nat
 e1 : Nat
 ua : Option Addr
 nu : Nat
 uc : Nat
 U : List Nat
def Img.cs (I : Img) : Array Value := #[.slice I.ha I.nh I.hc, .slice I.ta I.nt I.tc, .int .i64 I.r0, .int .i64 I.r1, .int .i64 I.r2, .int .i64 I.r3, .int .i64 I.r4, .int .i64 I.r5, .int .i64 I.r6, .int .i64 I.r7, .int .u8 (I.e0 : Int), .int .u8 (I.e1 : Int), .slice I.ua I.nu I.uc]
structure Img.In (w : World) (I : Img) : Prop where
 hl : I.L.length = I.nh
 tl : I.T.length = I.nt
 ul : I.U.length = I.nu
 hcs : Cells w I.ha (hdCs I.L)
 tcs : Cells w I.ta (recs ThV.cs I.T)
 tok : ∀ t ∈ I.T, t.ok w
 ucs : Cells w I.ua (I.U.map (fun n : Nat => Value.int .u16 (n : Int)))
 ub : ∀ u ∈ I.U, u < 65536
 eb : I.e0 < 256 ∧ I.e1 < 256
 hm : I.nh ≤ maxLen
 tm : I.nt ≤ maxLen
 um : I.nu ≤ maxLen
theorem Img.In.below {w w' : World} {I : Img} (h : I.In w) (hb : Below w.heap.size w w') : I.In w' :=
 ⟨h.hl, h.tl, h.ul, h.hcs.below hb (Nat.le_refl _), h.tcs.below hb (Nat.le_refl _), fun t ht => (h.tok t ht).below hb, h.ucs.below hb (Nat.le_refl _), h.ub, h.eb, h.hm, h.tm, h.um⟩
theorem Img.In.thing {w : World} {I : Img} (h : I.In w) {j : Nat} (hj : j < I.nt) : ∃ b off, I.ta = some ⟨b, off, none⟩ ∧ b < w.heap.size ∧ (I.T.getD j default).ok w ∧
  ∀ i v, (I.T.getD j default).cs[i]? = some v → w.cell? ⟨b, off + j * 4 + i, none⟩ = some v := by
 obtain ⟨b, off, e, hb, hc⟩ := recs_cells ThV.len (by decide) (default : ThV) h.tcs (by rw [h.tl]; exact hj)
 refine ⟨b, off, e, hb, h.tok _ ?_, hc⟩
 rw [List.getD_eq_getElem?_getD, List.getElem?_eq_getElem (by rw [h.tl]; exact hj)]
 exact List.getElem_mem _
theorem Img.form (I : Img) : ∃ (ha : Option Addr) (nh hc : Nat) (ta : Option Addr) (nt tc : Nat) (r0 r1 r2 r3 r4 r5 r6 r7 : Int) (E0 E1 : Nat) (ua : Option Addr) (nu uc : Nat),
  I.cs = #[.slice ha nh hc, .slice ta nt tc, .int .i64 r0, .int .i64 r1, .int .i64 r2, .int .i64 r3, .int .i64 r4, .int .i64 r5, .int .i64 r6, .int .i64 r7, .int .u8 (E0 : Int), .int .u8 (E1 : Int), .slice ua nu uc] ∧ nh = I.nh ∧ nt = I.nt ∧ nu = I.nu ∧ ta = I.ta :=
 ⟨_, _, _, _, _, _, _, _, _, _, _, _, _, _, _, _, _, _, _, rfl, rfl, rfl, rfl, rfl⟩
structure Img.small (I : Img) : Prop where
 h1 : 1 ≤ I.nh
 h7 : I.nh ≤ 7
 t40 : I.nt ≤ 40
 u8 : I.nu ≤ 8
 tgt : ∀ t ∈ I.T, t.tgt.length ≤ 63
def FewPost (I : Img) (w : World) : Ending → World → Prop := fun e w' => Below w.heap.size w w' ∧ ∃ b : Bool, e = .returned (.bool b) ∧ (b = true → I.small)
set_option maxHeartbeats 4000000 in
set_option maxRecDepth 20000 in
theorem few26_any {w : World} {I : Img} (h : I.In w) : Calls Tryz.prog 8 #[.agg I.cs] w (FewPost I w) := by
 have HP : Hid (∀ w', Below w.heap.size w w' → ∀ b : Bool, (b = true → I.small) → FewPost I w (.returned (.bool b)) w') := LH (fun w' h b hb => ⟨h, b, rfl, hb⟩)
 generalize FewPost I w = Post at *
 have HI := LH h
 have hm := h.hm
 have tm := h.tm
 have um := h.um
 unfold maxLen at hm tm um
 obtain ⟨ha, nh, hc, ta, nt, tc, r0, r1, r2, r3, r4, r5, r6, r7, E0, E1, ua, nu, uc, hcs, f1, f2, f3, f4⟩ := I.form
 rw [← f1] at hm
 rw [← f2] at tm
 rw [← f3] at um
 rw [hcs]
 have F1 := LH f1
 have F2 := LH f2
 have F3 := LH f3
 have F4 := LH f4
 have HM := LH (Mem.one w #[.slice ha nh hc, .slice ta nt tc, .int .i64 r0, .int .i64 r1, .int .i64 r2, .int .i64 r3, .int .i64 r4, .int .i64 r5, .int .i64 r6, .int .i64 r7, .int .u8 (E0 : Int), .int .u8 (E1 : Int), .slice ua nu uc] 28)
 have HB0 := LH HM.out.below
 clear hcs f1 f2 f3 f4 h
 go_enter Tryz.func8, Tryz.ntmps8
 go_upto_region 1 with fail
 obtain ⟨q, hq⟩ : ∃ q, q = w.heap.size := ⟨_, rfl⟩
 rw [← hq] at HM ⊢
 generalize w.alloc _ = w1 at *
 have c0 := HM.out.cell 0 0 rfl rfl
 have c1 := HM.out.cell 0 1 rfl rfl
 have c12 := HM.out.cell 0 12 rfl rfl
 clear hq HM
 by_cases h1 : nh < 1
 ·have h1' : (nh : Int) < 1 := by omega
  have HF := LH (HP.out w1 HB0.out false (fun h => by cases h))
  clear h1
  go_wp2_with fail
  exact HF.out
 by_cases h2 : 7 < nh
 ·have h1' : decide ((nh : Int) < 1) = false := by simp; omega
  have h2' : (7 : Int) < (nh : Int) := by omega
  have HF := LH (HP.out w1 HB0.out false (fun h => by cases h))
  clear h1 h2
  go_wp2_with fail
  exact HF.out
 have h1' : decide ((nh : Int) < 1) = false := by simp; omega
 have h2' : decide ((7 : Int) < (nh : Int)) = false := by simp; omega
 have h1n : 1 ≤ nh := by omega
 have h2n : nh ≤ 7 := by omega
 clear h1 h2
 by_cases h3 : 40 < nt
 ·have h3' : (40 : Int) < (nt : Int) := by omega
  have HF := LH (HP.out w1 HB0.out false (fun h => by cases h))
  clear h3
  go_wp2_with fail
  exact HF.out
 have h3' : decide ((40 : Int) < (nt : Int)) = false := by simp; omega
 have h3n : nt ≤ 40 := by omega
 clear h3
 by_cases h4 : 8 < nu
 ·have h4' : (8 : Int) < (nu : Int) := by omega
  have HF := LH (HP.out w1 HB0.out false (fun h => by cases h))
  clear h4
  go_wp2_with fail
  exact HF.out
 have h4' : decide ((8 : Int) < (nu : Int)) = false := by simp; omega
 have h4n : nu ≤ 8 := by omega
 clear h4
 go_upto_if 25 with fail
 go_wp2_with fail
 go_loopw [3] (fun iv wr => ∃ k : Nat, k ≤ nt ∧ iv = .int .i64 (k : Int) ∧ wr = w1 ∧ Hid (∀ j, j < k → (I.T.getD j default).tgt.length ≤ 63)) (fun iv _ => nt - (intOf iv).toNat)
 case atStart => exact ⟨0, Nat.zero_le _, rfl, rfl, LH (fun j hj => by omega)⟩
 case round =>
  obtain ⟨k, hk, rfl, rfl, HS⟩ := hrel
  by_cases hlt : k < nt
  ·have hlt' : (k : Int) < (nt : Int) := by omega
   obtain ⟨b, off, he, hb, hok, hcell⟩ := (HI.out.below HB0.out).thing (j := k) (by rw [← F2.out]; exact hlt)
   rw [← F4.out] at he
   subst he
   obtain ⟨u, hu⟩ : ∃ u, u = I.T.getD k default := ⟨_, rfl⟩
   rw [← hu] at hok hcell
   have e3 : wr.cell? ⟨b, off + k * 4 + 3, none⟩ = some (.slice u.ta u.tgt.length u.tc) := hcell 3 _ rfl
   have hlm := hok.len
   unfold maxLen at hlm
   obtain ⟨m, hm⟩ : ∃ m, m = u.tgt.length := ⟨_, rfl⟩
   rw [← hm] at e3 hlm
   have HMm : Hid ((I.T.getD k default).tgt.length = m) := LH (by rw [hm, hu])
   have HKn := LH (show k < nt from hlt)
   clear hu hm hcell hok hlt
   by_cases hbig : 63 < m
   ·have hb' : (63 : Int) < (m : Int) := by omega
    have HF := LH (HP.out wr HB0.out false (fun h => by cases h))
    clear hbig
    go_wp2_with fail
    exact HF.out
   ·have hb' : decide ((63 : Int) < (m : Int)) = false := by simp; omega
    go_wp2_with fail
    refine ⟨⟨k + 1, by have := HKn.out; omega, vint (by omega), (by first | rfl | trivial), LH (fun j hj => by
     rcases Nat.lt_or_ge j k with c | c
     ·exact HS.out j c
     ·obtain rfl : j = k := by omega
      rw [HMm.out]; omega)⟩, ?_⟩
    have := HKn.out
    simp [intOf]; omega
  ·obtain rfl : k = nt := by omega
   have hlt' : decide ((k : Int) < (k : Int)) = false := by simp
   have HSm : Hid I.small := LH (by
    refine ⟨by rw [← F1.out]; exact h1n, by rw [← F1.out]; exact h2n, by rw [← F2.out]; exact h3n, by rw [← F3.out]; exact h4n, fun t ht => ?_⟩
    obtain ⟨j, hj, rfl⟩ := List.mem_iff_getElem.1 ht
    have hlen : I.T.length = k := by rw [HI.out.tl, F2.out]
    have := HS.out j (by rw [← hlen]; exact hj)
    rw [List.getD_eq_getElem?_getD, List.getElem?_eq_getElem hj] at this
    exact this)
   have HF := LH (HP.out wr HB0.out true (fun _ => HSm.out))
   clear hlt
   go_wp2_with fail
   exact HF.out
def AddrPost (w : World) : Ending → World → Prop := fun e w' => Below w.heap.size w w' ∧ ∃ n : Nat, n < 65536 ∧ e = .returned (.int .i64 (n : Int))
set_option maxHeartbeats 4000000 in
set_option maxRecDepth 20000 in
theorem addr26_any {w : World} {I : Img} (h : I.In w) (i : Int) : Calls Tryz.prog 40 #[.agg I.cs, .int .i64 i] w (AddrPost w) := by
 have HP : Hid (∀ w', Below w.heap.size w w' → ∀ n : Nat, n < 65536 → AddrPost w (.returned (.int .i64 (n : Int))) w') := LH (fun w' h n hn => ⟨h, n, hn, rfl⟩)
 generalize AddrPost w = Post at *
 have HI := LH h
 have tm := h.tm
 unfold maxLen at tm
 obtain ⟨ha, nh, hc, ta, nt, tc, r0, r1, r2, r3, r4, r5, r6, r7, E0, E1, ua, nu, uc, hcs, f1, f2, f3, f4⟩ := I.form
 rw [← f2] at tm
 rw [hcs]
 have F2 := LH f2
 have F4 := LH f4
 have HM := LH (Mem.one w #[.slice ha nh hc, .slice ta nt tc, .int .i64 r0, .int .i64 r1, .int .i64 r2, .int .i64 r3, .int .i64 r4, .int .i64 r5, .int .i64 r6, .int .i64 r7, .int .u8 (E0 : Int), .int .u8 (E1 : Int), .slice ua nu uc] 28)
 have HB0 := LH HM.out.below
 clear hcs f1 f2 f3 f4 h
 go_enter Tryz.func40, Tryz.ntmps40
 go_upto_region 1 with fail
 obtain ⟨q, hq⟩ : ∃ q, q = w.heap.size := ⟨_, rfl⟩
 rw [← hq] at HM ⊢
 generalize w.alloc _ = w1 at *
 have c1 := HM.out.cell 0 1 rfl rfl
 clear hq HM
 by_cases h1 : i < 0
 ·have HF := LH (HP.out w1 HB0.out 0 (by omega))
  go_wp2_with fail
  exact HF.out
 obtain ⟨j, rfl⟩ := Int.eq_ofNat_of_zero_le (show 0 ≤ i by omega)
 have h1' : decide ((j : Int) < 0) = false := by simp
 clear h1
 by_cases h2 : nt ≤ j
 ·have h2' : (nt : Int) ≤ (j : Int) := by omega
  have HF := LH (HP.out w1 HB0.out 0 (by omega))
  clear h2
  go_wp2_with fail
  exact HF.out
 have h2' : decide ((nt : Int) ≤ (j : Int)) = false := by simp; omega
 have h3' : (j : Int) < (nt : Int) := by omega
 obtain ⟨b, off, he, hb, hok, hcell⟩ := (HI.out.below HB0.out).thing (j := j) (by rw [← F2.out]; omega)
 rw [← F4.out] at he
 subst he
 obtain ⟨u, hu⟩ : ∃ u, u = I.T.getD j default := ⟨_, rfl⟩
 rw [← hu] at hok hcell
 have e0 : w1.cell? ⟨b, off + j * 4, none⟩ = some (.int .u16 (u.pos : Int)) := hcell 0 _ rfl
 have hp := hok.pos
 generalize u.pos = x at *
 have HF := LH (HP.out w1 HB0.out x hp)
 clear hu hcell hok h2
 go_wp2_with fail
 exact HF.out
def WdsN (N : Nat) (ws : List Nat) : Prop := ws.length = N ∧ ∀ z ∈ ws, z < 18446744073709551616
theorem WdsN.zero (N : Nat) : WdsN N (List.replicate N 0) := ⟨List.length_replicate, fun z hz => by rw [List.mem_replicate] at hz; omega⟩
theorem WdsN.set {N : Nat} {ws : List Nat} (h : WdsN N ws) (z : Nat) {x : Nat} (hx : x < 18446744073709551616) : WdsN N (ws.set z x) := ⟨by rw [List.length_set]; exact h.1, fun y hy => by
 rcases List.mem_or_eq_of_mem_set hy with c | c
 ·exact h.2 y c
 ·rw [c]; exact hx⟩
theorem WdsN.put {N : Nat} {ws : List Nat} (h : WdsN N ws) {o : Nat} {cs : List Nat} (ho : o + cs.length ≤ N) (hc : ∀ z ∈ cs, z < 18446744073709551616) : WdsN N (splice ws o cs) := ⟨by rw [splice_length _ _ _ (by rw [h.1]; exact ho)]; exact h.1, splice_lt o h.2 hc⟩
theorem sixteen {α : Type} {l : List α} (h : l.length = 16) : ∃ a0 a1 a2 a3 a4 a5 a6 a7 b0 b1 b2 b3 b4 b5 b6 b7, l = [a0, a1, a2, a3, a4, a5, a6, a7, b0, b1, b2, b3, b4, b5, b6, b7] := by
 match l, h with
 | [a0, a1, a2, a3, a4, a5, a6, a7, b0, b1, b2, b3, b4, b5, b6, b7], _ => exact ⟨_, _, _, _, _, _, _, _, _, _, _, _, _, _, _, _, rfl⟩
theorem eightN {α : Type} {l : List α} (h : l.length = 8) : ∃ a0 a1 a2 a3 a4 a5 a6 a7, l = [a0, a1, a2, a3, a4, a5, a6, a7] := by
 match l, h with
 | [a0, a1, a2, a3, a4, a5, a6, a7], _ => exact ⟨_, _, _, _, _, _, _, _, rfl⟩
theorem Mem.word {w W : World} {x : Ent} {g T : Nat} {ws : List Nat} {R : List Ent} (h : Mem w W (x :: ⟨g, T, ws.map vu64, false⟩ :: R)) {z : Nat} (hz : z < ws.length) (y : Nat) :
  Mem w (W.setCell ⟨g, z, none⟩ (vu64 y)) (x :: ⟨g, T, (ws.set z y).map vu64, false⟩ :: R) := by
 rw [List.map_set]
 exact h.set 1 z (vu64 y) rfl (by rw [List.length_map]; exact hz)
theorem Mem.drop2 {w W : World} {x y : Ent} {R : List Ent} (h : Mem w W (x :: y :: R)) : Mem w W [x, y] :=
 ⟨h.below, fun z hz => h.rows z (by simp at hz ⊢; rcases hz with c | c <;> simp [c]), fun z hz => h.base z (by simp at hz ⊢; rcases hz with c | c <;> simp [c]), by
  have := h.nd
  simp at this ⊢
  exact this.1.1⟩
theorem aggIm : Agg Tryz.prog 28 #[.slice none 0 0, .slice none 0 0, .int .i64 0, .int .i64 0, .int .i64 0, .int .i64 0, .int .i64 0, .int .i64 0, .int .i64 0, .int .i64 0, .int .u8 0, .int .u8 0, .slice none 0 0] := ⟨⟨_, Tryz.underlying28, rfl⟩, by kernel_rfl⟩
def W26Post (I : Img) (w : World) : Ending → World → Prop := fun e w' => Below w.heap.size w w' ∧ ∃ (g : Nat) (ws : List Nat), e = .returned (.slice (some ⟨g, 0, none⟩) (512 * (1 + I.nh)) (512 * (1 + I.nh))) ∧ WdsN (512 * (1 + I.nh)) ws ∧ w.heap.size ≤ g ∧ RowAt w' g 40 (ws.map vu64)
set_option maxHeartbeats 8000000 in
set_option maxRecDepth 20000 in
theorem words26_any {w : World} {I : Img} (h : I.In w) (hs : I.small) : Calls Tryz.prog 9 #[.agg I.cs] w (W26Post I w) := by
 have HP : Hid (∀ w', Below w.heap.size w w' → ∀ g ws, WdsN (512 * (1 + I.nh)) ws → w.heap.size ≤ g → RowAt w' g 40 (ws.map vu64) → W26Post I w (.returned (.slice (some ⟨g, 0, none⟩) (512 * (1 + I.nh)) (512 * (1 + I.nh)))) w') := LH (fun w' h g ws h1 h2 h3 => ⟨h, g, ws, rfl, h1, h2, h3⟩)
 generalize W26Post I w = Post at *
 have HI := LH h
 have HS := LH hs
 have hm := hs.h7
 have hm1 := hs.h1
 have tm := hs.t40
 have um := hs.u8
 obtain ⟨ha, nh, hc, ta, nt, tc, r0, r1, r2, r3, r4, r5, r6, r7, E0, E1, ua, nu, uc, hcs, f1, f2, f3, f4⟩ := I.form
 rw [← f1] at hm hm1
 rw [← f2] at tm
 rw [← f3] at um
 rw [← f1] at HP
 rw [hcs]
 have F1 := LH f1
 have F2 := LH f2
 have F3 := LH f3
 have F4 := LH f4
 have HCs := LH hcs
 have HM := LH (Mem.one w #[.slice ha nh hc, .slice ta nt tc, .int .i64 r0, .int .i64 r1, .int .i64 r2, .int .i64 r3, .int .i64 r4, .int .i64 r5, .int .i64 r6, .int .i64 r7, .int .u8 (E0 : Int), .int .u8 (E1 : Int), .slice ua nu uc] 28)
 clear hcs f1 f2 f3 f4 h hs
 go_enter Tryz.func9, Tryz.ntmps9
 go_upto_region 1 with fail
 obtain ⟨q, hq⟩ : ∃ q, q = w.heap.size := ⟨_, rfl⟩
 rw [← hq] at HM ⊢
 generalize w.alloc _ = w1 at *
 have c0 := HM.out.cell 0 0 rfl rfl
 have HM1 : Hid (Mem w w1 [⟨q, 28, I.cs.toList, true⟩]) := LH (by rw [HCs.out]; simpa using HM.out)
 have HC : Hid (∀ {w' : World} {R : List Ent}, Mem w w' (⟨q, 28, I.cs.toList, true⟩ :: R) → w'.cell? ⟨q, 0, none⟩ = some (.slice ha nh hc) ∧ w'.cell? ⟨q, 1, none⟩ = some (.slice ta nt tc) ∧ w'.cell? ⟨q, 12, none⟩ = some (.slice ua nu uc)) :=
  LH (fun h => ⟨h.cell 0 0 rfl (by rw [HCs.out]; rfl), h.cell 0 1 rfl (by rw [HCs.out]; rfl), h.cell 0 12 rfl (by rw [HCs.out]; rfl)⟩)
 clear hq HM
 obtain ⟨B, hB⟩ : ∃ B, B = 1 + nh := ⟨_, rfl⟩
 have hBI : (1 : Int) + (nh : Int) = (B : Int) := by omega
 have hB2 : 2 ≤ B := by omega
 have hB8 : B ≤ 8 := by omega
 obtain ⟨N, hN⟩ : ∃ N, N = 512 * B := ⟨_, rfl⟩
 have hNI : (512 : Int) * (B : Int) = (N : Int) := by omega
 have hN5 : N ≤ 4096 := by omega
 have hN1 : 1024 ≤ N := by omega
 rw [← hB, ← hN] at HP
 have HBn := LH hB
 have HNe := LH hN
 clear hB hN
 go_upto_region 2 with fail
 clear c0
 go_upto_region 3 with (at_make; refine wpList_make_len el64 w1.heap.size N rfl rfl rfl (by omega) (by decide) (Nat.le_refl _) rfl rfl rfl rfl ?_; intro w4 hown hgrow; have HO := LH hown; have HG := LH hgrow; clear hown hgrow)
 have hr0 := owned_row HO.out
 obtain ⟨g, hg⟩ : ∃ g, g = w1.heap.size := ⟨_, rfl⟩
 rw [← hg] at hr0 ⊢
 have HM4 : Hid (Mem w w4 [⟨q, 28, I.cs.toList, true⟩, ⟨g, 40, (List.replicate N 0).map vu64, false⟩]) := LH (HM1.out.row (below_grown HG.out (Nat.le_refl _)) (by rw [List.map_replicate]; show RowAt w4 g 40 (List.replicate N (.int .u64 0)); simpa using hr0) (by rw [hg]; exact Nat.le_refl _))
 have HW4 := LH (WdsN.zero N)
 have HGb : Hid (w.heap.size ≤ g) := LH (HM4.out.gbase 1 rfl)
 clear hr0 hg HO HG HM1
 generalize List.replicate N 0 = ws at *
 go_wp2_with fail
 refine (rsencode_any B 7 (by omega) (by omega) w4).mono ?_
 rintro e w5 ⟨rfl, hb5⟩
 have HM5 := LH (HM4.out.later hb5)
 obtain ⟨x0, x1, x2, x3, x4, x5, x6, x7, hx⟩ := eightN (l := supN B 7) rfl
 have HX : Hid (∀ z ∈ [x0, x1, x2, x3, x4, x5, x6, x7], z < 18446744073709551616) := LH (fun z hz => by
  rw [← hx] at hz
  obtain ⟨k, hk, rfl⟩ := List.mem_iff_getElem.1 hz
  have := supN_lt (n := B) (id := 7) (by omega) (by omega) k
  rw [List.getD_eq_getElem?_getD, List.getElem?_eq_getElem hk] at this
  exact this)
 rw [hx, show arrW [x0, x1, x2, x3, x4, x5, x6, x7] = .agg #[vu64 x0, vu64 x1, vu64 x2, vu64 x3, vu64 x4, vu64 x5, vu64 x6, vu64 x7] from rfl]
 clear hb5 hx HM4
 have HM6 := LH (HM5.out.alloc #[vu64 x0, vu64 x1, vu64 x2, vu64 x3, vu64 x4, vu64 x5, vu64 x6, vu64 x7] 101)
 go_upto_region 4 with fail
 obtain ⟨q5, hq5⟩ : ∃ q, q = w5.heap.size := ⟨_, rfl⟩
 rw [← hq5] at HM6 ⊢
 generalize w5.alloc _ = w6 at *
 have HM7 : Hid (Mem w w6 [⟨q, 28, I.cs.toList, true⟩, ⟨g, 40, ws.map vu64, false⟩, ⟨q5, 101, [x0, x1, x2, x3, x4, x5, x6, x7].map vu64, true⟩]) := LH HM6.out
 clear hq5 HM6 HM5
 have HSrc : Hid (∀ j v, ([x0, x1, x2, x3, x4, x5, x6, x7].map vu64)[j]? = some v → w6.cell? ⟨q5, 0 + j, none⟩ = some v) := LH (fun j v hj => by rw [Nat.zero_add]; exact HM7.out.cell 2 j rfl hj)
 have HLen : Hid (([x0, x1, x2, x3, x4, x5, x6, x7].map vu64).length = Nat.min 8 N * 1) := LH (by rw [show Nat.min 8 N = 8 from Nat.min_eq_left (by omega)]; rfl)
 have HFit : Hid (0 + ([x0, x1, x2, x3, x4, x5, x6, x7].map vu64).length ≤ (ws.map vu64).length) := LH (by rw [List.length_map, List.length_map, HW4.out.1]; simp; omega)
 go_upto_region 5 with (refine wpList_copy_rows rfl rfl (Tryz.underlying31) (size := 1) (by kernel_rfl) rfl rfl (HM7.out.at 1 rfl) ([x0, x1, x2, x3, x4, x5, x6, x7].map vu64) HLen.out HSrc.out HFit.out (one_cells _) ?_; intro w7 h7 ht7; have H7 := LH h7; have HT7 := LH ht7; clear h7 ht7)
 have HM8 : Hid (Mem w w7 [⟨q, 28, I.cs.toList, true⟩, ⟨g, 40, (splice ws 0 [x0, x1, x2, x3, x4, x5, x6, x7]).map vu64, false⟩]) := LH (by
  have := HM7.out.upd 1 (y := ⟨g, 40, (splice ws 0 [x0, x1, x2, x3, x4, x5, x6, x7]).map vu64, false⟩) rfl rfl HT7.out (by
   rw [← splice_map]; exact RowX.of H7.out)
  exact Mem.drop2 this)
 have HW8 := LH (HW4.out.put (o := 0) (cs := [x0, x1, x2, x3, x4, x5, x6, x7]) (by simp; omega) HX.out)
 generalize splice ws 0 [x0, x1, x2, x3, x4, x5, x6, x7] = ws1 at *
 clear HW4 HM7 HSrc HLen HFit H7 HT7 HX
 go_wp2_with fail
 go_loopw [6] (fun iv wr => ∃ (k : Nat) (ws : List Nat), 1 ≤ k ∧ k ≤ B ∧ iv = .int .i64 (k : Int) ∧ Hid (WdsN N ws) ∧ Hid (Mem w wr [⟨q, 28, I.cs.toList, true⟩, ⟨g, 40, ws.map vu64, false⟩])) (fun iv _ => B - (intOf iv).toNat)
 case atStart => exact ⟨1, ws1, Nat.le_refl _, by omega, rfl, HW8, HM8⟩
 case round =>
  clear HM8 HW8
  obtain ⟨k, ws, hk1, hk, rfl, HW, HMr⟩ := hrel
  by_cases hlt : k < B
  ·have hlt' : (k : Int) < (B : Int) := by omega
   obtain ⟨j, hj⟩ : ∃ j, j = k - 1 := ⟨_, rfl⟩
   have hjI : (k : Int) - 1 = (j : Int) := by omega
   have hjn : j < nh := by have := HBn.out; omega
   have hjn' : (j : Int) < (nh : Int) := by omega
   obtain ⟨hk0, hc0, hl0, he⟩ := hdGetD I.L j
   obtain ⟨b1, o1, hae, d0, d1, d2⟩ := hd_cells (HI.out.below HMr.out.below).hcs (by rw [HI.out.hl, ← F1.out]; exact hjn) he
   have hHa : ha = some ⟨b1, o1, none⟩ := by
    rw [← hae]
    have := congrArg (fun x : Array Value => x[0]?) HCs.out
    simp [Img.cs] at this
    exact this.1.symm
   subst hHa
   obtain ⟨z, hz⟩ : ∃ z, z = 256 + k := ⟨_, rfl⟩
   have hzI : (256 : Int) + (k : Int) = (z : Int) := by omega
   have hzN : (z : Int) < (N : Int) := by have := HNe.out; omega
   have HZl : Hid (z < ws.length) := LH (by rw [HW.out.1]; omega)
   have c0 := (HC.out HMr.out).1
   clear he hz hj hae hlt
   go_wp2_with fail
   refine (ref_any ⟨hk0, hc0, hl0⟩ _).mono ?_
   rintro e w5 ⟨rfl, hb5⟩
   unfold Hd.val
   dsimp only
   have HM5 := LH (HMr.out.later hb5)
   clear hb5 d0 d1 d2 c0
   go_wp2_with fail
   refine (rencode_any (k : Int) hk0 hc0 hl0 (by omega) (by omega) _).mono ?_
   rintro e w6 ⟨rfl, hb6⟩
   have HM6 := LH (HM5.out.later hb6)
   obtain ⟨u, hu⟩ : ∃ u, (ws.map vu64)[z]? = some u := ⟨_, List.getElem?_eq_getElem (by rw [List.length_map]; exact HZl.out)⟩
   have e0 : w6.cell? ⟨g, z, none⟩ = some u := HM6.out.cell 1 z rfl hu
   have e1 : w6.frozen? ⟨g, z, none⟩ = false := HM6.out.frozen 1 z rfl
   have HX := LH (encN_lt (k : Int) hk0 hc0 hl0)
   generalize encN (k : Int) hk0 hc0 hl0 = x at *
   have HM7 := LH (HM6.out.word HZl.out x)
   have HW7 := LH (HW.out.set z HX.out)
   clear hb6 hu
   go_wp2_with fail
   exact ⟨⟨k + 1, ws.set z x, by omega, by omega, vint (by omega), HW7, HM7⟩, by simp [intOf]; omega⟩
  ·obtain rfl : k = B := by omega
   have hlt' : decide ((k : Int) < (k : Int)) = false := by simp
   clear hlt hk
   go_wp2_with fail
   go_loopw [7] (fun iv wr => ∃ (i : Nat) (ws : List Nat), i ≤ nt ∧ iv = .int .i64 (i : Int) ∧ Hid (WdsN N ws) ∧ Hid (Mem w wr [⟨q, 28, I.cs.toList, true⟩, ⟨g, 40, ws.map vu64, false⟩])) (fun iv _ => nt - (intOf iv).toNat)
   case atStart => exact ⟨0, ws, Nat.zero_le _, rfl, HW, HMr⟩
   case round =>
    clear HMr HW
    obtain ⟨i, ws, hi, rfl, HW, HMr⟩ := hrel
    by_cases hin : i < nt
    case neg =>
     obtain rfl : i = nt := by omega
     have hlt2 : decide ((i : Int) < (i : Int)) = false := by simp
     have c1 := (HC.out HMr.out).2.1
     clear hin hi
     go_wp2_with fail
     go_loopw [12] (fun iv wr => ∃ (s : Nat) (ws : List Nat), s ≤ 2 ∧ iv = .int .i64 (s : Int) ∧ Hid (WdsN N ws) ∧ Hid (Mem w wr [⟨q, 28, I.cs.toList, true⟩, ⟨g, 40, ws.map vu64, false⟩])) (fun iv _ => 2 - (intOf iv).toNat)
     case atStart => exact ⟨0, ws, by omega, rfl, HW, HMr⟩
     case round =>
      clear HMr HW c1
      obtain ⟨s, ws, hs, rfl, HW, HMr⟩ := hrel
      by_cases hs2 : s < 2
      case neg =>
       have hs2' : decide ((s : Int) < 2) = false := by simp; omega
       clear hs2 hs
       go_wp2_with fail
       go_loopw [16] (fun iv wr => ∃ (k : Nat) (ws : List Nat), k ≤ nu ∧ iv = .int .i64 (k : Int) ∧ Hid (WdsN N ws) ∧ Hid (Mem w wr [⟨q, 28, I.cs.toList, true⟩, ⟨g, 40, ws.map vu64, false⟩])) (fun iv _ => nu - (intOf iv).toNat)
       case atStart => exact ⟨0, ws, Nat.zero_le _, rfl, HW, HMr⟩
       case round =>
        clear HMr HW
        obtain ⟨k, ws, hk, rfl, HW, HMr⟩ := hrel
        have c12 := (HC.out HMr.out).2.2
        by_cases hkn : k < nu
        case neg =>
         obtain rfl : k = nu := by omega
         have hkn' : decide ((k : Int) < (k : Int)) = false := by simp
         have HF := LH (HP.out wr HMr.out.below g ws HW.out HGb.out (HMr.out.at 1 rfl))
         clear hkn hk
         go_wp2_with fail
         exact HF.out
        have hkn' : (k : Int) < (nu : Int) := by omega
        obtain ⟨b1, o1, hae, _, hcell⟩ := (HI.out.ucs.below HMr.out.below (Nat.le_refl _)).at (by rw [List.length_map, HI.out.ul, ← F3.out]; omega)
        have hUa : I.ua = ua := by
         have := congrArg (fun x : Array Value => x[12]?) HCs.out
         simp [Img.cs] at this
         exact this.1
        rw [hUa] at hae
        subst hae
        have hkl : k < I.U.length := by rw [HI.out.ul, ← F3.out]; exact hkn
        have d0 := hcell k (.int .u16 ((I.U[k] : Nat) : Int)) (by rw [List.getElem?_map, List.getElem?_eq_getElem hkl]; rfl)
        have hxb : I.U[k] < 65536 := HI.out.ub _ (List.getElem_mem _)
        generalize I.U[k] = x at *
        obtain ⟨z, hz⟩ : ∃ z, z = x % N := ⟨_, rfl⟩
        have hzm : Int.tmod (x : Int) (N : Int) = (z : Int) := by rw [hz]; exact (Int.ofNat_tmod x N).symm
        have hzN : z < N := by rw [hz]; exact Nat.mod_lt _ (by omega)
        have hzN' : (z : Int) < (N : Int) := by omega
        have hN0 : ((N : Int) == 0) = false := by rw [beq_eq_false_iff_ne]; omega
        have HZl : Hid (z < ws.length) := LH (by rw [HW.out.1]; exact hzN)
        have hWz : ws.getD z 0 < 18446744073709551616 := by
         rw [List.getD_eq_getElem?_getD, List.getElem?_eq_getElem HZl.out]
         exact HW.out.2 _ (List.getElem_mem _)
        have e0 : wr.cell? ⟨g, z, none⟩ = some (vu64 (ws.getD z 0)) := HMr.out.cell 1 z rfl (by
         rw [List.getElem?_map, List.getElem?_eq_getElem HZl.out, List.getD_eq_getElem?_getD, List.getElem?_eq_getElem HZl.out]; rfl)
        have e1 : wr.frozen? ⟨g, z, none⟩ = false := HMr.out.frozen 1 z rfl
        generalize ws.getD z 0 = old at *
        have hkm : Int.tmod (k : Int) 64 = (k : Int) := by rw [Int.tmod_eq_emod_of_nonneg (by omega)]; omega
        have hp64 : 2 ^ k < 18446744073709551616 := Nat.pow_lt_pow_right (a := 2) (m := k) (n := 64) (by decide) (by omega)
        have hsh : bits BinOp.xor IntKind.u64 (old : Int) (IntKind.u64.wrap (2 ^ k)) = ((old ^^^ 2 ^ k : Nat) : Int) := by
         have e : ((2 : Int) ^ k) = ((2 ^ k : Nat) : Int) := by rw [Int.natCast_pow]; rfl
         have h64 : ∀ P : Nat, P < 18446744073709551616 → IntKind.u64.wrap (P : Int) = (P : Int) := fun P h => IntWalk.u64_in _ (by omega)
         rw [e, h64 _ hp64, u64_xor_nat _ _ hWz hp64]
        have HXl : Hid (old ^^^ 2 ^ k < 18446744073709551616) := LH (Nat.xor_lt_two_pow (n := 64) hWz hp64)
        generalize old ^^^ 2 ^ k = X at *
        have HM5 := LH (HMr.out.word HZl.out X)
        have HW5 := LH (HW.out.set z HXl.out)
        clear hUa hcell hkl hz hzN hp64 hWz hkn
        go_wp2_with fail
        exact ⟨⟨k + 1, ws.set z X, by omega, vint (by omega), HW5, HM5⟩, by simp [intOf]; omega⟩
      have hs2' : (s : Int) < 2 := by omega
      obtain ⟨ep, hep, hec⟩ : ∃ ep : Nat, ep < 256 ∧ I.cs.toList[10 + s]? = some (.int .u8 (ep : Int)) := by
       have he := HI.out.eb
       match s, hs2 with
       | 0, _ => exact ⟨_, he.1, rfl⟩
       | 1, _ => exact ⟨_, he.2, rfl⟩
      have c10 := HMr.out.cell 0 (10 + s) rfl hec
      have hcv : IntKind.u64.wrap (ep : Int) = (ep : Int) := IntWalk.u64_in _ (by omega)
      have HMs := LH (HMr.out.alloc #[.int .u64 (ep : Int), .int .i64 0, .int .i64 0, .int .i64 0, .int .i64 0, .int .i64 0, .int .i64 0, .int .i64 0, .int .i64 0] 55)
      clear hec
      go_upto_region 25 with fail
      obtain ⟨qs, hqs⟩ : ∃ q, q = wr.heap.size := ⟨_, rfl⟩
      rw [← hqs] at HMs ⊢
      generalize wr.alloc _ = w5 at *
      have HM5 : Hid (Mem w w5 [⟨q, 28, I.cs.toList, true⟩, ⟨g, 40, ws.map vu64, false⟩, ⟨qs, 55, vu64 ep :: (List.replicate 8 (0 : Int)).map (Value.int .i64), true⟩]) := LH HMs.out
      have HL5 : Hid ((List.replicate 8 (0 : Int)).length = 8) := LH rfl
      generalize List.replicate 8 (0 : Int) = rs at *
      clear hqs HMs c10 hcv HMr
      go_wp2_with fail
      go_loopw [14] (fun kv wr => ∃ (k : Nat) (rs : List Int), k ≤ 8 ∧ kv = .int .i64 (k : Int) ∧ Hid (rs.length = 8) ∧ Hid (Mem w wr [⟨q, 28, I.cs.toList, true⟩, ⟨g, 40, ws.map vu64, false⟩, ⟨qs, 55, vu64 ep :: rs.map (Value.int .i64), true⟩])) (fun kv _ => 8 - (intOf kv).toNat)
      case atStart => exact ⟨0, rs, by omega, rfl, HL5, HM5⟩
      case round =>
       clear HM5 HL5
       obtain ⟨k, rs, hk, rfl, HL, HMr⟩ := hrel
       by_cases hk8 : k < 8
       case pos =>
        have hk8' : (k : Int) < 8 := by omega
        obtain ⟨y, hy⟩ : ∃ y : Int, I.cs.toList[2 + k]? = some (.int .i64 y) := by
         match k, hk8 with
         | 0, _ => exact ⟨_, rfl⟩
         | 1, _ => exact ⟨_, rfl⟩
         | 2, _ => exact ⟨_, rfl⟩
         | 3, _ => exact ⟨_, rfl⟩
         | 4, _ => exact ⟨_, rfl⟩
         | 5, _ => exact ⟨_, rfl⟩
         | 6, _ => exact ⟨_, rfl⟩
         | 7, _ => exact ⟨_, rfl⟩
        have y0 := HMr.out.cell 0 (2 + k) rfl hy
        have ry := fun x => later_cell y0 x
        have hld : ∀ w', (∃ x : Later wr, w' = x.val) → ∀ (i : Nat) (v : Value), I.cs.toList[i]? = some v → w'.cell? ⟨q, 0 + i, none⟩ = some v := by
         rintro w' ⟨x, rfl⟩ i v hi
         rw [Nat.zero_add]
         exact later_cell (HMr.out.cell 0 i rfl hi) x
        clear hy
        go_upto_region 28 with fail
        refine wp_region_seg (C := fun w' => ∃ x : Later (wr), w' = x.val) [.fl [0, 1, 2, 3, 4, 5, 7], .sq [6] true, .sq [8, 9] false] (by kernel_rfl) (by kernel_rfl) (by intro c a d v w h; cases d <;> exact h) ?_
        simp only [segs, picks, List.getElem?_cons_succ, List.getElem?_cons_zero]
        have hC1 := later_drew (wr)
        refine wpSeg_fl hC1 ?_
        repeat (first | (refine wpQuiet_load_arr aggIm I.cs hld rfl rfl rfl rfl ?_) | go_big_quiet_step (fail) | quiet_step (fail))
        refine wpQuiet_nil ?_
        have hbd := later_below hC1
        have HMd := LH (HMr.out.later hbd)
        generalize wr.drew = wd at *
        clear hbd ry hld y0 HMr
        refine wpSeg_sq (fun K hK => ?_)
        go_wp2_with fail
        refine (addr26_any (HI.out.below HMd.out.below) y).mono ?_
        rintro e w11 ⟨hb11, n, hn, rfl⟩
        have hC2 := later_step hC1 hb11
        have HM11 := LH (HMd.out.later hb11)
        clear hb11
        go_wp2_with fail
        refine hK _ _ (fun _ => hC2) ?_
        clear hK K
        obtain ⟨u, hu⟩ : ∃ u, (vu64 ep :: rs.map (Value.int .i64))[1 + k]? = some u := ⟨_, List.getElem?_eq_getElem (by rw [List.length_cons, List.length_map, HL.out]; omega)⟩
        have e0 : w11.cell? ⟨qs, 1 + k, none⟩ = some u := HM11.out.cell 2 (1 + k) rfl hu
        have e1 : w11.frozen? ⟨qs, 1 + k, none⟩ = false := HM11.out.frozen 2 (1 + k) rfl
        have HM12 : Hid (Mem w (w11.setCell ⟨qs, 1 + k, none⟩ (.int .i64 (n : Int))) [⟨q, 28, I.cs.toList, true⟩, ⟨g, 40, ws.map vu64, false⟩, ⟨qs, 55, vu64 ep :: (rs.set k (n : Int)).map (Value.int .i64), true⟩]) := LH (by
         have := HM11.out.set 2 (1 + k) (.int .i64 (n : Int)) rfl (by rw [List.length_cons, List.length_map, HL.out]; omega)
         rw [List.map_set]
         have e : (vu64 ep :: rs.map (Value.int .i64)).set (1 + k) (.int .i64 (n : Int)) = vu64 ep :: (rs.map (Value.int .i64)).set k (.int .i64 (n : Int)) := by rw [Nat.add_comm]; rfl
         rw [e] at this
         exact this)
        have HL12 : Hid ((rs.set k (n : Int)).length = 8) := LH (by rw [List.length_set]; exact HL.out)
        clear hu hC1 hC2 HMd HM11
        refine wpSeg_last ?_
        go_wp2_with fail
        exact ⟨⟨k + 1, rs.set k (n : Int), by omega, vint (by omega), HL12, HM12⟩, by simp [intOf]; omega⟩
       have hk8' : decide ((k : Int) < 8) = false := by simp; omega
       have hll : (vu64 ep :: rs.map (Value.int .i64)).length = 9 := by rw [List.length_cons, List.length_map, HL.out]
       clear hk8 hk
       go_wp2_with (refine wpList_load_mem aggSr HMr.out 2 rfl rfl rfl rfl hll ?_)
       rw [show Value.agg (vu64 ep :: rs.map (Value.int .i64)).toArray = slotVal ep rs from rfl]
       refine (rslencode_any ep rs HL.out (by omega) wr).mono ?_
       rintro e w6 ⟨rfl, hb6⟩
       have HM6 := LH (HMr.out.later hb6).drop2
       obtain ⟨a0, a1, a2, a3, a4, a5, a6, a7, b0, b1, b2, b3, b4, b5, b6, b7, hx⟩ := sixteen (l := slotW ep rs) (slotW_len ep rs)
       have HX : Hid (∀ z ∈ [a0, a1, a2, a3, a4, a5, a6, a7, b0, b1, b2, b3, b4, b5, b6, b7], z < 18446744073709551616) := LH (fun z hz => by
        rw [← hx] at hz
        obtain ⟨k, hk, rfl⟩ := List.mem_iff_getElem.1 hz
        have := slotW_lt (ep := ep) (rs := rs) (by omega) k
        rw [List.getD_eq_getElem?_getD, List.getElem?_eq_getElem hk] at this
        exact this)
       rw [hx, show arrW [a0, a1, a2, a3, a4, a5, a6, a7, b0, b1, b2, b3, b4, b5, b6, b7] = .agg #[vu64 a0, vu64 a1, vu64 a2, vu64 a3, vu64 a4, vu64 a5, vu64 a6, vu64 a7, vu64 b0, vu64 b1, vu64 b2, vu64 b3, vu64 b4, vu64 b5, vu64 b6, vu64 b7] from rfl]
       clear hb6 hx HMr hll HL
       have HMx := LH (HM6.out.alloc #[vu64 a0, vu64 a1, vu64 a2, vu64 a3, vu64 a4, vu64 a5, vu64 a6, vu64 a7, vu64 b0, vu64 b1, vu64 b2, vu64 b3, vu64 b4, vu64 b5, vu64 b6, vu64 b7] 113)
       go_upto_region 30 with fail
       obtain ⟨qx, hqx⟩ : ∃ q, q = w6.heap.size := ⟨_, rfl⟩
       rw [← hqx] at HMx ⊢
       generalize w6.alloc _ = w7 at *
       have HM7 : Hid (Mem w w7 [⟨q, 28, I.cs.toList, true⟩, ⟨g, 40, ws.map vu64, false⟩, ⟨qx, 113, [a0, a1, a2, a3, a4, a5, a6, a7, b0, b1, b2, b3, b4, b5, b6, b7].map vu64, true⟩]) := LH HMx.out
       clear hqx HMx HM6
       obtain ⟨s6, hs6⟩ : ∃ x, x = 64 * s := ⟨_, rfl⟩
       have hs6I : (64 : Int) * (s : Int) = (s6 : Int) := by omega
       obtain ⟨sl, hsl⟩ : ∃ x, x = 64 + s6 := ⟨_, rfl⟩
       have hslI : (64 : Int) + (s6 : Int) = (sl : Int) := by omega
       have hslN : sl ≤ 128 := by omega
       have hslL : sl ≤ N := by omega
       have hslE : ¬ N = sl := by omega
       obtain ⟨rl, hrl⟩ : ∃ x, x = N - sl := ⟨_, rfl⟩
       have hrl16 : 16 ≤ rl := by omega
       clear hs6 hsl
       refine wp_region_seg (C := fun w' => ∃ x : Later (w7), w' = x.val) [.fl [0, 1, 2, 3, 4, 5], .sq [6] false] (by kernel_rfl) (by kernel_rfl) (by intro c a d v w h; cases d <;> exact h) ?_
       simp only [segs, picks, List.getElem?_cons_succ, List.getElem?_cons_zero]
       have hC1 := later_drew (w7)
       refine wpSeg_fl hC1 ?_
       repeat (first | (refine wpQuiet_slice_from el64 (ad := some ⟨g, 0, none⟩) (n := N) (cap := N) sl rfl hslL (Nat.le_refl _) rfl rfl rfl rfl ?_) | go_big_quiet_step (fail) | quiet_step (fail))
       refine wpQuiet_nil ?_
       have hbd := later_below hC1
       have HMd := LH (HM7.out.later hbd)
       generalize w7.drew = wd at *
       clear hbd HM7 hC1
       try simp only [if_neg hslE, ← hrl, Option.map_some, add_none, Nat.zero_add, Nat.mul_one]
       have HSrc : Hid (∀ j v, ([a0, a1, a2, a3, a4, a5, a6, a7, b0, b1, b2, b3, b4, b5, b6, b7].map vu64)[j]? = some v → wd.cell? ⟨qx, 0 + j, none⟩ = some v) := LH (fun j v hj => by rw [Nat.zero_add]; exact HMd.out.cell 2 j rfl hj)
       have HLen : Hid (([a0, a1, a2, a3, a4, a5, a6, a7, b0, b1, b2, b3, b4, b5, b6, b7].map vu64).length = Nat.min 16 rl * 1) := LH (by rw [show Nat.min 16 rl = 16 from Nat.min_eq_left hrl16]; rfl)
       have HFit : Hid (sl + ([a0, a1, a2, a3, a4, a5, a6, a7, b0, b1, b2, b3, b4, b5, b6, b7].map vu64).length ≤ (ws.map vu64).length) := LH (by rw [List.length_map, List.length_map, HW.out.1]; simp; omega)
       refine wpSeg_last ?_
       go_wp2_with (refine wpList_copy_rows rfl rfl (Tryz.underlying31) (size := 1) (by kernel_rfl) rfl rfl (HMd.out.at 1 rfl) ([a0, a1, a2, a3, a4, a5, a6, a7, b0, b1, b2, b3, b4, b5, b6, b7].map vu64) HLen.out HSrc.out HFit.out (one_cells _) ?_; intro w8 h8 ht8; have H8 := LH h8; have HT8 := LH ht8; clear h8 ht8)
       have HM9 : Hid (Mem w w8 [⟨q, 28, I.cs.toList, true⟩, ⟨g, 40, (splice ws sl [a0, a1, a2, a3, a4, a5, a6, a7, b0, b1, b2, b3, b4, b5, b6, b7]).map vu64, false⟩]) := LH (by
        have := HMd.out.upd 1 (y := ⟨g, 40, (splice ws sl [a0, a1, a2, a3, a4, a5, a6, a7, b0, b1, b2, b3, b4, b5, b6, b7]).map vu64, false⟩) rfl rfl HT8.out (by
         rw [← splice_map]; exact RowX.of H8.out)
        exact Mem.drop2 this)
       have HW9 := LH (HW.out.put (o := sl) (cs := [a0, a1, a2, a3, a4, a5, a6, a7, b0, b1, b2, b3, b4, b5, b6, b7]) (by simp; omega) HX.out)
       exact ⟨⟨s + 1, _, by omega, vint (by omega), HW9, HM9⟩, by simp [intOf]; omega⟩
    have hin' : (i : Int) < (nt : Int) := by omega
    have c1 := (HC.out HMr.out).2.1
    obtain ⟨b1, o1, hae, _, hok, hcell⟩ := (HI.out.below HMr.out.below).thing (j := i) (by rw [← F2.out]; exact hin)
    rw [← F4.out] at hae
    subst hae
    obtain ⟨u, hu⟩ : ∃ u, u = I.T.getD i default := ⟨_, rfl⟩
    have HTo : Hid (u.tgt.length ≤ 63) := LH (HS.out.tgt u (by rw [hu, List.getD_eq_getElem?_getD, List.getElem?_eq_getElem (by rw [HI.out.tl, ← F2.out]; exact hin)]; exact List.getElem_mem _))
    rw [← hu] at hok hcell
    have HOk := LH hok
    have HTh : Hid (Cells w u.ta (u.tgt.map (Value.int .i64))) := LH (by
     obtain ⟨_, _, _, _, hok0, _⟩ := HI.out.thing (j := i) (by rw [← F2.out]; exact hin)
     rw [← hu] at hok0
     exact hok0.tgt)
    clear hu hok
    obtain ⟨po, p, d, ua1, uc1, ul⟩ := u
    have d0 : wr.cell? ⟨b1, o1 + i * 4, none⟩ = some (.int .u16 (po : Int)) := hcell 0 _ rfl
    have d1 : wr.cell? ⟨b1, o1 + i * 4 + 1, none⟩ = some (.int .u16 (p : Int)) := hcell 1 _ rfl
    have d2 : wr.cell? ⟨b1, o1 + i * 4 + 2, none⟩ = some (.int .u16 (d : Int)) := hcell 2 _ rfl
    have d3 : wr.cell? ⟨b1, o1 + i * 4 + 3, none⟩ = some (.slice ua1 ul.length uc1) := hcell 3 _ rfl
    have hpo : po < 65536 := HOk.out.pos
    have hpp : p < 65536 := HOk.out.p
    have hpd : d < 65536 := HOk.out.d
    obtain ⟨m, hm⟩ : ∃ m, m = ul.length := ⟨_, rfl⟩
    have hm63 : m ≤ 63 := by rw [hm]; exact HTo.out
    rw [← hm] at d3
    have HMe := LH hm
    have HTk0 : Hid (Cells w ua1 (ul.map (Value.int .i64))) := HTh
    clear hcell hm HTo hin HTh
    have HMa := LH (HMr.out.alloc #[.int .u16 (po : Int), .int .u16 (p : Int), .int .u16 (d : Int), .slice ua1 m uc1] 100)
    go_upto_region 13 with fail
    obtain ⟨qa, hqa⟩ : ∃ q, q = wr.heap.size := ⟨_, rfl⟩
    rw [← hqa] at HMa ⊢
    generalize wr.alloc _ = w5 at *
    have HM5 : Hid (Mem w w5 [⟨q, 28, I.cs.toList, true⟩, ⟨g, 40, ws.map vu64, false⟩, ⟨qa, 100, [.int .u16 (po : Int), .int .u16 (p : Int), .int .u16 (d : Int), .slice ua1 m uc1], true⟩]) := LH HMa.out
    have e0 := HM5.out.cell 2 0 rfl rfl
    have e1 := HM5.out.cell 2 1 rfl rfl
    have e2 := HM5.out.cell 2 2 rfl rfl
    clear hqa HMa d0 d1 d2 d3 c1 HOk HMr
    have HMb := LH (HM5.out.alloc #[.int .i64 (p : Int), .int .i64 (d : Int)] 109)
    go_upto_region 15 with fail
    obtain ⟨qb, hqb⟩ : ∃ q, q = w5.heap.size := ⟨_, rfl⟩
    rw [← hqb] at HMb ⊢
    generalize w5.alloc _ = w6 at *
    have HM6 : Hid (Mem w w6 [⟨q, 28, I.cs.toList, true⟩, ⟨g, 40, ws.map vu64, false⟩, ⟨qa, 100, [.int .u16 (po : Int), .int .u16 (p : Int), .int .u16 (d : Int), .slice ua1 m uc1], true⟩, ⟨qb, 109, [.int .i64 (p : Int), .int .i64 (d : Int)], true⟩]) := LH HMb.out
    clear hqb HMb e0 e1 e2 HM5
    by_cases hb1 : po < 512
    ·have hb1' : (po : Int) < 512 := by omega
     have HF := LH (HM6.out.drop2)
     clear hb1
     go_wp2_with fail
     exact ⟨⟨i + 1, ws, by omega, vint (by omega), HW, HF⟩, by simp [intOf]; omega⟩
    have hb1' : decide ((po : Int) < 512) = false := by simp; omega
    by_cases hb2 : N ≤ po
    ·have hb2' : (N : Int) ≤ (po : Int) := by omega
     have HF := LH (HM6.out.drop2)
     clear hb1 hb2
     go_wp2_with fail
     exact ⟨⟨i + 1, ws, by omega, vint (by omega), HW, HF⟩, by simp [intOf]; omega⟩
    have hb2' : decide ((N : Int) ≤ (po : Int)) = false := by simp; omega
    have b0 := HM6.out.cell 3 0 rfl rfl
    have b1' := HM6.out.cell 3 1 rfl rfl
    have HSz := LH (fun w => rsize8_any (p : Int) (d : Int) w)
    have hob : vob (p : Int) (d : Int) = .agg #[.int .i64 (p : Int), .int .i64 (d : Int)] := rfl
    rw [hob] at HSz
    have HZi : Hid (objSize (p : Int) (d : Int) ≠ 0 → (objSize (p : Int) (d : Int) : Int) = 1 + p + d) := LH (fun h => objSize_is h)
    have hsz := objSize_le (p : Int) (d : Int)
    generalize objSize (p : Int) (d : Int) = sz at *
    clear hob
    go_wp2_with fail
    refine (HSz.out w6).mono ?_
    rintro e w7 ⟨rfl, hb7⟩
    have HM7 := LH (HM6.out.later hb7)
    clear hb7 b0 b1' HM6
    by_cases hz0 : sz = 0
    ·subst hz0
     have HF := LH (HM7.out.drop2)
     clear hb1 hb2
     go_wp2_with fail
     exact ⟨⟨i + 1, ws, by omega, vint (by omega), HW, HF⟩, by simp [intOf]; omega⟩
    have hz0' : ((sz : Int) == 0) = false := by simp; omega
    have b0 := HM7.out.cell 3 0 rfl rfl
    have b1' := HM7.out.cell 3 1 rfl rfl
    go_wp2_with fail
    refine (HSz.out w7).mono ?_
    rintro e w8 ⟨rfl, hb8⟩
    have HM8 := LH (HM7.out.later hb8)
    clear hb8 b0 b1' HM7 HSz
    have hsum : (1 : Int) + p + d = (sz : Int) := (HZi.out hz0).symm
    clear HZi
    obtain ⟨rm, hrm⟩ : ∃ rm, rm = N - po := ⟨_, rfl⟩
    have hrI : (N : Int) - (po : Int) = (rm : Int) := by omega
    by_cases hz1 : rm < sz
    ·have hz1' : (rm : Int) < (sz : Int) := by omega
     have HF := LH (HM8.out.drop2)
     clear hb1 hb2 hrm hsum
     go_wp2_with fail
     exact ⟨⟨i + 1, ws, by omega, vint (by omega), HW, HF⟩, by simp [intOf]; omega⟩
    have hz1' : decide ((rm : Int) < (sz : Int)) = false := by simp; omega
    have HGeo : Hid (po + 1 + p + d ≤ N ∧ po < N) := LH (by omega)
    clear hb1 hb2 hrm hsum hz0
    have HEn := LH (fun w => rencode8_any (p : Int) (d : Int) (po : Int) w)
    rw [show vob (p : Int) (d : Int) = .agg #[.int .i64 (p : Int), .int .i64 (d : Int)] from rfl] at HEn
    have HX := LH (oencN_lt (po : Int) (p : Int) (d : Int))
    generalize oencN (po : Int) (p : Int) (d : Int) = x at *
    have hpN' : (po : Int) < (N : Int) := by have := HGeo.out.2; omega
    have b0 := HM8.out.cell 3 0 rfl rfl
    have b1' := HM8.out.cell 3 1 rfl rfl
    go_wp2_with fail
    refine (HEn.out w8).mono ?_
    rintro e w9 ⟨rfl, hb9⟩
    have HM9 := LH (HM8.out.later hb9)
    have HZl : Hid (po < ws.length) := LH (by rw [HW.out.1]; exact HGeo.out.2)
    obtain ⟨u, hu⟩ : ∃ u, (ws.map vu64)[po]? = some u := ⟨_, List.getElem?_eq_getElem (by rw [List.length_map]; exact HZl.out)⟩
    have e0 : w9.cell? ⟨g, po, none⟩ = some u := HM9.out.cell 1 po rfl hu
    have e1 : w9.frozen? ⟨g, po, none⟩ = false := HM9.out.frozen 1 po rfl
    have HM10 := LH (HM9.out.word HZl.out x)
    have HW10 := LH (HW.out.set po HX.out)
    clear hb9 hu b0 b1' HM8 HEn HX hz1
    go_wp2_with fail
    go_loopw [11] (fun kv wr => ∃ (k : Nat) (ws : List Nat), k ≤ m ∧ kv = .int .i64 (k : Int) ∧ Hid (WdsN N ws) ∧ Hid (Mem w wr [⟨q, 28, I.cs.toList, true⟩, ⟨g, 40, ws.map vu64, false⟩, ⟨qa, 100, [.int .u16 (po : Int), .int .u16 (p : Int), .int .u16 (d : Int), .slice ua1 m uc1], true⟩, ⟨qb, 109, [.int .i64 (p : Int), .int .i64 (d : Int)], true⟩])) (fun kv _ => m - (intOf kv).toNat)
    case atStart => exact ⟨0, _, Nat.zero_le _, rfl, HW10, HM10⟩
    case round =>
     clear HM10 HW10 e0 e1 HM9 HW HZl
     obtain ⟨k, ws, hk, rfl, HW, HMr⟩ := hrel
     have b0 := HMr.out.cell 3 0 rfl rfl
     have c3 := HMr.out.cell 2 3 rfl rfl
     by_cases hkp : k < p
     case neg =>
      have hkp' : decide ((k : Int) < (p : Int)) = false := by simp; omega
      have HF := LH (HMr.out.drop2)
      go_wp2_with fail
      exact ⟨⟨i + 1, ws, by omega, vint (by omega), HW, HF⟩, by simp [intOf]; omega⟩
     have hkp' : (k : Int) < (p : Int) := by omega
     by_cases hkm : k < m
     case neg =>
      have hkm' : decide ((k : Int) < (m : Int)) = false := by simp; omega
      have HF := LH (HMr.out.drop2)
      go_wp2_with fail
      exact ⟨⟨i + 1, ws, by omega, vint (by omega), HW, HF⟩, by simp [intOf]; omega⟩
     have hkm' : (k : Int) < (m : Int) := by omega
     have hkl : k < ul.length := by rw [← HMe.out]; exact hkm
     obtain ⟨y, hy⟩ : ∃ y, (ul.map (Value.int .i64))[k]? = some (Value.int .i64 y) := ⟨ul[k], by rw [List.getElem?_map, List.getElem?_eq_getElem hkl]; rfl⟩
     obtain ⟨b2, o2, hae2, _, hct⟩ := (HTk0.out.below HMr.out.below (Nat.le_refl _)).at (by rw [List.length_map]; omega)
     subst hae2
     have y0 := hct k _ hy
     have r3 := fun x => later_cell c3 x
     have ry := fun x => later_cell y0 x
     have hld : ∀ w', (∃ x : Later wr, w' = x.val) → ∀ (i : Nat) (v : Value), I.cs.toList[i]? = some v → w'.cell? ⟨q, 0 + i, none⟩ = some v := by
      rintro w' ⟨x, rfl⟩ i v hi
      rw [Nat.zero_add]
      exact later_cell (HMr.out.cell 0 i rfl hi) x
     obtain ⟨po1, hpo1⟩ : ∃ k, k = po + 1 := ⟨_, rfl⟩
     have hpo1I : (po : Int) + 1 = (po1 : Int) := by omega
     obtain ⟨z, hz⟩ : ∃ z, z = po1 + k := ⟨_, rfl⟩
     have hzI : (po1 : Int) + (k : Int) = (z : Int) := by omega
     have hzN : z < N := by have := HGeo.out.1; omega
     have hzN' : (z : Int) < (N : Int) := by omega
     have HZl : Hid (z < ws.length) := LH (by rw [HW.out.1]; exact hzN)
     have hzb : z ≤ 4096 := by omega
     have hpo1b : po1 ≤ 4096 := by omega
     clear hz hpo1 hct hy hkl hkp hzN
     go_upto_region 20 with fail
     refine wp_region_seg (C := fun w' => ∃ x : Later (wr), w' = x.val) [.fl [0, 1, 2, 3, 4, 5, 6, 7, 8, 9, 10], .sq [11] true, .fl [12], .sq [13, 14] false] (by kernel_rfl) (by kernel_rfl) (by intro c a d v w h; cases d <;> exact h) ?_
     simp only [segs, picks, List.getElem?_cons_succ, List.getElem?_cons_zero]
     have hC1 := later_drew (wr)
     refine wpSeg_fl hC1 ?_
     repeat (first | (refine wpQuiet_load_arr aggIm I.cs hld rfl rfl rfl rfl ?_) | go_big_quiet_step (fail) | quiet_step (fail))
     refine wpQuiet_nil ?_
     have hbd := later_below hC1
     have HMd := LH (HMr.out.later hbd)
     generalize wr.drew = wd at *
     clear hbd r3 ry hld c3 b0 y0 HMr
     refine wpSeg_sq (fun K hK => ?_)
     go_wp2_with fail
     refine (addr26_any (HI.out.below HMd.out.below) y).mono ?_
     rintro e w11 ⟨hb11, n, hn, rfl⟩
     have hC2 := later_step hC1 hb11
     have HM11 := LH (HMd.out.later hb11)
     clear hb11
     go_wp2_with fail
     refine hK _ _ (fun _ => hC2) ?_
     clear hK K
     have hcv : IntKind.u64.wrap (n : Int) = (n : Int) := IntWalk.u64_in _ (by omega)
     refine wpSeg_fl hC2 ?_
     repeat (first | go_big_quiet_step (fail) | quiet_step (fail))
     refine wpQuiet_nil ?_
     obtain ⟨u, hu⟩ : ∃ u, (ws.map vu64)[z]? = some u := ⟨_, List.getElem?_eq_getElem (by rw [List.length_map]; exact HZl.out)⟩
     have e0 : w11.cell? ⟨g, z, none⟩ = some u := HM11.out.cell 1 z rfl hu
     have e1 : w11.frozen? ⟨g, z, none⟩ = false := HM11.out.frozen 1 z rfl
     have HM12 := LH (HM11.out.word HZl.out n)
     have HW12 := LH (HW.out.set z (x := n) (by omega))
     clear hu hC1 hC2 HMd
     refine wpSeg_last ?_
     go_wp2_with fail
     exact ⟨⟨k + 1, ws.set z n, by omega, vint (by omega), HW12, HM12⟩, by simp [intOf]; omega⟩
theorem zeros_lt (n : Nat) : ∀ z ∈ List.replicate n 0, z < 18446744073709551616 := fun z hz => by rw [List.mem_replicate] at hz; omega
def newD (n : Nat) : Dev := freshDev (List.replicate (512 * n) 0) (64 * n)
theorem newD_clr {n : Nat} (h : n ≤ 100) : Clr (newD n) := fresh_clr (by simp; omega) (by simp; omega) (zeros_lt _)
theorem stV_is (n id : Nat) (A : AF) (g : Nat) (va : Option Addr) (vc : Nat) : stV n id (valloc A) (.pointer (some ⟨g, 0, none⟩)) (.slice va 0 vc) = .agg #[.int .i64 (n : Int), vu64 id, .int .i64 (n : Int), valloc A, .pointer (some ⟨g, 0, none⟩), .slice va 0 vc] := rfl
set_option maxHeartbeats 4000000 in
set_option maxRecDepth 100000 in
theorem awake26_any (w : World) : Calls Tryz.prog 7 #[] w (Gives (.bool true) w) := by
 have HP : Hid (∀ w', Below w.heap.size w w' → Gives (.bool true) w (.returned (.bool true)) w') := LH (fun w' h => ⟨rfl, h⟩)
 generalize Gives (.bool true) w = Post at *
 go_enter Tryz.func7, Tryz.ntmps7
 go_wp2_with fail
 refine (new_any 1024 _ (by omega)).mono ?_
 rintro e w1 ⟨F, rfl, hF, hd, hb1⟩
 have HD1 : Hid (DevAt w1 F (newD 2)) := LH hd
 have HF := LH hF
 have HB1 := LH hb1
 have HC1 := LH (newD_clr (n := 2) (by omega))
 have HE := LH (format_ends HC1.out (n := 2) (id := 5) (by omega) (by omega) (by omega) rfl)
 have he0 : ((newD 2).format 5).err = 0 := format_live (n := 2) HC1.out (fresh_live _ _) (by omega) (by omega) (by omega) rfl
 have HOk := LH (format_okN HC1.out.1 (fresh_ok _ _ 0 : (newD 2).ok 0) 5 (by omega))
 have ho0 : (newD 2).ok 0 := fresh_ok _ _ _
 clear hd hF hb1
 generalize newD 2 = S at *
 unfold vdev at *
 go_wp2_with fail
 refine (rvformat_any HD1.out HC1.out.1 (N := 0) (by omega) ho0 5 (by omega)).mono ?_
 rintro e w2 ⟨rfl, hd2, ht2⟩
 rw [he0]
 obtain ⟨hcl, hlen, hT⟩ := HE.out.1 he0
 have HO := LH (rvopen_any hd2 hcl.1 hcl.2 (N := 900000) (by omega) (by simpa using HOk.out) (by rw [hlen]; omega))
 obtain ⟨n, hn⟩ : ∃ n, n = 2 := ⟨_, rfl⟩
 obtain ⟨id, hid⟩ : ∃ n, n = 5 := ⟨_, rfl⟩
 have HT : Hid (∀ j, (S.format 5).dev.cache.getD j 0 = fmtW n id j) := LH (by rw [hn, hid]; exact hT)
 have HLn : Hid ((S.format 5).dev.cache.length = 512 * n) := LH (by rw [hn]; exact hlen)
 have HId := LH hid
 have HNn := LH hn
 have hn2 : 2 ≤ n := by omega
 have hn5 : n ≤ 5 := by omega
 have HB2 : Hid (Below w.heap.size w w2) := LH (HB1.out.trans (ht2.below HB1.out.size (fun k hk => HF.out k hk)))
 clear hd2 ht2 hcl hlen hT hid hn
 go_wp2_with fail
 refine HO.out.mono ?_
 intro e w3 h3
 obtain ⟨ht3, A, nn, g, m, va, vc, rfl, hal, hsum⟩ := h3.fmt HT.out hn2 hn5 HLn.out
 rw [stV_is]
 have HB3 : Hid (Below w.heap.size w w3) := LH (HB2.out.trans (ht3.below HB2.out.size (fun k hk => HF.out k hk)))
 have HM := LH (Mem.one w3 #[.int .i64 (n : Int), vu64 id, .int .i64 (n : Int), valloc A, .pointer (some ⟨g, 0, none⟩), .slice va 0 vc] 49)
 have hbl := below_alloc w3 (.cells #[.int .i64 (n : Int), vu64 id, .int .i64 (n : Int), valloc A, .pointer (some ⟨g, 0, none⟩), .slice va 0 vc] 49)
 have HAl := LH (hal.below hbl)
 have HS : Hid (sumOf (runsOf m.bm.free) = 1) := LH (by rw [hsum, HNn.out])
 have HB4 : Hid (Below w.heap.size w (w3.alloc (.cells #[.int .i64 (n : Int), vu64 id, .int .i64 (n : Int), valloc A, .pointer (some ⟨g, 0, none⟩), .slice va 0 vc] 49))) := LH (HB3.out.trans (hbl.mono HB3.out.size))
 clear ht3 hal hsum hbl h3 HB3 HO
 go_upto_region 5 with fail
 obtain ⟨q, hq⟩ : ∃ q, q = w3.heap.size := ⟨_, rfl⟩
 rw [← hq] at HM ⊢
 generalize w3.alloc _ = w4 at *
 clear hq
 have c1 := HM.out.cell 0 1 rfl rfl
 have c3 := HM.out.cell 0 3 rfl rfl
 have c5 := HM.out.cell 0 5 rfl rfl
 have a0 := HAl.out.c0
 go_wp2_with fail
 refine (bfree_any HAl.out.man (by omega)).mono ?_
 rintro e w5 ⟨rfl, hb5⟩
 rw [HS.out, show ((1 : Nat) : Int) = 1 from rfl]
 have d1 := (HM.out.later hb5).cell 0 1 rfl rfl
 have hid' : ((id : Int) == 5) = true := by rw [HId.out]; rfl
 have HFin := LH (HP.out w5 (HB4.out.trans (hb5.mono HB4.out.size)))
 clear hb5 c1 c3 c5 a0
 go_wp2_with fail
 exact HFin.out
theorem lt_same {x y : List Nat} (hx : x.Pairwise (· < ·)) (hy : y.Pairwise (· < ·)) (h : ∀ a, a ∈ x ↔ a ∈ y) : x = y := by
 have hp : x.Perm y := (List.perm_ext_iff_of_nodup (hx.imp (fun h => Nat.ne_of_lt h)) (hy.imp (fun h => Nat.ne_of_lt h))).2 h
 exact sorted_same (hx.imp Nat.le_of_lt) (hy.imp Nat.le_of_lt) (fun a => hp.count_eq a)
theorem fresh_pad (ws : List Nat) (m : Nat) (hl : ws.length = 8 * m) : freshR (padTo ws (8 * m)) m = (freshDev ws m).ref ∧ padTo ws (8 * m) = ws := by
 have e : padTo ws (8 * m) = ws := by unfold padTo; rw [hl, Nat.sub_self]; simp
 refine ⟨?_, e⟩
 rw [e]
 unfold freshR Dev.ref freshDev
 rw [hl]; rfl
theorem fresh_fit0 {ws : List Nat} {m : Nat} (h : (freshDev ws m).wf) : (freshDev ws m).fit 0 := by
 have e : nowD (freshDev ws m) = freshDev ws m := by unfold nowD freshDev; simp
 have := nowD_fit h 0
 rw [e] at this
 exact this
end Go.Proofs.YtpohaahihdhleaaGreat
