/- Parts of the proof of one statement of the seat. -/
import Derived.Test.YtpohaahihdhleaaGreatRO3
import Derived.Outline
import Derived.Deep.Cut
import Derived.Shelf.Slices.Turned
import Derived.Test.YtpohaahihdhleaaGreatProg
set_option linter.unusedVariables false
set_option maxHeartbeats 16000000
set_option maxRecDepth 100000
namespace Go.Proofs.YtpohaahihdhleaaGreat
open Go.RowKit
structure Qgo where
 u:Nat
 b:Nat
 c:Nat
def Qgo.list (X:Qgo):List Nat:=[X.u,X.b]
def Jh5 (X:Qgo) (n:Nat) (l:List Bool):Array Value:=#[.slice (some ⟨X.b,0,none⟩) n X.c,.int .i64 (l.length:Int),.int .i64 (l.count true:Int)]
structure Qoz (w:World) (X:Qgo) (ws:List Nat) (l:List Bool):Prop where
 bits:Qeu ws l
 head:w.heap[X.u]?=some (.cells (Jh5 X ws.length l) 262 (0,0))
 row:Qa6 w X.b 40 (ws.map Qad)
 ne:X.u≠X.b
 small:l.length≤1000000
def Qez (w:World) (X:Qgo) (l:List Bool):Prop:=∃ws,Qoz w X ws l
abbrev Qk6 (X:Qgo):Value:=.pointer (some ⟨X.u,0,none⟩)
theorem Qoz.keep {w w':World} {X:Qgo} {ws:List Nat} {l:List Bool} (h:Qoz w X ws l) (hk:∀k∈X.list,w'.heap[k]?=w.heap[k]?):Qoz w' X ws l :=
 ⟨h.bits,(hk X.u (by simp [Qgo.list])).trans h.head,h.row.keep (hk X.b (by simp [Qgo.list])),h.ne,h.small⟩
theorem Qez.keep {w w':World} {X:Qgo} {l:List Bool} (h:Qez w X l) (hk:∀k∈X.list,w'.heap[k]?=w.heap[k]?):Qez w' X l:=by
 obtain ⟨ws,h⟩:=h;exact ⟨ws,h.keep hk⟩
theorem Qez.mem {w:World} {X:Qgo} {l:List Bool} (h:Qez w X l):∀k∈X.list,k<w.heap.size:=by
 obtain ⟨ws,h⟩:=h;have h1:=(Array.getElem?_eq_some_iff.1 h.head).1;have h2:=h.row.lt;simp only [Qgo.list,List.mem_cons,List.not_mem_nil,or_false,forall_eq_or_imp,forall_eq]
 exact ⟨h1,h2⟩
theorem Qez.below {w w':World} {X:Qgo} {l:List Bool} (h:Qez w X l) (hb:Below w.heap.size w w'):Qez w' X l:=h.keep (fun k hk=>hb.block k (h.mem k hk))
theorem Qez.small {w:World} {X:Qgo} {l:List Bool} (h:Qez w X l):l.length≤1000000:=by obtain ⟨_,h⟩:=h;exact h.small
theorem Qoz.c0 {w:World} {X:Qgo} {ws:List Nat} {l:List Bool} (h:Qoz w X ws l):w.cell? ⟨X.u,0,none⟩=some (.slice (some ⟨X.b,0,none⟩) ws.length X.c):=cell_of_row _ _ 0 _ _ _ h.head
theorem Qoz.c1 {w:World} {X:Qgo} {ws:List Nat} {l:List Bool} (h:Qoz w X ws l):w.cell? ⟨X.u,1,none⟩=some (.int .i64 (l.length:Int)):=cell_of_row _ _ 1 _ _ _ h.head
theorem Qnk {w:World} {X:Qgo} {l:List Bool} (h:Qez w X l) (a:Int) :
  Calls Tryz.prog 160 #[Qk6 X,.int .i64 a] w fun e w'=>e=.returned (.bool (decide (0≤a∧a<(l.length:Int))))∧w=w':=by
 obtain ⟨ws,h⟩:=h;have c1:=h.c1;have hs:=h.small;clear h
 by_cases h0:0≤a
 ·have h0':decide (0≤a)=true:=by simpa using h0
  by_cases h1:a<(l.length:Int)
  ·have HR:Hid (decide (0≤a∧a<(l.length:Int))=true):=LH (by simp [h0,h1]);generalize decide (0≤a∧a<(l.length:Int))=r at *;go_enter Tryz.func160,Tryz.ntmps160;go_wp2_with fail
   go_ret
   exact ⟨by rw [HR.out];rfl,rfl⟩
  ·have HR:Hid (decide (0≤a∧a<(l.length:Int))=false):=LH (by simp [h1]);have h1':(l.length:Int)≤a:=by omega
   generalize decide (0≤a∧a<(l.length:Int))=r at *;go_enter Tryz.func160,Tryz.ntmps160;go_wp2_with fail
   go_ret
   exact ⟨by rw [HR.out];rfl,rfl⟩
 ·have HR:Hid (decide (0≤a∧a<(l.length:Int))=false):=LH (by simp [h0]);have h0':decide (0≤a)=false:=by simpa using h0
  generalize decide (0≤a∧a<(l.length:Int))=r at *;go_enter Tryz.func160,Tryz.ntmps160;go_wp2_with fail
  go_ret
  exact ⟨by rw [HR.out];rfl,rfl⟩
def Jad (l:List Bool) (a:Int):Bool:=decide (0≤a) && l.getD a.toNat false
theorem Qir (l:List Bool) (j:Nat):Jad l (j:Int)=l.getD j false:=by unfold Jad;simp
theorem Jdi {l:List Bool} {a:Int} (h:decide (0≤a∧a<(l.length:Int))=false):Jad l a=false:=by
 unfold Jad
 by_cases h0:0≤a
 ·have:¬a<(l.length:Int):=by simpa [h0] using h
  rw [GD,List.getElem?_eq_none (by omega)];simp
 ·simp [h0]
theorem Jfj (x r:Nat) (hx:x<18446744073709551616):bits BinOp.and IntKind.u64 ((x/2 ^ r:Nat):Int) 1=((x/2 ^ r % 2:Nat):Int):=by
 have h1:x/2 ^ r<18446744073709551616:=Nat.lt_of_le_of_lt (Nat.div_le_self _ _) hx;have:=u64_and_nat (x/2 ^ r) 1 h1 (by decide);rw [show (1:Int)=((1:Nat):Int) from rfl,this,Nat.and_one_is_mod]
theorem Jh3 (x m:Nat):(((x/2 ^ m % 2:Nat):Int) == 1)=x.testBit m:=by
 have h:=Qoq x m
 cases hb:x.testBit m with
 | false =>
  have:x/2 ^ m % 2=0:=by
   have:¬x/2 ^ m % 2=1:=fun c=>by rw [h.1 c] at hb;cases hb
   omega
  rw [this];rfl
 | true =>
  have:=h.2 hb;rw [this];rfl
theorem Qro {w:World} {X:Qgo} {l:List Bool} (h:Qez w X l) (a:Int) :
  Calls Tryz.prog 161 #[Qk6 X,.int .i64 a] w fun e w'=>e=.returned (.bool (Jad l a))∧w=w':=by
 have HS:=LH h;obtain ⟨ws,h⟩:=h;have c0:=h.c0
 by_cases hin:0≤a∧a<(l.length:Int)
 ·obtain ⟨j,rfl⟩:=Int.eq_ofNat_of_zero_le hin.1;have hj:j<l.length:=by omega
  have HT:Hid (decide (0≤(j:Int)∧(j:Int)<(l.length:Int))=true):=LH (by simp [hj]);have hw:=h.bits.word hj;have HB:=LH (h.bits.bit j);have hx:=h.bits.getD_lt (j/64);have d0:w.cell? ⟨X.b,j/64,none⟩=some (Qad (ws.getD (j/64) 0)):=h.row.cell (by simp [hw]);have HH:=LH (Qir l j);unfold Jgy at HB;have HO:=LH (Jfj (ws.getD (j/64) 0) (j % 64) hx);have HE:=LH (Qoq (ws.getD (j/64) 0) (j % 64));have hsm:=h.small;generalize ws.getD (j/64) 0=x at *;generalize Jad l (j:Int)=r at *;generalize l.getD j false=r2 at *;generalize hr:j % 64=m at *;generalize hq:j/64=q at *;have hm:m<64:=by omega
  have e1:(j:Int)/64=(q:Int):=by omega
  have e2:(j:Int) % 64=(m:Int):=by omega
  clear h hin hr hq;go_enter Tryz.func161,Tryz.ntmps161;go_wp2_with fail;refine (Qnk HS.out (j:Int)).mono ?_;rintro e w1 ⟨rfl,rfl⟩;rw [HT.out];go_wp2_with fail
  go_ret
  have e:((x:Int)/2 ^ m)=((x/2 ^ m:Nat):Int):=by push_cast;rfl
  refine ⟨?_,rfl⟩;rw [HH.out,← HB.out,← Jh3,← HO.out,← e]
  rfl
 ·have HT:Hid (decide (0≤a∧a<(l.length:Int))=false):=LH (by simpa using hin);have HH:=LH (Jdi HT.out);generalize Jad l a=r at *;clear h hin c0;go_enter Tryz.func161,Tryz.ntmps161;go_wp2_with fail;refine (Qnk HS.out a).mono ?_;rintro e w1 ⟨rfl,rfl⟩;rw [HT.out];go_wp2_with fail
  go_ret
  exact ⟨by rw [HH.out];rfl,rfl⟩
theorem Jf6 (x m:Nat) (hx:x<18446744073709551616) (hm:m<64):bits BinOp.or IntKind.u64 (x:Int) (IntKind.u64.wrap ((2:Int) ^ m))=((x ||| 2 ^ m:Nat):Int):=by
 have p:2 ^ m<18446744073709551616:=Nat.pow_lt_pow_right (n:=64) (by decide) hm;have e:IntKind.u64.wrap ((2:Int) ^ m)=((2 ^ m:Nat):Int):=by
  rw [show (2:Int) ^ m=((2 ^ m:Nat):Int) by push_cast;rfl];generalize 2 ^ m=y at p ⊢;rw [IntKind.wrap_u64];omega
 rw [e,u64_or_nat _ _ hx p]
structure Qsn (w w1:World) (X:Qgo) (ws:List Nat) (l:List Bool):Prop where
 head:w1.heap[X.u]?=some (.cells (Jh5 X ws.length l) 262 (0,0))
 row:Qa6 w1 X.b 40 (ws.map Qad)
 touch:Qam X.list w w1
theorem Qoz.mid {w:World} {X:Qgo} {ws:List Nat} {l:List Bool} (h:Qoz w X ws l) (q y:Nat) (hq:q<ws.length):Qsn w (w.setCell ⟨X.b,q,none⟩ (Qad y)) X (ws.set q y) l:=by
 refine ⟨?_,?_,Qam.setCell _ (by simp [Qgo.list]) _⟩
 ·rw [List.length_set];exact (Below.heap_setCell _ _ _ _ h.ne).trans h.head
 ·rw [List.map_set];exact h.row.set q (by simpa using hq) _
theorem Qsn.done {w w1:World} {X:Qgo} {ws:List Nat} {l l':List Bool} (h:Qsn w w1 X ws l) (hb:Qeu ws l') (hl:l'.length=l.length) (hs:l.length≤1000000) (hn:X.u≠X.b) {c:Int} (hc:c=(l'.count true:Int)) :
  Qez (w1.setCell ⟨X.u,2,none⟩ (.int .i64 c)) X l'∧Qam X.list w (w1.setCell ⟨X.u,2,none⟩ (.int .i64 c)):=by
 subst hc;refine ⟨⟨ws,hb,?_,h.row.keep (Below.heap_setCell _ _ _ _ (fun e=>hn e.symm)),hn,by omega⟩,h.touch.trans (Qam.setCell _ (by simp [Qgo.list]) _)⟩;rw [heap_setCell_same w1 X.u 2 _ _ _ h.head];unfold Jh5;rw [hl]
 rfl
theorem Qsn.c2 {w w1:World} {X:Qgo} {ws:List Nat} {l:List Bool} (h:Qsn w w1 X ws l):w1.cell? ⟨X.u,2,none⟩=some (.int .i64 (l.count true:Int))∧w1.frozen? ⟨X.u,2,none⟩=false:=⟨cell_of_row _ _ 2 _ _ _ h.head,frozen_of_row _ _ _ _ _ h.head⟩
theorem Jej {w:World} {X:Qgo} {l:List Bool} (h:Qez w X l) (j:Nat) (hj:j<l.length) (hno:l.getD j false=false) :
  Calls Tryz.prog 119 #[Qk6 X,.int .i64 (j:Int)] w fun e w'=>e=.returned (.bool true)∧Qez w' X (l.set j true)∧Qam X.list w w':=by
 have HS:=LH h;obtain ⟨ws,h⟩:=h;have c0:=h.c0;have HT:Hid (decide (0≤(j:Int)∧(j:Int)<(l.length:Int))=true):=LH (by simp [hj]);have hw:=h.bits.word hj;have HBits:=LH (h.bits.add hj);have hx:=h.bits.getD_lt (j/64);have d0:w.cell? ⟨X.b,j/64,none⟩=some (Qad (ws.getD (j/64) 0)):=h.row.cell (by simp [hw]);have HH:Hid (Jad l (j:Int)=false):=LH (by rw [Qir,hno]);have hsm:=h.small;have HI:=LH h;have HC:=LH (Qo3 hj hno);have hcl:=Qlw l;have f0:w.frozen? ⟨X.b,j/64,none⟩=false:=h.row.frozen _;generalize ws.getD (j/64) 0=x at *;generalize hr:j % 64=m at *;generalize hq:j/64=q at *;have hm:m<64:=by omega
 have e1:(j:Int)/64=(q:Int):=by omega
 have e2:(j:Int) % 64=(m:Int):=by omega
 clear h hr hq hno;go_enter Tryz.func119,Tryz.ntmps119;go_wp2_with fail;refine (Qnk HS.out (j:Int)).mono ?_;rintro e w1 ⟨rfl,rfl⟩;rw [HT.out];go_wp2_with fail;refine (Qro HS.out (j:Int)).mono ?_;rintro e w1 ⟨rfl,rfl⟩;rw [HH.out];go_upto_region 4 with fail;rw [Jf6 x m hx hm];have HMid:=LH (HI.out.mid q (x ||| 2 ^ m) hw);clear d0 f0 c0;generalize w.setCell _ _=w1 at *;obtain ⟨c2,f2⟩:=HMid.out.c2;go_wp2_with fail
 go_ret
 refine ⟨rfl,HMid.out.done HBits.out (by simp) hsm HI.out.ne ?_⟩;rw [HC.out];push_cast;rfl
theorem Jeq {w:World} {X:Qgo} {l:List Bool} (h:Qez w X l) (a:Int) (hno:Jad l a=true∨decide (0≤a∧a<(l.length:Int))=false) :
  Calls Tryz.prog 119 #[Qk6 X,.int .i64 a] w fun e w'=>e=.returned (.bool false)∧w=w':=by
 have HS:=LH h;clear h
 cases hd:decide (0≤a∧a<(l.length:Int)) with
 | false =>
  have HD:=LH hd;clear hd hno;go_enter Tryz.func119,Tryz.ntmps119;go_wp2_with fail;refine (Qnk HS.out a).mono ?_;rintro e w1 ⟨rfl,rfl⟩;rw [HD.out];go_wp2_with fail
  go_ret
  exact ⟨rfl,rfl⟩
 | true =>
  have HD:=LH hd;have HH:Hid (Jad l a=true):=LH (hno.resolve_right (by rw [hd];simp));clear hd hno;go_enter Tryz.func119,Tryz.ntmps119;go_wp2_with fail;refine (Qnk HS.out a).mono ?_;rintro e w1 ⟨rfl,rfl⟩;rw [HD.out];go_wp2_with fail;refine (Qro HS.out a).mono ?_;rintro e w1 ⟨rfl,rfl⟩;rw [HH.out];go_wp2_with fail
  go_ret
  exact ⟨rfl,rfl⟩
def Qhu (l:List Bool) (a:Int):Bool:=decide (0≤a∧a<(l.length:Int)) && !Jad l a
def Qza (l:List Bool) (a:Int):List Bool:=if Qhu l a then l.set a.toNat true else l
theorem Jee {w:World} {X:Qgo} {l:List Bool} (h:Qez w X l) (a:Int) :
  Calls Tryz.prog 119 #[Qk6 X,.int .i64 a] w fun e w'=>e=.returned (.bool (Qhu l a))∧Qez w' X (Qza l a)∧Qam X.list w w':=by
 unfold Qza
 cases hf:Qhu l a with
 | true =>
  unfold Qhu at hf;simp only [Bool.and_eq_true,decide_eq_true_eq,Bool.not_eq_true'] at hf
  obtain ⟨⟨h1,h2⟩,h3⟩:=hf;obtain ⟨j,rfl⟩:=Int.eq_ofNat_of_zero_le h1;rw [Qir] at h3;rw [if_pos rfl];exact Jej h j (by omega) h3
 | false =>
  rw [if_neg (by simp)];refine (Jeq h a ?_).mono ?_
  ·unfold Qhu at hf
   cases hd:decide (0≤a∧a<(l.length:Int)) with
   | false=>exact .inr rfl
   | true=>rw [hd] at hf;simp at hf;exact .inl hf
  ·rintro e w' ⟨rfl,rfl⟩;exact ⟨rfl,h,Qam.refl _ _⟩
def Je4 (x:Int):Int :=
 let a:=IntKind.u64.wrap (x-bits BinOp.and IntKind.u64 (x/2) 6148914691236517205)
 let b:=IntKind.u64.wrap (bits BinOp.and IntKind.u64 a 3689348814741910323+bits BinOp.and IntKind.u64 (a/4) 3689348814741910323)
 let c:=bits BinOp.and IntKind.u64 (IntKind.u64.wrap (b+b/16)) 1085102592571150095
 wrap64 (IntKind.u64.wrap (c*72340172838076673)/72057594037927936)
theorem Jca:∀k:Fin 64,Je4 ((2 ^ k.val-1:Nat):Int)=((k.val:Nat):Int):=by decide +kernel
theorem Qtj (k:Nat) (hk:k<64) (w:World):Calls Tryz.prog 207 #[Qad (2 ^ k-1)] w fun e w'=>e=.returned (.int .i64 (k:Int))∧w=w':=by
 have HF:=LH (Jca ⟨k,hk⟩);dsimp only at HF;have hx:2 ^ k-1<18446744073709551616:=by have:=Qga hk;omega
 generalize 2 ^ k-1=x at *;go_enter Tryz.func207,Tryz.ntmps207;go_wp2_with fail
 go_ret
 refine ⟨?_,rfl⟩;show Ending.returned (.int .i64 (Je4 (x:Int)))=_;rw [HF.out]
theorem Jgs {x k:Nat} (hk:Qx2 x k) (hx:x<18446744073709551616):IntKind.u64.wrap (bits BinOp.and IntKind.u64 (x:Int) (IntKind.u64.wrap (-(x:Int)))-1)=((2 ^ k-1:Nat):Int):=by
 have p:=Qga hk.1;have p1:0<2 ^ k:=Nat.two_pow_pos k;have hx0:0<x:=by
  obtain ⟨m,hm⟩:=Qwz hk;rw [hm];exact Nat.mul_pos p1 (by omega)
 have e1:IntKind.u64.wrap (-(x:Int))=((18446744073709551616-x:Nat):Int):=by rw [IntKind.wrap_u64];omega
 rw [e1,u64_and_nat _ _ hx (by omega),Jgg hk hx];generalize 2 ^ k=y at p p1 ⊢;rw [IntKind.wrap_u64];omega
theorem Qy1 (x k:Nat) (hk:Qx2 x k) (hx:x<18446744073709551616) (w:World):Calls Tryz.prog 187 #[Qad x] w fun e w'=>e=.returned (.int .i64 (k:Int))∧w=w':=by
 have HV:=LH (Jgs hk hx);have hk64:=hk.1;go_enter Tryz.func187,Tryz.ntmps187;go_wp2_with fail;rw [HV.out];refine (Qtj k hk64 _).mono ?_;rintro e w1 ⟨rfl,rfl⟩;go_wp2_with fail
 go_ret
 exact ⟨rfl,rfl⟩
theorem Ji1 (n:Nat):upN (n:Int) 64=(((n+63)/64:Nat):Int):=by
 unfold upN
 split <;> omega
def Qz6 (n:Nat) (w:World):Ending→World→Prop:=fun e w'=>∃X:Qgo,e=.returned (Qk6 X)∧Qez w' X (List.replicate n false)∧Below w.heap.size w w'∧∀k∈X.list,w.heap.size≤k
theorem Jc8 (n:Nat) (h1:1≤n) (hn:n≤1000000) (w:World):Calls Tryz.prog 116 #[.int .i64 (n:Int)] w (Qz6 n w):=by
 have HUp:=LH (Ji1 n);have HBits:=LH (Jc2 n);have hm1:1≤(n+63)/64:=by omega
 have hm2:(n+63)/64≤1000000:=by omega
 generalize (n+63)/64=m at *;have HP:Hid (∀(X:Qgo) (w':World),Qez w' X (List.replicate n false)→Below w.heap.size w w'→(∀k∈X.list,w.heap.size≤k)→Qz6 n w (.returned (Qk6 X)) w'):=LH (fun X w' a b c=>⟨X,rfl,a,b,c⟩);generalize Qz6 n w=Post at *;have hmx:max (n:Int) 0=(n:Int):=by omega
 go_enter Tryz.func116,Tryz.ntmps116;go_wp2_with fail;refine (Qv7 _ _ _ (by omega) (by omega)).mono ?_;rintro e w1 ⟨rfl,rfl⟩;rw [HUp.out];go_wp2_with (at_make;refine Qc1 Qyy w.heap.size m rfl rfl rfl (by omega) (by decide) NR rfl rfl rfl rfl ?_;intro w1 hown hgrow;have HR:Hid (Qa6 w1 w.heap.size 40 ((List.replicate m 0).map Qad)):=LH (by rw [List.map_replicate];exact Qd6 hown);have HB:=LH (Qbq hgrow NR);clear hown hgrow)
 have hb:=Qaf w1 (Obj.cells #[Value.slice (some ⟨w.heap.size,0,none⟩) m m,Value.int IntKind.i64 (n:Int),Value.int IntKind.i64 0] 262);have hs:=HB.out.size;have hl:=HR.out.lt;refine HP.out ⟨w1.heap.size,w.heap.size,m⟩ _ ⟨List.replicate m 0,HBits.out,?_,HR.out.keep (hb.block _ hl),by dsimp only;omega,by simpa using hn⟩ (HB.out.trans (hb.mono hs)) ?_
 ·have e:Jh5 ⟨w1.heap.size,w.heap.size,m⟩ (List.replicate m 0).length (List.replicate n false)=#[Value.slice (some ⟨w.heap.size,0,none⟩) m m,Value.int IntKind.i64 (n:Int),Value.int IntKind.i64 0]:=by simp [Jh5,List.count_replicate]
  rw [e];exact heap_alloc_new _ _
 ·intro k hk;simp only [Qgo.list,List.mem_cons,List.not_mem_nil,or_false] at hk
  rcases hk with rfl | rfl
  ·exact hs
  ·exact Nat.le_refl _
structure Qfo (ws:List Nat) (l:List Bool) (n q y:Nat):Prop where
 lt:q<ws.length
 y64:y<18446744073709551616
 past:∀j,n≤j→j<64*q→l.getD j false=false
 bit:∀b,b<64→y.testBit b=(decide (n≤64*q+b) && l.getD (64*q+b) false)
theorem Qeu.at {ws:List Nat} {l:List Bool} (h:Qeu ws l) (q b:Nat) (hb:b<64):(ws.getD q 0).testBit b=l.getD (64*q+b) false:=by
 have:=h.bit (64*q+b);unfold Jgy at this
 rwa [show (64*q+b)/64=q by omega,show (64*q+b) % 64=b by omega] at this
theorem Qfo.start {ws:List Nat} {l:List Bool} (h:Qeu ws l) {n:Nat} (hn:n<l.length):Qfo ws l n (n/64) (ws.getD (n/64) 0/2 ^ (n % 64)*2 ^ (n % 64)):=by
 refine ⟨h.word hn,Nat.lt_of_le_of_lt (Nat.div_mul_le_self _ _) (h.getD_lt _),fun j h1 h2=>by omega,fun b hb=>?_⟩;rw [Jc4,h.at _ _ hb]
 congr 1
 rw [Bool.eq_iff_iff];simp only [decide_eq_true_eq]
 omega
theorem Qfo.step {ws:List Nat} {l:List Bool} (h:Qeu ws l) {n q:Nat} (hi:Qfo ws l n q 0) (hn:n<64*q+64) (hq:q+1<ws.length):Qfo ws l n (q+1) (ws.getD (q+1) 0):=by
 refine ⟨hq,h.getD_lt _,fun j h1 h2=>?_,fun b hb=>?_⟩
 ·by_cases c:j<64*q
  ·exact hi.past j h1 c
  ·have:=hi.bit (j-64*q) (by omega);rw [Nat.zero_testBit,show 64*q+(j-64*q)=j by omega,decide_eq_true h1] at this;simpa using this.symm
 ·rw [h.at _ _ hb,decide_eq_true (by omega)];simp
theorem Qfo.found {ws:List Nat} {l:List Bool} {n q y k:Nat} (hi:Qfo ws l n q y) (hk:Qx2 y k):Qes l n=some (64*q+k):=by
 have h1:=hi.bit k hk.1;rw [hk.2.1] at h1;have h2:=h1.symm;simp only [Bool.and_eq_true,decide_eq_true_eq] at h2
 refine Qyn h2.1 h2.2 fun j h3 h4=>?_
 by_cases c:j<64*q
 ·exact hi.past j h3 c
 ·have:=hi.bit (j-64*q) (by have:=hk.1;omega);rw [hk.2.2 _ (by omega),show 64*q+(j-64*q)=j by omega,decide_eq_true h3] at this;simpa using this.symm
theorem Qfo.over {ws:List Nat} {l:List Bool} (h:Qeu ws l) {n q:Nat} (hi:Qfo ws l n q 0) (hq:ws.length≤q+1):Qes l n=none:=by
 refine Qpp fun j hj=>?_
 by_cases c:j<64*q
 ·exact hi.past j hj c
 ·by_cases c2:j<64*q+64
  ·have:=hi.bit (j-64*q) (by omega);rw [Nat.zero_testBit,show 64*q+(j-64*q)=j by omega,decide_eq_true hj] at this;simpa using this.symm
  ·have:=h.len;rw [GD,List.getElem?_eq_none (by omega)];rfl
def Jaw:Option Nat→Value
 | some i=>.tuple #[.int .i64 (i:Int),.bool true]
 | none=>.tuple #[.int .i64 0,.bool false]
def Qn6 (v:Value) (w:World):Ending→World→Prop:=fun e w'=>e=.returned v∧w=w'
theorem Qsv {w:World} {X:Qgo} {l:List Bool} (h:Qez w X l) (a:Int) :
  Calls Tryz.prog 166 #[Qk6 X,.int .i64 a] w (Qn6 (Jaw (Qes l a.toNat)) w):=by
 obtain ⟨ws,h⟩:=h;have c0:=h.c0;have c1:=h.c1;have hsm:=h.small;have hlen:=h.bits.len;have hws:ws.length≤1000000:=by omega
 have HBits:=LH h.bits;have HRow:=LH h.row;obtain ⟨n,hn⟩:∃n,n=a.toNat:=⟨_,rfl⟩
 have hmx:(if a<0 then 0 else a)=(n:Int):=by split <;> omega
 have hmx2:max a 0=(n:Int):=by omega
 rw [← hn];have HP1:Hid (∀i,Qes l n=some i→Qn6 (Jaw (Qes l n)) w (.returned (.tuple #[.int .i64 (i:Int),.bool true])) w):=LH (fun i hi=>by rw [hi];exact ⟨rfl,rfl⟩);have HP0:Hid (Qes l n=none→Qn6 (Jaw (Qes l n)) w (.returned (.tuple #[.int .i64 0,.bool false])) w):=LH (fun hi=>by rw [hi];exact ⟨rfl,rfl⟩);have HL:=LH hlen;generalize Qn6 (Jaw (Qes l n)) w=Post at *;clear h hn hlen
 by_cases hlt:n<l.length
 ·have HI:=LH (Qfo.start HBits.out hlt);have hw:=HI.out.lt;have hlt':decide (l.length≤n)=false:=by simp;omega
  have d0:w.cell? ⟨X.b,n/64,none⟩=some (Qad (ws.getD (n/64) 0)):=HRow.out.cell (by simp [hw]);have hx:=HBits.out.getD_lt (n/64);have hn64:n<64*(n/64)+64:=by omega
  generalize ws.getD (n/64) 0=x at *;generalize hm':n % 64=m at *;generalize hq':n/64=q at *;have hm:m<64:=by omega
  have e1:(n:Int)/64=(q:Int):=by omega
  have e2:(n:Int) % 64=(m:Int):=by omega
  have HV:Hid (IntKind.u64.wrap ((x:Int)/2 ^ m*2 ^ m)=((x/2 ^ m*2 ^ m:Nat):Int)):=LH (by
   have h64:=HI.out.y64;rw [show (x:Int)/2 ^ m*2 ^ m=((x/2 ^ m*2 ^ m:Nat):Int) by push_cast;rfl];generalize x/2 ^ m*2 ^ m=y at h64 ⊢
   rw [IntKind.wrap_u64];omega)
  generalize x/2 ^ m*2 ^ m=y at *;clear hm' hq' hlt;go_enter Tryz.func166,Tryz.ntmps166;go_wp2_with fail;rw [HV.out]
  go_loop [6,7] (fun iv yv=>∃q y:Nat,iv=.int .i64 (q:Int)∧yv=Qad y∧n<64*q+64∧Hid (Qfo ws l n q y)) (fun iv _=>ws.length-(intOf iv).toNat)
  case atStart=>exact ⟨q,y,rfl,rfl,hn64,HI⟩
  case round =>
   clear HI HV hw d0 hx hn64 e1 e2;obtain ⟨q,y,rfl,rfl,hn64,HI⟩:=hrel;have hql:=HI.out.lt
   by_cases hy:y=0
   ·subst hy
    by_cases hq:q+1<ws.length
    ·have HI2:=LH (HI.out.step HBits.out hn64 hq);have hq':decide (ws.length≤q+1)=false:=by simp;omega
     have d0:w.cell? ⟨X.b,q+1,none⟩=some (Qad (ws.getD (q+1) 0)):=HRow.out.cell (by simp [hq]);generalize ws.getD (q+1) 0=z at *;go_wp2_with fail
     go_round
     case rel=>exact ⟨q+1,z,Qb2 (by omega),rfl,by omega,HI2⟩
     case measure=>simp [intOf];omega
    ·have hq':ws.length≤q+1:=by omega
     have HN:=LH (HI.out.over HBits.out hq');go_wp2_with fail;exact HP0.out HN.out
   ·have hy0:((y:Int) == 0)=false:=by simpa using hy
    have hy64:=HI.out.y64;obtain ⟨k,hk⟩:=Qyz hy hy64;have hk64:=hk.1;have HK:=LH hk;have HN:=LH (HI.out.found hk);clear hk;go_wp2_with fail;refine (Qy1 y k HK.out hy64 _).mono ?_;rintro e w1 ⟨rfl,rfl⟩;go_wp2_with fail;have:=HP1.out _ HN.out;rw [show ((64*q+k:Nat):Int)=(q:Int)*64+(k:Int) by push_cast;omega] at this;exact this
 ·have hle:l.length≤n:=by omega
  have HN:Hid (Qes l n=none):=LH (Qpp fun j hj=>by rw [GD,List.getElem?_eq_none (by omega)];rfl);go_enter Tryz.func166,Tryz.ntmps166;go_wp2_with fail;exact HP0.out HN.out
end Go.Proofs.YtpohaahihdhleaaGreat
namespace Go.Proofs
open Go.Shelf
def Tryz.lays107_ren:Go.Shelf.Ren:=⟨fun | 107=>206 | 108=>219 | n=>n,fun | 28=>47 | 3=>3 | 4=>4 | 0=>0 | n=>n,fun | n=>n⟩
theorem Tryz.lays107:Go.Proofs.Lays.n107 Tryz.prog Tryz.lays107_ren:={
 mixed:=by kernel_rfl
 f107:=Tryz.func206.trans (congrArg some (by kernel_rfl))
 f108:=Tryz.func219.trans (congrArg some (by kernel_rfl))
 t0:=Tryz.underlying0
 a0:=Tryz.isAgg0
 z0:=Tryz.sizeOf0
 v0:=Tryz.zeroValue0
 t3:=Tryz.underlying3
 a3:=Tryz.isAgg3
 z3:=Tryz.sizeOf3
 v3:=Tryz.zeroValue3
 t4:=Tryz.underlying4
 a4:=Tryz.isAgg4
 z4:=Tryz.sizeOf4
 v4:=Tryz.zeroValue4
 t28:=Tryz.underlying47
 a28:=Tryz.isAgg47
 z28:=Tryz.sizeOf47
 v28:=Tryz.zeroValue47 }
end Go.Proofs
open Go.RowKit
namespace Go.Proofs.YtpohaahihdhleaaGreat
section
open Go.Maps
theorem Qt4 (xs:List Nat) (a:Nat):(xs.map fun x:Nat=>(x:Int)).contains (a:Int)=xs.contains a:=by
 rw [Bool.eq_iff_iff,List.contains_iff_mem,List.contains_iff_mem,List.mem_map];constructor
 ·rintro ⟨x,hx,e⟩;have:x=a:=by omega
  rw [← this];exact hx
 ·intro h;exact ⟨a,h,rfl⟩
theorem Qlr {w:World} (a:Option Addr) (n c:Nat) (xs:List Nat) (hn:xs.length=n) (hc:Qaq w a (xs.map vi)) (h9:xs.length≤1000000000000) (x:Nat) :
  Calls Tryz.prog 206 #[.slice a n c,.int .i64 (x:Int)] w (Qn6 (.bool (xs.contains x)) w):=by
 subst hn
 cases xs with
 | nil =>
  refine (Any.slices_Contains_int_empty Tryz.lays107 a c (x:Int) w).mono ?_;rintro e w' ⟨rfl,rfl⟩;exact ⟨rfl,rfl⟩
 | cons y ys =>
  rcases hc with h | ⟨b,off,rfl,hc⟩
  ·cases h
  ·refine (Any.slices_Contains_int Tryz.lays107 b off (y :: ys).length c ((y :: ys).map fun x:Nat=>(x:Int)) (x:Int) w (by simp) (by omega) (fun j hj=>?_)).mono ?_
   ·refine hc j _ ?_;rw [List.length_map] at hj;simp only [List.getElem?_map,GE hj,Option.map_some,GD,Option.getD_some]
   ·rintro e w' ⟨rfl,rfl⟩;refine ⟨?_,rfl⟩;rw [List.take_of_length_le (by simp),Qt4]
theorem Qf6.lt {w:World} {f mb n:Nat} {V:Nat→Value} {S:FL} (h:Qf6 w f mb n V S) {k:Nat} (hk:k<32):((List.range 32).map V ++ [Value.map (some mb)]).toArray[k]?=some (V k):=by
 rw [List.getElem?_toArray,List.getElem?_append_left (by simpa using hk)];simp [hk]
theorem Qf6.g {w:World} {f mb n:Nat} {V:Nat→Value} {S:FL} (h:Qf6 w f mb n V S) {k:Nat} (hk:k<32):w.cell? ⟨f,k,none⟩=some (V k) :=
 (cell_of_row _ _ k _ _ _ h.head).trans (h.lt hk)
theorem Qf6.m {w:World} {f mb n:Nat} {V:Nat→Value} {S:FL} (h:Qf6 w f mb n V S):w.cell? ⟨f,32,none⟩=some (.map (some mb)) :=
 (cell_of_row _ _ 32 _ _ _ h.head).trans (by rw [List.getElem?_toArray,List.getElem?_append_right (by simp)];simp)
abbrev Jgo (f:Nat):Value:=.pointer (some ⟨f,0,none⟩)
theorem Qs1 (w:World):(zeroValue 47).run Tryz.prog w=.ok (.slice none 0 0) w:=Tryz.zeroValue47 w
def FL.hasTo (S:FL) (k a:Nat):Nat→Bool
 | 0=>(S.g k).contains a
 | i+1=>S.hasTo k a i || (S.c i k).contains a
theorem FL.hasTo_all (S:FL) (k a:Nat):S.hasTo k a 4=S.has k a:=rfl
theorem FL.hasTo_false {S : FL} {k a : Nat} : ∀ {i j : Nat}, S.hasTo k a i = true → i ≤ j → S.hasTo k a j = true
  | i, 0, h, hj => by obtain rfl : i = 0 := by omega
                      exact h
  | i, j + 1, h, hj => by
    by_cases e : i = j + 1
    · subst e; exact h
    · unfold FL.hasTo
      rw [FL.hasTo_false h (by omega)]; rfl
theorem Qmz (k:Nat) (h:k<1000):(Lit.int .i64 (k:Int)).wf=true:=by
 exact WalkArith.wf_i64 (by omega)
theorem Jdv {w:World} {f mb n:Nat} {R:List Nat} {S:FL} (h:Qd5 w f mb n R S) (hL:∀i,i<160→(S.at i).length≤1000000) (k a:Nat) (hk:k<32) :
  Calls Tryz.prog 186 #[Jgo f,.int .i64 (k:Int),.int .i64 (a:Int)] w (Qn6 (.bool (S.has k a)) w):=by
 obtain ⟨V,hi,_⟩:=h;obtain ⟨M,hm,hv⟩:=hi.map;have HI:=LH hi;have HM:=LH hm;have HV:=LH hv;have HL:=LH hL;have c32:=hi.m;have ck:=hi.g hk;obtain ⟨ag,cg,eg,hcg,_,_⟩:=(hi.rows k (by omega)).cells;rw [S.at_g hk] at eg hcg;rw [eg] at ck;have HCg:=LH hcg;have HLg:Hid ((S.g k).length≤1000000):=LH (by have:=hL k (by omega);rwa [S.at_g hk] at this);have HP:Hid (∀b,b=S.has k a→Qn6 (.bool (S.has k a)) w (.returned (.bool b)) w):=LH (by rintro b rfl;exact ⟨rfl,rfl⟩);generalize Qn6 (.bool (S.has k a)) w=Post at *;have hlen:(S.g k).length=(S.g k).length:=rfl;obtain ⟨lg,hlg⟩:∃lg,lg=(S.g k).length:=⟨_,rfl⟩
 rw [← hlg] at ck;have HLe:=LH hlg;clear hi hm hv hL eg hcg hlen hlg;go_enter Tryz.func186,Tryz.ntmps186;go_wp2_with fail;refine (Qc2 _ _).mono ?_;rintro e w1 ⟨rfl,rfl⟩;rw [decide_eq_true (show (0:Int)≤(k:Int)∧(k:Int)<32 by omega)];go_wp2_with fail;refine (Qlr ag lg cg (S.g k) HLe.out.symm HCg.out (by have:=HLg.out;omega) a).mono ?_;rintro e w1 ⟨rfl,rfl⟩
 cases hg0:(S.g k).contains a with
 | true =>
  have HB:Hid (true=S.has k a):=LH (by rw [← FL.hasTo_all];exact (FL.hasTo_false (i:=0) hg0 (by omega)).symm);clear hg0;go_wp2_with fail;exact HP.out _ HB.out
 | false =>
  have H0:Hid (S.hasTo k a 0=false):=LH hg0;clear hg0;go_wp2_with fail
  go_loop [19] (fun iv=>∃i:Nat,i≤4∧iv=.int .i64 (i:Int)∧Hid (S.hasTo k a i=false)) (fun iv=>4-(intOf iv).toNat)
  case atStart=>exact ⟨0,by omega,rfl,H0⟩
  case round =>
   clear H0;obtain ⟨i,hi4,rfl,HT⟩:=hrel
   by_cases hlt:i<4
   ·obtain ⟨ac,cc,ec,hcc,_,_⟩:=(HI.out.rows (Qix i k) (by unfold Qix;omega)).cells;rw [S.at_c i hk] at ec hcc;have hlc:=HL.out (Qix i k) (by unfold Qix;omega);rw [S.at_c i hk] at hlc;have HVi:=HV.out i k hlt hk;have HCc:=LH hcc;have HLc:=LH hlc;have HStep:Hid (S.hasTo k a (i+1)=(S.hasTo k a i || (S.c i k).contains a)):=LH rfl;rw [ec] at HVi;have HVi:=LH HVi;obtain ⟨lc,hlcx⟩:∃lc,lc=(S.c i k).length:=⟨_,rfl⟩
    rw [← hlcx] at HVi;have HLx:=LH hlcx;clear ec hcc hlc hlcx;have hkey:=Qww (i:Int) (k:Int) (Qmz i (by omega)) (Qmz k (by omega));go_wp2_with (refine Qmd rfl _ _ 233 rfl 237 47 Qpr Tryz.underlying233 _ (Qs1 _) mb n M rfl HM.out _ _ rfl hkey ?_;rw [HVi.out])
    refine (Qlr ac lc cc (S.c i k) HLx.out.symm HCc.out (by have:=HLc.out;omega) a).mono ?_;rintro e w1 ⟨rfl,rfl⟩
    cases hc0:(S.c i k).contains a with
    | true =>
     have HB:Hid (true=S.has k a):=LH (by rw [← FL.hasTo_all];exact (FL.hasTo_false (i:=i+1) (by rw [HStep.out,hc0];simp) (by omega)).symm);clear hc0;go_wp2_with fail;exact HP.out _ HB.out
    | false =>
     have HT2:Hid (S.hasTo k a (i+1)=false):=LH (by rw [HStep.out,hc0,HT.out];rfl);clear hc0;go_wp2_with fail
     go_round
     case rel=>exact ⟨i+1,by omega,Qb2 (by omega),HT2⟩
     case measure=>simp [intOf];omega
   ·obtain rfl:i=4:=by omega
    have HB:Hid (false=S.has k a):=LH (by rw [← FL.hasTo_all];exact HT.out.symm);go_wp2_with fail;exact HP.out _ HB.out
end
section
def Qci:List Nat:=[2,3,4,5,6,7,8,10,12,14,16,18,20,24,28,32,36,40,46,51,56,64,73,85,92,102,113,128,146,170,204,256]
def Qar (k:Int):Nat:=if 0≤k∧k<32 then Qci.getD k.toNat 0 else 0
def Jgk:Array Value:=(List.replicate 32 (Value.int .i64 0)).toArray
theorem Jgz:Agg Tryz.prog 291 Jgk:=⟨⟨_,Tryz.underlying291,rfl⟩,by kernel_rfl⟩
def Qi9:Array Value:=(Qci.map (fun n:Nat=>Value.int .i64 (n:Int))).toArray
theorem Qy0:Qi9.all (·.oneCell')=true:=by simp [Qi9,Qci,Value.oneCell']
theorem Jce (w:World):Calls Tryz.prog 205 #[] w fun e w'=>e=.returned (.agg Qi9)∧Below w.heap.size w w':=by
 go_enter Tryz.func205,Tryz.ntmps205;go_wp2_with (first
  | (refine Qmg Jgz rfl rfl ?_;intro w1 hg1 hgr1 hs1)
  | (refine Qa1 (cs:=Qi9) Jgz hg1 rfl rfl Qy0 rfl rfl rfl rfl ?_;intro w2 hg2 hgr2 hs2))
 refine bodyPost_ret (v:=.agg Qi9) ?_ rfl ⟨rfl,?_⟩
 ·exact results_cell_row rfl _ _ _ _ _ _ _ rfl hg2 Tryz.underlying291 rfl (by kernel_rfl)
 ·exact (Qbq hgr1 NR).grown hgr2 (by omega) (fun k e=>by cases e;omega)
theorem Qg1 (k:Int) (w:World):Calls Tryz.prog 185 #[.int .i64 k] w fun e w'=>e=.returned (.int .i64 (Qar k:Nat))∧Below w.heap.size w w':=by
 by_cases h:0≤k∧k<32
 ·have HW:Hid (Qar k=Qci.getD k.toNat 0):=LH (by unfold Qar;rw [if_pos h]);have H:=LH h;obtain ⟨h1,h2⟩:=h;go_enter Tryz.func185,Tryz.ntmps185;go_wp2_with fail;refine (Qc2 _ _).mono ?_;rintro e w1 ⟨rfl,rfl⟩;rw [decide_eq_true H.out];go_wp2_with fail;refine (Jce _).mono ?_;rintro e w1 ⟨rfl,hb⟩;have hv:Qi9[k.toNat]?=some (Value.int .i64 (Qci.getD k.toNat 0:Nat)):=by
   obtain ⟨j,rfl⟩:=Int.eq_ofNat_of_zero_le h1;have hj:j<Qci.length:=by show j<32;omega
   simp only [Int.toNat_natCast,Qi9,List.getElem?_toArray,List.getElem?_map,GE hj,Option.map_some,GD,Option.getD_some]
  have HV:=LH hv;clear hv;go_wp2_with (refine Qb3 k.toNat Tryz.underlying291 Tryz.underlying3 rfl (by kernel_rfl) (by omega) (by omega) HV.out rfl rfl rfl rfl ?_)
  go_ret
  exact ⟨Qau (by rw [HW.out,GD]),hb⟩
 ·have HW:Hid (Qar k=0):=LH (by unfold Qar;rw [if_neg h]);have H:=LH h;clear h;go_enter Tryz.func185,Tryz.ntmps185;go_wp2_with fail;refine (Qc2 _ _).mono ?_;rintro e w1 ⟨rfl,rfl⟩;rw [decide_eq_false H.out];go_wp2_with fail
  go_ret
  exact ⟨Qau (by rw [HW.out];rfl),Below.refl _ _⟩
def ofN (n:Int):Nat:=Qci.findIdx (fun s:Nat=>decide (n≤(s:Int)))
theorem Je7 (n:Int) (k:Nat) (hk:k<32) (h1:n≤(Qci.getD k 0:Nat)) (h2:∀j,j<k→((Qci.getD j 0:Nat):Int)<n):ofN n=k:=by
 have hl:k<Qci.length:=hk;unfold ofN;rw [List.findIdx_eq hl];have g:∀j (hj:j<Qci.length),Qci.getD j 0=Qci[j]:=fun j hj=>by simp [hj]
 refine ⟨by rw [← g k hl];simpa using h1,fun j hj=>?_⟩;rw [← g j (by omega)];have:=h2 j hj;simp only [decide_eq_false_iff_not]
 omega
theorem Qiv:∀i j:Nat,i≤j→j<32→Qci.getD i 0≤Qci.getD j 0:=by
 have h:∀j:Fin 32,∀i:Fin 32,i≤j→Qci.getD i.val 0≤Qci.getD j.val 0:=by decide
 intro i j hij hj;exact h ⟨j,hj⟩ ⟨i,by omega⟩ hij
theorem Ql1 (k:Nat) (h:k<32):Qar (k:Int)=Qci.getD k 0:=by
 unfold Qar;rw [if_pos (by omega)];rfl
theorem Qhj (k:Int):Qar k≤256:=by
 unfold Qar
 split
 ·have h:=Qiv k.toNat 31 (by omega) (by omega);have e:Qci.getD 31 0=256:=rfl;rw [e] at h;exact h
 ·omega
theorem Qbr (k:Int) (h:0≤k∧k<32):2≤Qar k:=by
 unfold Qar;rw [if_pos h];have h:=Qiv 0 k.toNat (by omega) (by omega);have e:Qci.getD 0 0=2:=rfl;rw [e] at h;exact h
theorem Qr6 (w:World):Calls Tryz.prog 218 #[] w fun e w'=>e=.returned (.int .i64 256)∧Below w.heap.size w w':=by
 go_enter Tryz.func218,Tryz.ntmps218;go_wp2_with fail;refine (Qg1 _ _).mono ?_;rintro e w1 ⟨rfl,hb⟩;have e:((Qar 31:Nat):Int)=256:=by decide
 rw [e];go_wp2_with fail
 go_ret
 exact ⟨rfl,hb⟩
def ofV (n:Int):Value:=if 1≤n∧n≤256 then .tuple #[.int .i64 (ofN n:Nat),.bool true] else .tuple #[.int .i64 0,.bool false]
theorem Jgj (n:Int) (w:World):Calls Tryz.prog 203 #[.int .i64 n] w fun e w'=>e=.returned (ofV n)∧Below w.heap.size w w':=by
 by_cases h1:n<1
 ·have HV:Hid (ofV n=.tuple #[.int .i64 0,.bool false]):=LH (by unfold ofV;rw [if_neg (by omega)]);go_enter Tryz.func203,Tryz.ntmps203;go_wp2_with fail
  go_ret2
  exact ⟨by rw [HV.out];rfl,Below.refl _ _⟩
 by_cases h2:256<n
 ·have HV:Hid (ofV n=.tuple #[.int .i64 0,.bool false]):=LH (by unfold ofV;rw [if_neg (by omega)]);go_enter Tryz.func203,Tryz.ntmps203;go_wp2_with fail;refine (Qr6 _).mono ?_;rintro e w1 ⟨rfl,hb⟩;go_wp2_with fail
  go_ret2
  exact ⟨by rw [HV.out];rfl,hb⟩
 have HV:Hid (ofV n=.tuple #[.int .i64 (ofN n:Nat),.bool true]):=LH (by unfold ofV;rw [if_pos (by omega)]);go_enter Tryz.func203,Tryz.ntmps203;go_wp2_with fail;refine (Qr6 _).mono ?_;rintro e w1 ⟨rfl,hb⟩;go_wp2_with fail
 go_loopw [4,5] (fun lo hi wr=>∃i j:Nat,i≤j∧j≤31∧lo=.int .i64 i∧hi=.int .i64 j∧Hid (∀t,t<i→((Qci.getD t 0:Nat):Int)<n)∧Hid (n≤(Qci.getD j 0:Nat))∧Below w.heap.size w wr)
  (fun lo hi _=>(intOf hi).toNat-(intOf lo).toNat)
 case atStart=>exact ⟨0,31,by omega,by omega,rfl,rfl,LH (fun t ht=>by omega),LH (by show n≤256;omega),hb⟩
 case round =>
  obtain ⟨i,j,hij,hj,rfl,rfl,hlo,hhi,hb⟩:=hrel
  by_cases hlt:i<j
  ·have hm:(i+j)/2<32:=by omega
   have HC:=LH (Ql1 ((i+j)/2) hm);go_wp2_with fail;refine (Qg1 _ _).mono ?_;rintro e w2 ⟨rfl,hb2⟩;have hb3:=hb.trans (hb2.mono hb.size);rw [show ((i:Int)+(j:Int))/2=(((i+j)/2:Nat):Int) by omega] at *;rw [HC.out];obtain ⟨x,hx⟩:∃x,x=Qci.getD ((i+j)/2) 0:=⟨_,rfl⟩
   rw [← hx];have HX:=LH hx;clear hx
   by_cases hc:n≤(x:Int)
   ·go_wp2_with fail;refine ⟨⟨i,(i+j)/2,by omega,by omega,rfl,rfl,hlo,LH (by rw [← HX.out];exact hc),hb3⟩,by simp [intOf];omega⟩
   ·go_wp2_with fail;refine ⟨⟨(i+j)/2+1,j,by omega,by omega,Qb2 (by omega),rfl,LH (fun t ht=>?_),hhi,hb3⟩,by simp [intOf];omega⟩;have h1:=Qiv t ((i+j)/2) (by omega) hm;rw [← HX.out] at h1;omega
  ·obtain rfl:i=j:=by omega
   have HO:=LH (Je7 n i (by omega) hhi.out hlo.out);go_wp2_with fail
   go_ret2
   exact ⟨by rw [HV.out,HO.out];rfl,hb⟩
def Qap (p d:Int):Nat:=if p<0∨63<p∨d<0∨16384<d then 0 else (1+p+d).toNat
theorem Qll (p d:Int):Qap p d≤16448:=by unfold Qap;split <;> omega
def Qj4 (p d:Int):Value:=if Qap p d=0 then .tuple #[.int .i64 0,.int .i64 5] else .tuple #[.int .i64 (Qap p d:Nat),.int .i64 0]
theorem Jab (p d:Int) (w:World):Calls Tryz.prog 217 #[.int .i64 p,.int .i64 d] w fun e w'=>e=.returned (Qj4 p d)∧w=w':=by
 by_cases h:p<0∨63<p∨d<0∨16384<d
 ·have HS:Hid (Qj4 p d=.tuple #[.int .i64 0,.int .i64 5]):=LH (by unfold Qj4;rw [if_pos (by unfold Qap;rw [if_pos h])]);rcases h with h | h | h | h
  ·go_enter Tryz.func217,Tryz.ntmps217;go_wp2_with fail
   go_ret2
   exact ⟨by rw [HS.out];rfl,rfl⟩
  ·have h':¬p<0:=by omega
   go_enter Tryz.func217,Tryz.ntmps217;go_wp2_with fail
   go_ret2
   exact ⟨by rw [HS.out];rfl,rfl⟩
  ·by_cases h1:p<0
   ·go_enter Tryz.func217,Tryz.ntmps217;go_wp2_with fail
    go_ret2
    exact ⟨by rw [HS.out];rfl,rfl⟩
   by_cases h2:63<p
   ·go_enter Tryz.func217,Tryz.ntmps217;go_wp2_with fail
    go_ret2
    exact ⟨by rw [HS.out];rfl,rfl⟩
   go_enter Tryz.func217,Tryz.ntmps217;go_wp2_with fail
   go_ret2
   exact ⟨by rw [HS.out];rfl,rfl⟩
  ·have h3:¬d<0:=by omega
   by_cases h1:p<0
   ·go_enter Tryz.func217,Tryz.ntmps217;go_wp2_with fail
    go_ret2
    exact ⟨by rw [HS.out];rfl,rfl⟩
   by_cases h2:63<p
   ·go_enter Tryz.func217,Tryz.ntmps217;go_wp2_with fail
    go_ret2
    exact ⟨by rw [HS.out];rfl,rfl⟩
   go_enter Tryz.func217,Tryz.ntmps217;go_wp2_with fail
   go_ret2
   exact ⟨by rw [HS.out];rfl,rfl⟩
 ·have HS:Hid (Qj4 p d=.tuple #[.int .i64 (1+p+d),.int .i64 0]):=by
   have h1:((Qap p d:Nat):Int)=1+p+d:=by unfold Qap;rw [if_neg h];omega
   apply LH
   unfold Qj4;rw [if_neg (by omega),h1]
  have h1:¬p<0:=by omega
  have h2:¬63<p:=by omega
  have h3:¬d<0:=by omega
  have h4:¬16384<d:=by omega
  clear h;go_enter Tryz.func217,Tryz.ntmps217;go_wp2_with fail
  go_ret2
  exact ⟨by rw [HS.out];rfl,rfl⟩
theorem Qkn (p d:Int) (w:World):Calls Tryz.prog 202 #[.agg #[.int .i64 p,.int .i64 d]] w fun e w'=>e=.returned (.int .i64 (Qap p d:Nat))∧Below w.heap.size w w':=by
 have hb:∀o,Below w.heap.size w (w.alloc o):=fun o=>(Below.refl _ _).alloc NR o
 have HB:=LH hb;clear hb;go_enter Tryz.func202,Tryz.ntmps202;go_wp2_with fail;refine (Jab _ _ _).mono ?_;rintro e w1 ⟨rfl,rfl⟩
 by_cases h:Qap p d=0
 ·have HV:Hid (Qj4 p d=.tuple #[.int .i64 0,.int .i64 5]):=LH (by unfold Qj4;rw [if_pos h]);rw [HV.out];have H:=LH h;clear h;go_wp2_with fail
  go_ret
  exact ⟨Qau (by rw [H.out];rfl),HB.out _⟩
 ·have HV:Hid (Qj4 p d=.tuple #[.int .i64 (Qap p d:Nat),.int .i64 0]):=LH (by unfold Qj4;rw [if_neg h]);rw [HV.out];clear h;go_wp2_with fail
  go_ret
  exact ⟨rfl,HB.out _⟩
theorem Qqc (p d:Int) (w:World):Calls Tryz.prog 181 #[.agg #[.int .i64 p,.int .i64 d]] w fun e w'=>e=.returned (ofV (Qap p d:Nat))∧Below w.heap.size w w':=by
 have hb:∀o,Below w.heap.size w (w.alloc o):=fun o=>(Below.refl _ _).alloc NR o
 have HB:=LH hb;clear hb;go_enter Tryz.func181,Tryz.ntmps181;go_wp2_with fail;refine (Qkn _ _ _).mono ?_;rintro e w1 ⟨rfl,hb1⟩;have hb1':=(HB.out _).trans (hb1.mono (HB.out _).size);go_wp2_with fail;refine (Jgj _ _).mono ?_;rintro e w2 ⟨rfl,hb2⟩;have hb2':=hb1'.trans (hb2.mono hb1'.size)
 by_cases h:1≤((Qap p d:Nat):Int)∧((Qap p d:Nat):Int)≤256
 ·have HV:Hid (ofV (Qap p d:Nat)=.tuple #[.int .i64 (ofN (Qap p d:Nat):Nat),.bool true]):=LH (by unfold ofV;rw [if_pos h]);rw [HV.out];clear h hb1 hb2 hb1';go_wp2_with fail
  go_ret2
  exact ⟨by rw [HV.out];rfl,hb2'⟩
 ·have HV:Hid (ofV (Qap p d:Nat)=.tuple #[.int .i64 0,.bool false]):=LH (by unfold ofV;rw [if_neg h]);rw [HV.out];clear h hb1 hb2 hb1';go_wp2_with fail
  go_ret2
  exact ⟨by rw [HV.out];rfl,hb2'⟩
def small (n:Nat):Prop:=1≤n∧n≤256
instance (n:Nat):Decidable (small n):=by unfold small;infer_instance
theorem Qsa (n:Nat) (h:small n):ofV (n:Int)=.tuple #[.int .i64 (ofN (n:Int):Nat),.bool true]:=by
 unfold ofV;rw [if_pos (by unfold small at h;omega)]
theorem Qtg (n:Nat) (h:¬small n):ofV (n:Int)=.tuple #[.int .i64 0,.bool false]:=by
 unfold ofV;rw [if_neg (by unfold small at h;omega)]
def Qbm (n:Nat):Nat:=if small n then 0 else (n+511)/512
theorem Qvi (p d:Int) (w:World):Calls Tryz.prog 184 #[.agg #[.int .i64 p,.int .i64 d]] w fun e w'=>e=.returned (.int .i64 (Qbm (Qap p d):Nat))∧Below w.heap.size w w':=by
 have hb:∀o,Below w.heap.size w (w.alloc o):=fun o=>(Below.refl _ _).alloc NR o
 have HB:=LH hb;clear hb;have hle:=Qll p d;go_enter Tryz.func184,Tryz.ntmps184;go_wp2_with fail;refine (Qqc _ _ _).mono ?_;rintro e w1 ⟨rfl,hb1⟩;have hb1':=(HB.out _).trans (hb1.mono (HB.out _).size);have hc0:w1.cell? ⟨w.heap.size,0,none⟩=some (.int .i64 p):=by rw [hb1.cell (p:=⟨w.heap.size,0,none⟩) (by simp)];exact Qat _ _ _ _ _ rfl
 have hc1:w1.cell? ⟨w.heap.size,1,none⟩=some (.int .i64 d):=by rw [hb1.cell (p:=⟨w.heap.size,1,none⟩) (by simp)];exact Qat _ _ _ _ _ rfl
 by_cases h:small (Qap p d)
 ·rw [Qsa _ h];have HO:Hid (Qbm (Qap p d)=0):=LH (by unfold Qbm;rw [if_pos h]);clear h hb1;go_wp2_with fail
  go_ret
  exact ⟨Qau (by rw [HO.out];rfl),hb1'⟩
 ·rw [Qtg _ h];have HO:Hid (((Qbm (Qap p d):Nat):Int)=upN (Qap p d:Nat) 512):=LH (by unfold Qbm upN;rw [if_neg h];split <;> omega);clear h hb1;go_wp2_with fail;refine (Qkn _ _ _).mono ?_;rintro e w2 ⟨rfl,hb2⟩;have hb2':=hb1'.trans (hb2.mono hb1'.size);go_wp2_with fail;refine (Qv7 _ _ _ (by omega) (by omega)).mono ?_;rintro e w3 ⟨rfl,rfl⟩;rw [← HO.out];go_wp2_with fail
  go_ret
  exact ⟨rfl,hb2'⟩
def Qbd (k:Int):Nat:=512/Qar k
theorem Qo9 (k:Int) (w:World):Calls Tryz.prog 162 #[.int .i64 k] w fun e w'=>e=.returned (.int .i64 (Qbd k:Nat))∧Below w.heap.size w w':=by
 by_cases h:0≤k∧k<32
 ·have hp:=Qbr k h;have HC:Hid (((Qbd k:Nat):Int)=512/((Qar k:Nat):Int)):=LH (by simp [Qbd]);have H:=LH h;clear h;go_enter Tryz.func162,Tryz.ntmps162;go_wp2_with fail;refine (Qc2 _ _).mono ?_;rintro e w1 ⟨rfl,rfl⟩;rw [decide_eq_true H.out];go_wp2_with fail;refine (Qg1 _ _).mono ?_;rintro e w1 ⟨rfl,hb⟩;have hle:=Qhj k;generalize Qar k=x at *;have hx0:((x:Int) == 0)=false:=by rw [beq_eq_false_iff_ne];omega
  go_wp2_with fail
  go_ret
  exact ⟨Qau (by rw [HC.out]),hb⟩
 ·have HC:Hid (Qbd k=0):=LH (by unfold Qbd Qar;rw [if_neg h]);have H:=LH h;clear h;go_enter Tryz.func162,Tryz.ntmps162;go_wp2_with fail;refine (Qc2 _ _).mono ?_;rintro e w1 ⟨rfl,rfl⟩;rw [decide_eq_false H.out];go_wp2_with fail
  go_ret
  exact ⟨Qau (by rw [HC.out];rfl),Below.refl _ _⟩
theorem Qgc:Qgg Tryz.prog 47 3 (.int .i64 0) 1 8:=Qgg.mk' Tryz.underlying47 (by kernel_rfl) rfl (by decide)
theorem Qpt (w:World):Calls Tryz.prog 134 #[] w fun e w'=>e=.returned (.slice (some ⟨w.heap.size,0,none⟩) 32 32)∧w'.heap[w.heap.size]?=some (.cells Qi9 3 (0,0))∧Below w.heap.size w w':=by
 go_enter Tryz.func134,Tryz.ntmps134;go_wp2_with fail
 go_ret
 exact ⟨rfl,heap_alloc_new w _,Qaf w _⟩
theorem Qt2 (k:Nat) (h:k<32):Qi9[k]?=some (Value.int .i64 (Qci.getD k 0:Nat)):=by
 have hj:k<Qci.length:=h;simp only [Qi9,List.getElem?_toArray,List.getElem?_map,GE hj,Option.map_some,GD,Option.getD_some]
theorem Qje (k:Int) (w:World):Calls Tryz.prog 81 #[.int .i64 k] w fun e w'=>e=.returned (.int .i64 (Qar k:Nat))∧Below w.heap.size w w':=by
 by_cases h1:k<0
 ·have HW:Hid (Qar k=0):=LH (by unfold Qar;rw [if_neg (by omega)]);go_enter Tryz.func81,Tryz.ntmps81;go_wp2_with fail
  go_ret
  exact ⟨Qau (by rw [HW.out];rfl),Below.refl _ _⟩
 by_cases h2:32≤k
 ·have HW:Hid (Qar k=0):=LH (by unfold Qar;rw [if_neg (by omega)]);go_enter Tryz.func81,Tryz.ntmps81;go_wp2_with fail
  go_ret
  exact ⟨Qau (by rw [HW.out];rfl),Below.refl _ _⟩
 obtain ⟨j,rfl⟩:=Int.eq_ofNat_of_zero_le (show 0≤k by omega);have HW:=LH (Ql1 j (by omega));have HV:=LH (Qt2 j (by omega));generalize Qci.getD j 0=x at *;go_enter Tryz.func81,Tryz.ntmps81;go_wp2_with fail;refine (Qpt _).mono ?_;rintro e w1 ⟨rfl,hg,hb⟩;have hc:w1.cell? ⟨w.heap.size,j,none⟩=some (.int .i64 (x:Nat)):=(cell_of_row _ _ _ _ _ _ hg).trans HV.out;clear hg;go_wp2_with fail
 go_ret
 exact ⟨Qau (by rw [HW.out]),hb⟩
def Qu3 (n:Int):Int:=if 1≤n∧n≤256 then (ofN n:Nat) else -1
theorem Jfx (n:Int) (w:World):Calls Tryz.prog 174 #[.int .i64 n] w fun e w'=>e=.returned (.int .i64 (Qu3 n))∧Below w.heap.size w w':=by
 by_cases h0:0<n
 ·go_enter Tryz.func174,Tryz.ntmps174;go_wp2_with fail
  go_loopw [3] (fun i wr=>∃k:Nat,k≤32∧i=.int .i64 k∧Hid (∀t,t<k→((Qci.getD t 0:Nat):Int)<n)∧Below w.heap.size w wr) (fun i _=>32-(intOf i).toNat)
  case atStart=>exact ⟨0,by omega,rfl,LH (fun t ht=>by omega),Below.refl _ _⟩
  case round =>
   obtain ⟨k,hk,rfl,hlo,hb⟩:=hrel
   by_cases hlt:k<32
   ·have HV:=LH (Qt2 k hlt);have HO:=LH (Je7 n k hlt);have HM:=LH (Qiv k 31 (by omega) (by omega));obtain ⟨x,hx⟩:∃x,x=Qci.getD k 0:=⟨_,rfl⟩
    rw [← hx] at HV HO HM;have HX:=LH hx;clear hx;go_wp2_with fail;refine (Qpt _).mono ?_;rintro e w1 ⟨rfl,hg,hb1⟩;have hc:w1.cell? ⟨wr.heap.size,k,none⟩=some (.int .i64 (x:Nat)):=(cell_of_row _ _ _ _ _ _ hg).trans HV.out;have hb2:=hb.trans (hb1.mono hb.size);clear hg hb1
    by_cases hle:n≤(x:Int)
    ·have HR:Hid (Qu3 n=(k:Int)):=by
      have e:Qci.getD 31 0=256:=rfl;have h31:=HM.out;rw [e] at h31
      apply LH
      unfold Qu3;rw [if_pos (by omega),HO.out hle hlo.out]
     go_wp2_with fail
     go_ret
     exact ⟨Qau HR.out.symm,hb2⟩
    ·go_wp2_with fail;refine ⟨⟨k+1,by omega,Qb2 (by omega),LH (fun t ht=>?_),hb2⟩,by simp [intOf];omega⟩
     by_cases e:t=k
     ·subst e;rw [← HX.out];omega
     ·exact hlo.out t (by omega)
   ·have HR:Hid (Qu3 n = -1):=by
     have:=hlo.out 31 (by omega);have e:Qci.getD 31 0=256:=rfl;rw [e] at this
     apply LH
     unfold Qu3;rw [if_neg (by omega)]
    go_wp2_with fail
    go_ret
    exact ⟨Qau HR.out.symm,hb⟩
 ·have HR:Hid (Qu3 n = -1):=LH (by unfold Qu3;rw [if_neg (by omega)]);have h0':decide (0<n)=false:=by simp;omega
  go_enter Tryz.func174,Tryz.ntmps174;go_wp2_with fail;refine wp_loop_rounds 1 ?_;rw [rounds_succ];go_wp2_with fail
  go_ret
  exact ⟨Qau HR.out.symm,Below.refl _ _⟩
end
section
open Go.Maps
theorem Qfb (w:World) (o:Obj) (row:Option Nat):w.grownBy (w.drew.alloc o) row:=⟨rfl,rfl,rfl,by simp,fun k hk _=>(Qaf w.drew o).block k hk⟩
theorem Qk0 (w:World) (row:Option Nat):w.grownBy w row:=⟨rfl,rfl,rfl,Nat.le_refl _,fun _ _ _=>rfl⟩
theorem Jbi (xs:List Nat):∀u∈xs.map vi,u.oneCell'=true:=by
 intro u hu;obtain ⟨x,_,rfl⟩:=List.mem_map.1 hu
 rfl
theorem Qnx (g n c:Nat):∀b,Qbc (.slice (some ⟨g,0,none⟩) n c)=some b→b=g:=by
 intro b hb;have hb2:(if c=0 then none else some g)=some b:=hb
 by_cases h:c=0
 ·rw [if_pos h] at hb2;cases hb2
 ·rw [if_neg h] at hb2;cases hb2;rfl
theorem Qn3 {w:World} {v:Value} {xs ys:List Nat} {a:Option Addr} {m c:Nat} (ty:TypeId) (h:Qcs w v xs) (hy:Qaq w a (ys.map vi)) (hm:ys.length=m) (hn:xs.length+m≤1000000000000) :
  ∃v' w',(Builtin.append_ #[47,47] ty #[v,.slice a m c]).run Tryz.prog w=.ok v' w'∧Qcs w' v' (xs ++ ys)∧w.grownBy w' (Qbc v)∧∀b,Qbc v'=some b→Qbc v=some b∨b=w.heap.size:=by
 obtain ⟨i,i1,i2,i3,i4⟩:=Qgc.info;have hby:(xs.length+m)*i.bytes≤140737488355328:=by rw [i4];omega
 have h63:xs.length+m≤maxLen:=by unfold maxLen;omega
 by_cases hm0:m=0
 ·have hys:ys=[]:=List.length_eq_zero_iff.1 (by omega);subst hm0 hys;refine ⟨v,w,?_,by simpa using h,Qk0 _ _,fun b hb=>.inl hb⟩;rcases h with h | ⟨p,rfl,rfl⟩
  ·cases a with
   | none=>exact Qet Qgc.under i1 h
   | some d =>
    rcases h.2 with ⟨rfl,h0⟩|⟨g,cap,cur,rfl,hb,hg,h1,h2,h3,h4⟩
    ·simp [Builtin.append_,run_underlying Qgc.under,sizeOf,typeInfo,i1,Builtin.lenOf,Builtin.firstCells,loadCells,loadCellsFrom]
    ·simp [Builtin.append_,run_underlying Qgc.under,sizeOf,typeInfo,i1,Builtin.lenOf,Builtin.firstCells,loadCells,loadCellsFrom,storeCells,h1]
  ·cases a with
   | none=>simp [Builtin.append_,run_underlying Qgc.under,sizeOf,typeInfo,i1,Builtin.lenOf,Builtin.firstCells,storeCells]
   | some d=>simp [Builtin.append_,run_underlying Qgc.under,sizeOf,typeInfo,i1,Builtin.lenOf,Builtin.firstCells,loadCells,loadCellsFrom,storeCells]
 ·rcases hy with h0 | ⟨b,off,rfl,hyc⟩
  ·exfalso
   have:=congrArg List.length h0;simp at this
   rw [this] at hm;simp at hm;omega
  have hyc':∀j u,(ys.map vi)[j]?=some u→w.cell? ((⟨b,off,none⟩:Addr).add j)=some u:=fun j u hj=>by
   rw [Qe0];exact hyc j u hj
  have hl:(ys.map vi).length=m*1:=by simp [hm]
  have hl':(ys.map vi).length=m*i.size:=by rw [i3];exact hl
  have nilcase:=run_append_own (P:=Tryz.prog) (w:=w) 0 47 ty 3 i _ 1 i.bytes Qgc.under i1 i2 i3 rfl Qgc.cells (by decide) (.slice none 0 0) 0 [] (World.ownsRow_nil w 0 3 1) ⟨b,off,none⟩ m c (ys.map vi) hl hyc' (Jbi ys) (by unfold maxLen at h63 ⊢;omega) (by rw [i4];omega) (Nat.zero_le _);have hnr:=run_append_nil (P:=Tryz.prog) w 47 ty 3 i _ Qgc.under i1 i2 ⟨b,off,none⟩ m c (ys.map vi) hl' hyc' (by omega) (by omega) (by rw [i4];omega);obtain ⟨v1,w1,r1,o1,g1,n1⟩:=nilcase;have hv1:v1=.slice (some ⟨w.heap.size,0,none⟩) m (grownCap w m 0 3)∧w1=w.drew.alloc (.cells ((ys.map vi).toArray ++ Builtin.zeroCells (Value.int .i64 0).cells (grownCap w m 0 3-m)) 3):=by
   rw [hnr] at r1;have e:=r1;injection e with e1 e2
   exact ⟨e1.symm,e2.symm⟩
  rcases h with h | ⟨p,rfl,rfl⟩
  ·rcases h.2 with ⟨rfl,h0⟩|⟨g,cap,cur,rfl,hb,hg,h1,h2,h3,h4⟩
   ·have hx:xs=[]:=List.length_eq_zero_iff.1 h0;subst hx;refine ⟨v1,w1,r1,.inl ?_,?_,fun b' hb'=>.inr ?_⟩
    ·simpa [hm] using o1
    ·rw [hv1.2];exact Qfb _ _ _
    ·rw [hv1.1] at hb';exact Qnx _ _ _ _ hb'
   ·obtain ⟨v2,w2,r2,o2,g2,n2⟩:=run_append_own (P:=Tryz.prog) (w:=w) 0 47 ty 3 i _ 1 i.bytes Qgc.under i1 i2 i3 rfl Qgc.cells (by decide) (.slice (some ⟨g,0,none⟩) xs.length cap) xs.length (xs.map vi) h ⟨b,off,none⟩ m c (ys.map vi) hl hyc' (Jbi ys) h63 hby (Nat.zero_le _);have ho2:Qcs w2 v2 (xs ++ ys):=.inl (by rw [List.length_append,List.map_append,hm];exact o2)
    by_cases hroom:xs.length+m≤cap
    ·have hr:=run_append_room (P:=Tryz.prog) w 47 ty 3 i Qgc.under i1 g xs.length cap cur hg ⟨b,off,none⟩ m c (ys.map vi) hl' hyc' (Jbi ys) hroom (by rw [i3,List.length_map,h3,hm];omega);rw [hr] at r2;have e:=r2;injection e with e1 e2
     have hcap:cap≠0:=by omega
     refine ⟨v2,w2,by rw [hr,e1,e2],ho2,?_,fun b' hb'=>.inl ?_⟩
     ·have:Qbc (.slice (some ⟨g,0,none⟩) xs.length cap)=some g:=by show (if cap=0 then none else some g)=some g;rw [if_neg hcap]
      rw [this];exact g2
     ·rw [← e1] at hb';exact hb'
    ·have hr:=run_append_grow (P:=Tryz.prog) w 47 ty 3 i _ Qgc.under i1 i2 ⟨g,0,none⟩ xs.length cap (xs.map vi) (by simp [i3]) (fun j u hj=>by
      have hc:Qa6 w g 3 (xs.map vi):=⟨cur,hg,cur.toList.drop (xs.length*1),by rw [← h4,List.take_append_drop]⟩
      rw [Qe0,Nat.zero_add];exact hc.cell hj) ⟨b,off,none⟩ m c (ys.map vi) hl' hyc' (by omega) (by omega) (growslice_fits (by omega) hby)
     rw [hr] at r2;have e:=r2;injection e with e1 e2
     refine ⟨v2,w2,by rw [hr,e1,e2],ho2,?_,fun b' hb'=>.inr ?_⟩
     ·rw [← e2];exact Qfb _ _ _
     ·rw [← e1] at hb';exact Qnx _ _ _ _ hb'
  ·have hr:=run_append_grow (P:=Tryz.prog) w 47 ty 3 i _ Qgc.under i1 i2 p 0 0 [] (by simp) (fun j u hj=>by simp at hj) ⟨b,off,none⟩ m c (ys.map vi) hl' hyc' (by omega) (by omega) (growslice_fits (by omega) (by simpa using hby));refine ⟨v1,w1,?_,.inl (by simpa [hm] using o1),?_,fun b' hb'=>.inr ?_⟩
   ·rw [hr,hv1.1,hv1.2];simp
   ·rw [hv1.2];exact Qfb _ _ _
   ·rw [hv1.1] at hb';exact Qnx _ _ _ _ hb'
section
variable {w:World} {ops:Array Oper} {rest:List Oper} {o:Oper} {act:Act} {Q:Exit→Act→World→Prop}
theorem Qbz {s x:Operand} {v:Value} {xs ys:List Nat} {a:Option Addr} {m c:Nat} (h:Qcs w v xs) (hy:Qaq w a (ys.map vi)) (hm:ys.length=m) (hn:xs.length+m≤1000000000000)
  (hgd:o.guard=none) (ho:o.op=.call { callee:=.builtin .append,args:=#[s,x],argTypes:=#[47,47] })
  (hs:act.eval s=v) (hx:act.eval x=.slice a m c)
  (hK:∀v' w',Qcs w' v' (xs ++ ys)→w.grownBy w' (Qbc v)→(∀b,Qbc v'=some b→Qbc v=some b∨b=w.heap.size)→wpList Tryz.prog ops Q rest (act.put o.dst v') w') :
  wpList Tryz.prog ops Q (o :: rest) act w:=by
 obtain ⟨v',w',hr,h1,h2,h3⟩:=Qn3 (c:=c) o.type h hy hm hn;refine wpList_plain hgd fun K hK'=>?_
 unfold Oper.wp;simp [execOp,ho,resolve,invoke,builtin,hs,hx,hr,Result.andThen]
 exact hK' _ _ (hK v' w' h1 h2 h3)
theorem Qf5 {s x:Operand} {wa:World} {v:Value} {xs ys:List Nat} {a:Option Addr} {m c B:Nat} (h:Qcs wa v xs) (hb:Below wa.heap.size wa w) (hrow:∀b,Qbc v=some b→B≤b) (hB:B≤w.heap.size) (hy:Qaq w a (ys.map vi)) (hm:ys.length=m) (hn:xs.length+m≤1000000000000)
  (hgd:o.guard=none) (ho:o.op=.call { callee:=.builtin .append,args:=#[s,x],argTypes:=#[47,47] })
  (hs:act.eval s=v) (hx:act.eval x=.slice a m c)
  (hK:∀v' w',Qcs w' v' (xs ++ ys)→Below B w w'→(∀b,Qbc v'=some b→B≤b)→wpList Tryz.prog ops Q rest (act.put o.dst v') w') :
  wpList Tryz.prog ops Q (o :: rest) act w:=by
 refine Qbz (h.keep (fun b hb'=>hb.block b (h.lt b hb'))) hy hm hn hgd ho hs hx fun v' w' h1 h2 h3=>hK v' w' h1 ?_ ?_
 ·exact ⟨h2.os,h2.tape,h2.output,h2.size,fun k hk=>h2.block k (by omega) (fun e=>by have:=hrow k e.symm;omega)⟩
 ·intro b hb';rcases h3 b hb' with c | c
  ·exact hrow b c
  ·omega
end
theorem Qcs.cut {w:World} {xs:List Nat} {a:Option Addr} {c:Nat} (h:Qcs w (.slice a xs.length c) xs) {n:Nat} (hn:n≤xs.length):Qcs w (.slice a n c) (xs.take n):=by
 have hl:(xs.take n).length=n:=by rw [List.length_take];omega
 rcases h with h | ⟨p,h,rfl⟩
 ·rcases h.2 with ⟨e,h0⟩|⟨g,cap,cur,e,hb,hg,h1,h2,h3,h4⟩
  ·have hx:xs=[]:=List.length_eq_zero_iff.1 h0;subst hx
   cases e
   obtain rfl:n=0:=by simpa using hn
   exact .inl ⟨rfl,.inl ⟨rfl,rfl⟩⟩
  ·cases e
   refine .inl ⟨by simp,.inr ⟨g,c,cur,by rw [hl],hb,hg,by rw [hl];omega,h2,h3,?_⟩⟩;rw [hl,List.map_take,← h4,List.take_take]
   congr 1;omega
 ·cases h
  obtain rfl:n=0:=by simpa using hn
  exact .inr ⟨p,rfl,rfl⟩
theorem Qcs.cutN {w:World} {xs:List Nat} {a:Option Addr} {c l:Nat} (h:Qcs w (.slice a l c) xs) (hl:l=xs.length) {n:Nat} (hn:n≤l):Qcs w (.slice a n c) (xs.take n):=by
 subst hl;exact h.cut hn
end
section
inductive Tr where
 | nil
 | fl (ks:List Nat) (t:Tr)
 | pu (ks:List Nat) (t:Tr)
 | sq (ks:List Nat) (lo:Bool) (t:Tr)
 | br (k1:Nat) (lo1:Bool) (t1:Tr) (k2:Nat) (lo2:Bool) (t2:Tr)
inductive TrO where
 | nil
 | fl (os:List Oper) (t:TrO)
 | pu (os:List Oper) (t:TrO)
 | sq (os:List Oper) (lo:Bool) (t:TrO)
 | br (os1:List Oper) (lo1:Bool) (t1:TrO) (os2:List Oper) (lo2:Bool) (t2:TrO)
def Jh0:Op→Bool
 | .load ..=>true
 | _=>false
section
variable {P:Program} {ops:Array Oper} {md:Region.Mode} {C:World→Prop} {Q:Exit→Act→World→Prop}
theorem Qv1 {loose:Nat→Bool} {i:Nat} {oi:Oper} {v:Value} (hi:ops[i]?=some oi) (hsel:∀(j:Nat) (o:Oper) cs b,ops[j]?=some o→o.op≠.select cs b)
  (hQ:∀c a d v w,Q (.panic c) (a.put d v) w→Q (.panic c) a w) (hlo:loose i=false) :
  ∀(fuel:Nat) (listed:Array Bool) (a:Act) (w:World),
   (∀j oj,ops[j]?=some oj→j≠i→listed.getD j true=false→(∀e∈oj.after,Region.binds md e=true→e.on≠i)→oi.apart ops oj=true)→
   i∈Region.ready md ops listed→Qju P ops (fun _=>True) oi v a→
   Qdh P md ops Q C loose fuel (listed.setIfInBounds i true) (a.put oi.dst v) w→Qdh P md ops Q C loose (fuel+1) listed a w:=by
 intro fuel
 induction fuel with
 | zero =>
  intro listed a w _ hr hy H;refine ⟨fun h=>(by rw [h] at hr;cases hr),fun j hj=>?_⟩
  by_cases hji:j=i
  ·subst hji;exact hy.wpOp hi trivial ⟨fun h=>(by rw [hlo] at h;cases h),H⟩
  ·have:=ready_mono hj hji;rw [H.1] at this
   cases this
 | succ fuel ih =>
  intro listed a w hfree hr hy H;refine ⟨fun h=>(by rw [h] at hr;cases hr),fun j hj=>?_⟩
  by_cases hji:j=i
  ·subst hji;exact hy.wpOp hi trivial ⟨fun h=>(by rw [hlo] at h;cases h),H⟩
  ·have h1:=H.2 j (ready_mono hj hji);obtain ⟨hjun,oj,hoj,hall⟩:=mem_ready.1 hj;have hiun:listed.getD i false=false:=by
    have h0:=(mem_ready.1 hr).1;rcases Nat.lt_or_ge i listed.size with h' | h'
    ·simp [h'] at h0 ⊢;exact h0
    ·simp [Array.getElem?_eq_none h']
   have hnot:∀e∈oj.after,Region.binds md e=true→e.on≠i:=fun e he hb heq=>by
    have h1:=hall e he hb;rw [heq,hiun] at h1
    cases h1
   have h2:=Qtz (C:=fun _=>True) hoj (hfree j oj hoj hji hjun hnot) (fun cs b=>hsel i oi cs b hi) (fun cs b=>hsel j oj cs b hoj) hQ hy h1;have hun':∀k,(listed.setIfInBounds j true).getD k true=false→listed.getD k true=false:=fun k hun=>by
    by_cases hjk:j=k
    ·subst hjk;exact hjun
    ·rw [getD_set_ne true hjk] at hun;exact hun
   refine wpOp_mono (fun a' w' h3=>⟨h3.2.1,ih (listed.setIfInBounds j true) a' w' (fun k ok hk hki hun hno=>hfree k ok hk hki (hun' k hun) hno) (ready_mono hr (Ne.symm hji)) h3.1 ?_⟩) h2;rw [Array.setIfInBounds_comm _ _ hji];exact h3.2.2
def Qea (md:Region.Mode) (ops:Array Oper) (j:Nat):Bool :=
 (List.range ops.size).any fun i=>i != j && (match ops[i]? with | some o=>Jh0 o.op | none=>false) && !Qct md ops ops.size j i && !Qct md ops ops.size i j
def flL (md:Region.Mode) (ops:Array Oper):List Nat→Array Bool→Bool × Array Bool
 | [],listed=>(true,listed)
 | k :: ks,listed=>match ops[k]? with
  | none=>(false,listed)
  | some o=>let r:=flL md ops ks (listed.setIfInBounds k true)
   (calm o.op && (Region.ready md ops listed).contains k && Region.free md ops listed k && ((List.range ops.size).all fun j=>j == k || listed.getD j true || Qct md ops ops.size j k || Qea md ops j) && r.1,r.2)
def puL (md:Region.Mode) (ops:Array Oper):List Nat→Array Bool→Bool × Array Bool
 | [],listed=>(true,listed)
 | k :: ks,listed=>match ops[k]? with
  | none=>(false,listed)
  | some o=>let r:=puL md ops ks (listed.setIfInBounds k true)
   (calm o.op && (Region.ready md ops listed).contains k && Region.free md ops listed k && !Qea md ops k && r.1,r.2)
def sqL (md:Region.Mode) (ops:Array Oper) (lo:Bool):List Nat→Array Bool→Bool × Array Bool
 | [],listed=>(true,listed)
 | k :: ks,listed=>match ops[k]? with
  | none=>(false,listed)
  | some _=>let r:=sqL md ops lo ks (listed.setIfInBounds k true)
   (Region.ready md ops listed == [k] && (!Qea md ops k || (lo && ks.isEmpty)) && r.1,r.2)
def Qty:Tr→Nat
 | .nil=>0
 | .fl ks t=>Qty t+ks.length
 | .pu ks t=>Qty t+ks.length
 | .sq ks _ t=>Qty t+ks.length
 | .br _ _ t1 _ _ _=>Qty t1+1
def trL (md : Region.Mode) (ops : Array Oper) : Tr → Array Bool → Bool
 | .nil, listed => (Region.ready md ops listed).isEmpty
 | .fl ks t, listed => let x := flL md ops ks listed; x.1 && trL md ops t x.2
 | .pu ks t, listed => let x := puL md ops ks listed; x.1 && trL md ops t x.2
 | .sq ks lo t, listed => let x := sqL md ops lo ks listed; x.1 && trL md ops t x.2
 | .br k1 lo1 t1 k2 lo2 t2, listed => Region.ready md ops listed == [k1, k2] && (!Qea md ops k1 || lo1) && (!Qea md ops k2 || lo2) && Qty t1 == Qty t2 && (ops[k1]?).isSome && (ops[k2]?).isSome &&
   trL md ops t1 (listed.setIfInBounds k1 true) && trL md ops t2 (listed.setIfInBounds k2 true)
def trB (md:Region.Mode) (ops:Array Oper) (t:Tr):Bool:=Region.noSelect ops && Qty t == ops.size && trL md ops t (Array.replicate ops.size false)
def trO (l:List Oper):Tr→TrO
 | .nil=>.nil
 | .fl ks t=>.fl (Qa3 l ks) (trO l t)
 | .pu ks t=>.pu (Qa3 l ks) (trO l t)
 | .sq ks lo t=>.sq (Qa3 l ks) lo (trO l t)
 | .br k1 lo1 t1 k2 lo2 t2=>.br (Qa3 l [k1]) lo1 (trO l t1) (Qa3 l [k2]) lo2 (trO l t2)
def Qmh (P:Program) (ops:Array Oper) (C:World→Prop) (Q:Exit→Act→World→Prop):TrO→Act→World→Prop
 | .nil,a,w=>Q .normal a w
 | .fl os t,a,w=>C w∧wpQuiet P ops C (fun a'=>Qmh P ops C Q t a' w) os a
 | .pu os t,a,w=>wpQuiet P ops (fun _=>True) (fun a'=>Qmh P ops C Q t a' w) os a
 | .sq os lo t,a,w=>wpList P ops (Exit.then (fun a' w'=>(lo=true→C w')∧Qmh P ops C Q t a' w') Q) os a w
 | .br os1 lo1 t1 os2 lo2 t2,a,w=>wpList P ops (Exit.then (fun a' w'=>(lo1=true→C w')∧Qmh P ops C Q t1 a' w') Q) os1 a w∧wpList P ops (Exit.then (fun a' w'=>(lo2=true→C w')∧Qmh P ops C Q t2 a' w') Q) os2 a w
theorem Qwk {C:World→Prop} {o:Oper} {a:Act} {K:Act→Prop} {ks:List Oper} (hcalm:calm o.op=true) (h:wpQuiet P ops C K (o :: ks) a):∃v,Qju P ops C o v a∧wpQuiet P ops C K ks (a.put o.dst v):=by
 simp only [wpQuiet] at h
 by_cases hw:Region.wanted o (yielded ops a.tmps)=true
 ·rw [if_pos hw] at h;obtain ⟨v,h1,h2⟩:=h;refine ⟨v,.inl ⟨hw,fun x hx=>?_⟩,h2⟩;have h3:=h1 x hx;unfold Oper.quietAt at h3
  cases hq:(execOp a.eval o).run P x with
  | ok nx w2 =>
   obtain ⟨u,rfl⟩:=Qkz hcalm hq;rw [hq] at h3;simp only [Oper.quietUpon] at h3
   rw [h3.1,h3.2]
  | halt x' w2=>rw [hq] at h3;simp only [Oper.quietUpon] at h3
 ·rw [if_neg hw] at h;exact ⟨undef,.inr ⟨by simpa using hw,rfl⟩,h⟩
theorem Jh8 (hs:Region.noSelect ops=true) (hQ:∀c a d v w,Q (.panic c) (a.put d v) w→Q (.panic c) a w) {m:Nat} {R:Act→Prop} {w:World} (hC:C w):∀(ks:List Nat) (listed:Array Bool) (a:Act),Qoi md ops listed→(flL md ops ks listed).1=true→
  (∀a',Qoi md ops (flL md ops ks listed).2→R a'→Qdh P md ops Q C (Qea md ops) m (flL md ops ks listed).2 a' w)→
  wpQuiet P ops C R (Qa3 ops.toList ks) a→Qdh P md ops Q C (Qea md ops) (m+ks.length) listed a w:=by
 intro ks
 induction ks with
 | nil =>
  intro listed a hsh _ hR h;exact hR a hsh (by simpa [Qa3,wpQuiet] using h)
 | cons k ks ih =>
  intro listed a hsh hB hR h
  cases hk:ops[k]? with
  | none=>simp [flL,hk] at hB
  | some o =>
   have e:Qa3 ops.toList (k :: ks)=o :: Qa3 ops.toList ks:=by simp [Qa3,hk]
   rw [e] at h;simp only [flL,hk,Bool.and_eq_true] at hB hR
   obtain ⟨⟨⟨⟨hc,hr⟩,hf⟩,hlo⟩,hB'⟩:=hB;have hrk:k∈Region.ready md ops listed:=by simpa using hr
   obtain ⟨v,hy,hK⟩:=Qwk hc h;refine Qmc (f:=ops.size) hk (Region.noSelect_spec hs) hQ (m+ks.length) listed a w ?_ (Region.free_spec hk hf) hrk hsh hy hC (ih _ _ (hsh.set hrk) hB' hR hK);intro j oj hj hjk hun;simp only [List.all_eq_true,List.mem_range,Bool.or_eq_true,beq_iff_eq] at hlo
   rcases hlo j (Array.getElem?_eq_some_iff.1 hj).1 with ((h | h) | h) | h
   ·exact absurd h hjk
   ·rw [hun] at h;cases h
   ·exact .inl h
   ·exact .inr h
theorem Jh6 (hs:Region.noSelect ops=true) (hQ:∀c a d v w,Q (.panic c) (a.put d v) w→Q (.panic c) a w) {m:Nat} {R:Act→Prop} {w:World} : ∀(ks:List Nat) (listed:Array Bool) (a:Act),Qoi md ops listed→(puL md ops ks listed).1=true→
  (∀a',Qoi md ops (puL md ops ks listed).2→R a'→Qdh P md ops Q C (Qea md ops) m (puL md ops ks listed).2 a' w)→
  wpQuiet P ops (fun _=>True) R (Qa3 ops.toList ks) a→Qdh P md ops Q C (Qea md ops) (m+ks.length) listed a w:=by
 intro ks
 induction ks with
 | nil =>
  intro listed a hsh _ hR h;exact hR a hsh (by simpa [Qa3,wpQuiet] using h)
 | cons k ks ih =>
  intro listed a hsh hB hR h
  cases hk:ops[k]? with
  | none=>simp [puL,hk] at hB
  | some o =>
   have e:Qa3 ops.toList (k :: ks)=o :: Qa3 ops.toList ks:=by simp [Qa3,hk]
   rw [e] at h;simp only [puL,hk,Bool.and_eq_true,Bool.not_eq_true'] at hB hR
   obtain ⟨⟨⟨⟨hc,hr⟩,hf⟩,hlo⟩,hB'⟩:=hB;have hrk:k∈Region.ready md ops listed:=by simpa using hr
   obtain ⟨v,hy,hK⟩:=Qwk hc h;exact Qv1 hk (Region.noSelect_spec hs) hQ hlo (m+ks.length) listed a w (Region.free_spec hk hf) hrk hy (ih _ _ (hsh.set hrk) hB' hR hK)
theorem Jbt {m:Nat} {lo:Bool} {R:Act→World→Prop} {k:Nat} {o:Oper} (hk:ops[k]?=some o) {L:Array Bool} {a:Act} {w:World} (hlo:Qea md ops k=true→lo=true)
  (hR:∀a' w',(lo=true→C w')→R a' w'→Qdh P md ops Q C (Qea md ops) m L a' w')
  (h:wpList P ops (Exit.then (fun a' w'=>(lo=true→C w')∧R a' w') Q) [o] a w):wpOp P ops Q k (fun a' w'=>(Qea md ops k=true→C w')∧Qdh P md ops Q C (Qea md ops) m L a' w') a w:=by
 unfold wpOp;simp only [hk]
 unfold wpList at h;have hmono:∀a' w',wpList P ops (Exit.then (fun a' w'=>(lo=true→C w')∧R a' w') Q) [] a' w'→(Qea md ops k=true→C w')∧Qdh P md ops Q C (Qea md ops) m L a' w':=by
  intro a' w' h';have h':(lo=true→C w')∧R a' w':=by simpa [wpList,Exit.then] using h'
  exact ⟨fun hl=>h'.1 (hlo hl),hR a' w' h'.1 h'.2⟩
 by_cases hw:Region.wanted o (yielded ops a.tmps)=true
 ·rw [if_pos hw] at h ⊢;rcases h with h | h
  ·refine .inl ?_;have h:=Oper.wp_mono hmono h;unfold Oper.wp at *;generalize (execOp a.eval o).run P w=r at *
   cases r with
   | ok n w'=>cases n <;> simp only [Oper.upon] at h ⊢ <;> exact h
   | halt x w'=>cases x <;> simp only [Oper.upon] at h ⊢ <;> exact h
  ·exact .inr h
 ·rw [if_neg hw] at h ⊢;exact hmono _ _ h
theorem Jhy {m:Nat} {lo:Bool} {R:Act→World→Prop} : ∀(ks:List Nat) (listed:Array Bool) (a:Act) (w:World),Qoi md ops listed→(sqL md ops lo ks listed).1=true→
  (∀a' w',Qoi md ops (sqL md ops lo ks listed).2→(lo=true→C w')→R a' w'→Qdh P md ops Q C (Qea md ops) m (sqL md ops lo ks listed).2 a' w')→
  wpList P ops (Exit.then (fun a' w'=>(lo=true→C w')∧R a' w') Q) (Qa3 ops.toList ks) a w→Qdh P md ops Q C (Qea md ops) (m+ks.length) listed a w:=by
 intro ks
 induction ks with
 | nil =>
  intro listed a w hsh _ hR h;have h:(lo=true→C w)∧R a w:=by simpa [Qa3,wpList,Exit.then] using h
  exact hR a w hsh h.1 h.2
 | cons k ks ih =>
  intro listed a w hsh hB hR h
  cases hk:ops[k]? with
  | none=>simp [sqL,hk] at hB
  | some o =>
   have e:Qa3 ops.toList (k :: ks)=o :: Qa3 ops.toList ks:=by simp [Qa3,hk]
   rw [e] at h;simp only [sqL,hk,Bool.and_eq_true,beq_iff_eq] at hB hR
   obtain ⟨⟨hr,hlo⟩,hB'⟩:=hB;have hrk:k∈Region.ready md ops listed:=by rw [hr];simp
   refine ⟨fun h'=>(by rw [hr] at h';cases h'),fun i hi=>?_⟩;rw [hr] at hi;obtain rfl:i=k:=by simpa using hi
   unfold wpOp;simp only [hk]
   unfold wpList at h;have hmono:∀a' w',wpList P ops (Exit.then (fun a' w'=>(lo=true→C w')∧R a' w') Q) (Qa3 ops.toList ks) a' w'→
     (Qea md ops i=true→C w')∧Qdh P md ops Q C (Qea md ops) (m+ks.length) (listed.setIfInBounds i true) a' w':=by
    intro a' w' h';refine ⟨fun hl=>?_,ih _ _ _ (hsh.set hrk) hB' hR h'⟩;simp only [hl,Bool.not_true,Bool.false_or,Bool.and_eq_true,List.isEmpty_iff] at hlo
    obtain ⟨hlo1,rfl⟩:=hlo;have h':(lo=true→C w')∧R a' w':=by simpa [Qa3,wpList,Exit.then] using h'
    exact h'.1 hlo1
   by_cases hw:Region.wanted o (yielded ops a.tmps)=true
   ·rw [if_pos hw] at h ⊢;rcases h with h | h
    ·refine .inl ?_;have h:=Oper.wp_mono hmono h;unfold Oper.wp at *;generalize (execOp a.eval o).run P w=r at *
     cases r with
     | ok n w'=>cases n <;> simp only [Oper.upon] at h ⊢ <;> exact h
     | halt x w'=>cases x <;> simp only [Oper.upon] at h ⊢ <;> exact h
    ·exact .inr h
   ·rw [if_neg hw] at h ⊢;exact hmono _ _ h
theorem Jip (hs:Region.noSelect ops=true) (hQ:∀c a d v w,Q (.panic c) (a.put d v) w→Q (.panic c) a w):∀(t:Tr) (listed:Array Bool) (a:Act) (w:World),Qoi md ops listed→
  trL md ops t listed=true→Qmh P ops C Q (trO ops.toList t) a w→Qdh P md ops Q C (Qea md ops) (Qty t) listed a w:=by
 intro t
 induction t with
 | nil =>
  intro listed a w _ hB h;exact ⟨by simpa [trL] using hB,by simpa [Qmh,trO] using h⟩
 | fl ks t ih =>
  intro listed a w hsh hB h;simp only [trL,Bool.and_eq_true] at hB
  simp only [trO,Qmh] at h
  exact Jh8 hs hQ h.1 ks listed a hsh hB.1 (fun a' hsh' hR=>ih _ a' w hsh' hB.2 hR) h.2
 | pu ks t ih =>
  intro listed a w hsh hB h;simp only [trL,Bool.and_eq_true] at hB
  simp only [trO,Qmh] at h
  exact Jh6 hs hQ ks listed a hsh hB.1 (fun a' hsh' hR=>ih _ a' w hsh' hB.2 hR) h
 | sq ks lo t ih =>
  intro listed a w hsh hB h;simp only [trL,Bool.and_eq_true] at hB
  simp only [trO,Qmh] at h
  exact Jhy ks listed a w hsh hB.1 (fun a' w' hsh' _ hR=>ih _ a' w' hsh' hB.2 hR) h
 | br k1 lo1 t1 k2 lo2 t2 ih1 ih2 =>
  intro listed a w hsh hB h;simp only [trL,Bool.and_eq_true,beq_iff_eq] at hB
  obtain ⟨⟨⟨⟨⟨⟨⟨hr,hl1⟩,hl2⟩,hlen⟩,ho1⟩,ho2⟩,hB1⟩,hB2⟩:=hB;obtain ⟨o1,ho1⟩:=Option.isSome_iff_exists.1 ho1;obtain ⟨o2,ho2⟩:=Option.isSome_iff_exists.1 ho2;simp only [trO,Qmh] at h
  have e1:Qa3 ops.toList [k1]=[o1]:=by simp [Qa3,ho1]
  have e2:Qa3 ops.toList [k2]=[o2]:=by simp [Qa3,ho2]
  rw [e1,e2] at h;refine ⟨fun h'=>(by rw [hr] at h';cases h'),fun i hi=>?_⟩;have hri:=hi;rw [hr] at hi;simp only [List.mem_cons,List.not_mem_nil,or_false] at hi
  rcases hi with rfl | rfl
  ·exact Jbt ho1 (fun hl=>by simpa [hl] using hl1) (fun a' w' _ hR=>ih1 _ a' w' (hsh.set hri) hB1 hR) h.1
  ·exact Jbt ho2 (fun hl=>by simpa [hl] using hl2) (fun a' w' _ hR=>by have:=ih2 _ a' w' (hsh.set hri) hB2 hR;rw [← hlen] at this;exact this) h.2
theorem Qds {id:Nat} {a:Act} {w:World} {l:List Oper} (t:Tr) (hm:P.follows .mixedOrders=true) (hB:trB .any l.toArray t=true)
  (hQ:∀c a d v w,Q (.panic c) (a.put d v) w→Q (.panic c) a w)
  (h:Qmh P l.toArray C Q (trO l t) a w.drew):(Code.region id l.toArray true).wp P Q a w:=by
 simp only [trB,Bool.and_eq_true,beq_iff_eq] at hB
 refine wp_region_any hm (Qgq (C:=C) (loose:=Qea .any l.toArray) _ _ _ _ ?_);have:=Jip (md:=.any) (C:=C) hB.1.1 hQ t (Array.replicate l.toArray.size false) a w.drew (Qkc _) hB.2 h;rw [hB.1.2] at this;exact this
theorem Qjm {os:List Oper} {t:TrO} {a:Act} {w:World} (hC:C w) (h:wpQuiet P ops C (fun a'=>Qmh P ops C Q t a' w) os a):Qmh P ops C Q (.fl os t) a w:=⟨hC,h⟩
theorem Qg9 {os:List Oper} {t:TrO} {a:Act} {w:World} (h:wpQuiet P ops (fun _=>True) (fun a'=>Qmh P ops C Q t a' w) os a):Qmh P ops C Q (.pu os t) a w:=h
theorem Qb8 {os:List Oper} {lo:Bool} {t:TrO} {a:Act} {w:World}
  (h:∀K:Act→World→Prop,(∀a' w',(lo=true→C w')→Qmh P ops C Q t a' w'→K a' w')→wpList P ops (Exit.then K Q) os a w):Qmh P ops C Q (.sq os lo t) a w :=
 h _ (fun _ _ h1 h2=>⟨h1,h2⟩)
theorem Qk3 {os1 os2:List Oper} {lo1 lo2:Bool} {t1 t2:TrO} {a:Act} {w:World} (h1:Qmh P ops C Q (.sq os1 lo1 t1) a w) (h2:Qmh P ops C Q (.sq os2 lo2 t2) a w):Qmh P ops C Q (.br os1 lo1 t1 os2 lo2 t2) a w:=⟨h1,h2⟩
theorem Qcr {os:List Oper} {a:Act} {w:World} (h:wpList P ops Q os a w):Qmh P ops C Q (.sq os false .nil) a w:=by
 unfold Qmh;have e:(fun a' w'=>(false=true→C w')∧Qmh P ops C Q .nil a' w')=Q .normal:=by
  funext a' w'
  simp [Qmh]
 rw [e,Qi0];exact h
end
end
section
open Go.Maps
structure Jdd (w w':World) (f mb n:Nat) (V:Nat→Value) (S S':FL) (i:Nat) (v:Value) (xs:List Nat):Prop where
 head:w'.heap[f]?=some (.cells ((List.range 32).map (fun j=>if j=i then v else V j) ++ [Value.map (some mb)]).toArray 235 (0,0))
 map:∃M,Qm1 Tryz.prog 237 w' mb n M∧∀m k:Nat,m<4→k<32→(M (Qk7 m k)).getD (.slice none 0 0)=if Qix m k=i then v else V (Qix m k)
 own:Qcs w' v xs
 row:∀b,Qbc v=some b→Qbc (V i)=some b∨w.heap.size≤b
 rest:∀b,b<w.heap.size→b≠f→b≠mb→Qbc (V i)≠some b→w'.heap[b]?=w.heap[b]?
 size:w.heap.size≤w'.heap.size
 lists:∀j,j<160→S'.at j=if j=i then xs else S.at j
theorem Qf6.step {w w':World} {f mb n n':Nat} {R:List Nat} {V:Nat→Value} {S S':FL} {i:Nat} {v:Value} {xs:List Nat} (h:Qf6 w f mb n V S) (hi:i<160)
  (h1:f∈R) (h2:mb∈R) (h3:∀b∈R,b<w.heap.size) (h4:∀j,j<160→∀b,Qbc (V j)=some b→b∈R) (t:Jdd w w' f mb n' V S S' i v xs) :
  Qf6 w' f mb n' (fun j=>if j=i then v else V j) S'∧Qd5 w' f mb n' (R ++ (Qbc v).toList) S':=by
 obtain ⟨M,hm,hv⟩:=t.map;have hfl:=h3 f h1;have hml:=h3 mb h2;have hnew:∀b,Qbc v=some b→b<w'.heap.size:=t.own.lt;have key:Qf6 w' f mb n' (fun j=>if j=i then v else V j) S':=by
  refine ⟨t.head,⟨M,hm,hv⟩,fun j hj=>?_,fun j k hj hk hne b hb=>?_,fun j hj=>?_,h.ne⟩
  ·rw [t.lists j hj]
   by_cases e:j=i
   ·rw [if_pos e,if_pos e];exact t.own
   ·rw [if_neg e,if_neg e];refine (h.rows j hj).keep fun b hb=>t.rest b (h3 b (h4 j hj b hb)) (fun e2=>(h.neF j hj).1 (e2 ▸ hb)) (fun e2=>(h.neF j hj).2 (e2 ▸ hb)) (h.apart j i hj hi e b hb)
  ·by_cases e1:j=i
   ·rw [if_pos e1] at hb;rw [if_neg (fun c=>hne (e1.trans c.symm))];rcases t.row b hb with hb | hb
    ·exact fun c=>h.apart i k hi hk (fun c=>hne (e1.trans c)) b hb c
    ·exact fun c=>by have:=h3 b (h4 k hk b c);omega
   ·rw [if_neg e1] at hb
    by_cases e2:k=i
    ·rw [if_pos e2];intro c;rcases t.row b c with c | c
     ·exact h.apart j i hj hi e1 b hb c
     ·have:=h3 b (h4 j hj b hb);omega
    ·rw [if_neg e2];exact h.apart j k hj hk hne b hb
  ·by_cases e:j=i
   ·rw [if_pos e];refine ⟨fun c=>?_,fun c=>?_⟩
    ·rcases t.row f c with c | c
     ·exact (h.neF i hi).1 c
     ·omega
    ·rcases t.row mb c with c | c
     ·exact (h.neF i hi).2 c
     ·omega
   ·rw [if_neg e];exact h.neF j hj
 refine ⟨key,_,key,List.mem_append_left _ h1,List.mem_append_left _ h2,fun b hb=>?_,fun j hj b hb=>?_⟩
 ·rcases List.mem_append.1 hb with hb | hb
  ·exact Nat.lt_of_lt_of_le (h3 b hb) t.size
  ·exact hnew b (by simpa using hb)
 ·by_cases e:j=i
  ·rw [if_pos e] at hb;exact List.mem_append_right _ (by simp [hb])
  ·rw [if_neg e] at hb;exact List.mem_append_left _ (h4 j hj b hb)
structure Jet (w:World) (f mb n:Nat) (V:Nat→Value) (R:List Nat) (S:FL):Prop where
 inn:Qf6 w f mb n V S
 f:f∈R
 mb:mb∈R
 lt:∀b∈R,b<w.heap.size
 rows:∀j,j<160→∀b,Qbc (V j)=some b→b∈R
theorem Qd5.v {w:World} {f mb n:Nat} {R:List Nat} {S:FL} (h:Qd5 w f mb n R S):∃V,Jet w f mb n V R S:=by
 obtain ⟨V,h1,h2,h3,h4,h5⟩:=h;exact ⟨V,h1,h2,h3,h4,h5⟩
theorem Jet.below {w w':World} {f mb n:Nat} {V:Nat→Value} {R:List Nat} {S:FL} (h:Jet w f mb n V R S) (hb:Below w.heap.size w w'):Jet w' f mb n V R S:=by
 have hk:∀k∈R,w'.heap[k]?=w.heap[k]?:=fun k hk=>hb.block k (h.lt k hk)
 obtain ⟨M,hm,hv⟩:=h.inn.map;exact ⟨⟨(hk f h.f).trans h.inn.head,⟨M,hm.block (hk mb h.mb),hv⟩,fun i hi'=>(h.inn.rows i hi').keep fun b hb=>hk b (h.rows i hi' b hb),h.inn.apart,h.inn.neF,h.inn.ne⟩,h.f,h.mb,fun b hb'=>Nat.lt_of_lt_of_le (h.lt b hb') hb.size,h.rows⟩
def Qj8 (w w':World) (f mb n:Nat) (R:List Nat) (S:FL):Prop:=∃R',Qd5 w' f mb n R' S∧Qam R w w'∧∀b∈R',b∈R∨w.heap.size≤b
theorem Qj8.refl {w:World} {f mb n:Nat} {R:List Nat} {S:FL} (h:Qd5 w f mb n R S):Qj8 w w f mb n R S:=⟨R,h,Qam.refl _ _,fun _ h=>.inl h⟩
theorem Jdd.go {w w':World} {f mb n n':Nat} {R:List Nat} {V:Nat→Value} {S S':FL} {i:Nat} {v:Value} {xs:List Nat} (h:Qf6 w f mb n V S) (hi:i<160)
  (h1:f∈R) (h2:mb∈R) (h3:∀b∈R,b<w.heap.size) (h4:∀j,j<160→∀b,Qbc (V j)=some b→b∈R) (t:Jdd w w' f mb n' V S S' i v xs) (ht:w'.os=w.os∧w'.tape=w.tape∧w'.output=w.output) :
  Qj8 w w' f mb n' R S':=by
 refine ⟨_,(h.step hi h1 h2 h3 h4 t).2,⟨ht.1,ht.2.1,ht.2.2,t.size,fun b hb hn=>t.rest b hb (fun e=>hn (e ▸ h1)) (fun e=>hn (e ▸ h2)) (fun e=>hn (h4 i hi b e))⟩,fun b hb=>?_⟩;rcases List.mem_append.1 hb with hb | hb
 ·exact .inl hb
 ·rcases t.row b (by simpa using hb) with c | c
  ·exact .inl (h4 i hi b c)
  ·exact .inr c
theorem Jhe {w wd w1:World} {f mb n:Nat} {R:List Nat} {V:Nat→Value} {S:FL} {k:Nat} {v:Value} {xs:List Nat} (hi:Qf6 w f mb n V S) (hk:k<32)
  (h1:f∈R) (h2:mb∈R) (h3:∀b∈R,b<w.heap.size) (hd:Below w.heap.size w wd) (hg:wd.grownBy w1 (Qbc (V k))) (hv:Qcs w1 v xs) (hrow:∀b,Qbc v=some b→Qbc (V k)=some b∨w.heap.size≤b) :
  Jdd w (w1.setCell ⟨f,k,none⟩ v) f mb n V S (S.setG k xs) k v xs:=by
 have hfl:=h3 f h1;have hml:=h3 mb h2;obtain ⟨M,hm,hvv⟩:=hi.map;have hb:∀b,b<w.heap.size→Qbc (V k)≠some b→w1.heap[b]?=w.heap[b]?:=fun b hb hn=>(hg.block b (Nat.lt_of_lt_of_le hb hd.size) (fun e=>hn e.symm)).trans (hd.block b hb)
 have hf1:=(hb f hfl (hi.neF k (by omega)).1).trans hi.head;have hne:∀b,Qbc v=some b→b≠f:=fun b hb e=>by
  subst e;rcases hrow b hb with c | c
  ·exact (hi.neF k (by omega)).1 c
  ·omega
 refine ⟨?_,⟨M,(hm.block ?_),fun m j hm4 hj=>?_⟩,hv.keep (fun b hb=>Below.heap_setCell _ _ _ _ (hne b hb)),hrow,fun b hbl h5 h6 h7=>?_,?_,fun j hj=>?_⟩
 ·rw [heap_setCell_same w1 f k _ _ _ hf1]
  congr 2
  apply Array.ext'
  rw [Array.toList_setIfInBounds];simp only
  apply List.ext_getElem?
  intro t;rw [List.getElem?_set]
  by_cases e:k=t
  ·subst e;rw [if_pos rfl,if_pos (by simp;omega),List.getElem?_append_left (by simpa using hk)];simp [hk]
  ·rw [if_neg e]
   by_cases ht:t<32
   ·rw [List.getElem?_append_left (by simpa using ht),List.getElem?_append_left (by simpa using ht)];have:¬t=k:=fun c=>e c.symm
    simp [ht,this]
   ·rw [List.getElem?_append_right (by simpa using ht),List.getElem?_append_right (by simpa using ht)];simp
 ·rw [Below.heap_setCell _ _ _ _ (fun e=>hi.ne e.symm)];exact hb mb hml (hi.neF k (by omega)).2
 ·rw [hvv m j hm4 hj,if_neg (by unfold Qix;omega)]
 ·rw [Below.heap_setCell _ _ _ _ h5];exact hb b hbl h7
 ·have:=hg.size;have:=hd.size;simp;omega
 ·unfold FL.at;simp only [FL.setG_g,FL.setG_c]
  by_cases e:j<32
  ·rw [if_pos e,if_pos e]
  ·rw [if_neg e,if_neg e,if_neg (by omega)]
def FL.upto (S:FL) (N:Nat):Prop:=∀i,i<160→(S.at i).length≤N
theorem FL.upto.mono {S:FL} {N M:Nat} (h:S.upto N) (hN:N≤M):S.upto M:=fun i hi=>Nat.le_trans (h i hi) hN
theorem FL.pushed_upto {S:FL} {N:Nat} (h:S.upto N) (k a:Nat):(S.pushed k a).upto (N+1):=by
 intro i hi;have:=h i hi;unfold FL.pushed
 split
 ·omega
 ·unfold FL.at at this ⊢;simp only [FL.setG_g,FL.setG_c]
  by_cases e:i<32
  ·rw [if_pos e] at this ⊢
   split
   ·rename_i e2;subst e2;simp;omega
   ·omega
  ·rw [if_neg e] at this ⊢;omega
theorem Qh0 {w w':World} {row:Option Nat} (h:w.grownBy w' row):Qam row.toList w w' :=
 ⟨h.os,h.tape,h.output,h.size,fun k hk hn=>h.block k hk (fun e=>hn (by rw [← e];simp))⟩
def Qzs (w:World) (f mb n:Nat) (R:List Nat) (S:FL) (k a:Nat):Ending→World→Prop:=fun e w'=>e=.returned (.int .i64 (if S.has k a then 41 else 0))∧Qj8 w w' f mb n R (S.pushed k a)
theorem Jaq {w:World} {f mb n:Nat} {R:List Nat} {S:FL} (h:Qd5 w f mb n R S) (hL:S.upto 1000000) (k a:Nat) (hk:k<32) :
  Calls Tryz.prog 164 #[Jgo f,.int .i64 (k:Int),.int .i64 (a:Int)] w (Qzs w f mb n R S k a):=by
 have HF:=LH h;have HHas:=LH (Jdv h hL k a hk);have HP:Hid (∀x w',x=(if S.has k a then 41 else 0)→Qj8 w w' f mb n R (S.pushed k a)→Qzs w f mb n R S k a (.returned (.int .i64 x)) w'):=LH (fun x w' h1 h2=>by subst h1;exact ⟨rfl,h2⟩);generalize Qzs w f mb n R S k a=Post at *;obtain ⟨V,hi,h1,h2,h3,h4⟩:=h;have HI:=LH hi;have HR1:=LH h1;have HR2:=LH h2;have HR3:=LH h3;have HR4:=LH h4;have ck:=hi.g hk;have HOwn:=LH (hi.rows k (by omega));have HLk:Hid ((S.g k).length≤1000000):=LH (by have:=hL k (by omega);rwa [S.at_g hk] at this);clear hi h1 h2 h3 h4 hL;go_enter Tryz.func164,Tryz.ntmps164;go_wp2_with fail;refine (Qc2 _ _).mono ?_;rintro e w1 ⟨rfl,rfl⟩;rw [decide_eq_true (show (0:Int)≤(k:Int)∧(k:Int)<32 by omega)];go_wp2_with fail;refine HHas.out.mono ?_;rintro e w1 ⟨rfl,rfl⟩
 cases hh:S.has k a with
 | true =>
  have HE:Hid (41=(if S.has k a then (41:Int) else 0)∧Qj8 w w f mb n R (S.pushed k a)):=LH ⟨by rw [hh];rfl,by unfold FL.pushed;rw [hh];exact Qj8.refl HF.out⟩;clear hh;go_wp2_with fail;exact HP.out _ _ HE.out.1 HE.out.2
 | false =>
  have HE:Hid (0=(if S.has k a then (41:Int) else 0)∧S.pushed k a=S.setG k (S.g k ++ [a])):=LH ⟨by rw [hh];rfl,by unfold FL.pushed;rw [hh];rfl⟩;clear hh;go_upto_region 5 with fail;have hfn:f∉(Qbc (V k)).toList:=fun hm=>(HI.out.neF k (by omega)).1 (by simpa using hm)
  have r0:=fun x=>Qao (L:=(Qbc (V k)).toList) ck hfn x
  clear ck hfn;have hC1:∃x:Qjj (Qbc (V k)).toList w,w.drew=x.val:=Qa0 (Qam.ofBelow (Qae (Qaj w)));have HD0:Hid (Below w.heap.size w w.drew):=LH (Qae (Qaj w));refine Qai (C:=fun w'=>∃x:Qjj (Qbc (V k)).toList w,w'=x.val) [.fl [0,1,2,3,4,5,6,7,8,11,12],.sq [9] true,.sq [10] true,.sq [13,14] false] (by kernel_rfl) (by kernel_rfl) (by intro c a d v w h;cases d <;> exact h) ?_;simp only [Qdj,Qa3,List.getElem?_cons_succ,List.getElem?_cons_zero]
  refine Qak hC1 ?_
  repeat (first|go_big_quiet_step (fail)|quiet_step (fail))
  refine wpQuiet_nil ?_;clear r0;generalize w.drew=wd at *;refine Qah (fun K hK=>?_);go_wp2_with fail;have hbn:=Qaf wd (.cells #[.int .i64 (a:Int)] 3);have HB2:Hid (Below w.heap.size w (wd.alloc (.cells #[.int .i64 (a:Int)] 3))):=LH (HD0.out.trans (hbn.mono HD0.out.size));have hC2:∃x:Qjj (Qbc (V k)).toList w,wd.alloc (.cells #[.int .i64 (a:Int)] 3)=x.val:=Qa0 (Qam.ofBelow HB2.out);have HC2:Hid (Qaq (wd.alloc (.cells #[.int .i64 (a:Int)] 3)) (some ⟨wd.heap.size,0,none⟩) ([a].map vi)):=LH (Qa6.cells ⟨_,heap_alloc_new _ _,[],rfl⟩);clear hbn;go_wp2_with fail;refine hK _ _ (fun _=>hC2) ?_;clear hK K;obtain ⟨q,hq⟩:∃q,q=wd.heap.size:=⟨_,rfl⟩
  rw [← hq] at HC2 ⊢;clear hq;generalize wd.alloc _=we at *;have HOe:Hid (Qcs we (V k) (S.g k)):=LH (by rw [← S.at_g hk];exact HOwn.out.keep (fun b hb=>HB2.out.block b (HR3.out b (HR4.out k (by omega) b hb))));have HN1:Hid ((S.g k).length+1≤1000000000000):=LH (by have:=HLk.out;omega);refine Qah (fun K hK=>?_);go_wp2_with (refine Qbz (m:=1) HOe.out HC2.out rfl HN1.out rfl rfl rfl rfl ?_;intro v' w1 ho hg hr;have HO1:=LH ho;have HG1:=LH hg;have HR:=LH hr;clear ho hg hr)
  have HT1:Hid (Qam (Qbc (V k)).toList w w1):=LH ((Qam.ofBelow HB2.out).trans (Qh0 HG1.out));have hC3:=Qa0 HT1.out;go_wp2_with fail;refine hK _ _ (fun _=>hC3) ?_;clear hK K;have hst:=Jhe HI.out hk HR1.out HR2.out HR3.out HB2.out HG1.out HO1.out (fun b hb=>by
   rcases HR.out b hb with c | c
   ·exact .inl c
   ·exact .inr (by rw [c];exact HB2.out.size))
  have HGo:Hid (Qj8 w (w1.setCell ⟨f,k,none⟩ v') f mb n R (S.pushed k a)):=LH (by
   rw [HE.out.2]
   exact hst.go HI.out (by omega) HR1.out HR2.out HR3.out HR4.out ⟨HG1.out.os.trans HB2.out.os,HG1.out.tape.trans HB2.out.tape,HG1.out.output.trans HB2.out.output⟩)
  have HE0:=LH HE.out.1;have HF1:Hid (w1.heap[f]?=some (.cells ((List.range 32).map V ++ [Value.map (some mb)]).toArray 235 (0,0))):=LH (by
   have:=(HG1.out.block f (Nat.lt_of_lt_of_le (HR3.out f HR1.out) HB2.out.size) (fun e=>(HI.out.neF k (by omega)).1 e.symm)).trans (HB2.out.block f (HR3.out f HR1.out))
   exact this.trans HI.out.head)
  have fr:w1.frozen? ⟨f,k,none⟩=false:=frozen_of_row _ _ _ _ _ HF1.out;have ck1:w1.cell? ⟨f,k,none⟩=some (V k):=(cell_of_row _ _ k _ _ _ HF1.out).trans (HI.out.lt hk);obtain ⟨a',c',e',_⟩:=HO1.out.cells;obtain ⟨l',hl'⟩:∃l',l'=(S.g k ++ [a]).length:=⟨_,rfl⟩
  rw [← hl'] at e';subst e';clear hst hl';refine Qal ?_;go_wp2_with fail;generalize w1.setCell _ _=w2 at *;go_wp2_with fail;exact HP.out _ _ HE0.out HGo.out
def Ji2 (w:World) (xs:List Nat):Ending→World→Prop:=fun e w'=>∃v,e=.returned v∧Qcs w' v xs∧(∀b,Qbc v=some b→w.heap.size≤b)∧Below w.heap.size w w'
theorem Qxa {w:World} (a:Option Addr) (n c:Nat) (xs:List Nat) (hn:xs.length=n) (hc:Qaq w a (xs.map vi)) (h9:xs.length≤1000000) (hnil:a=none→c=0) :
  Calls Tryz.prog 132 #[.slice a n c] w (Ji2 w xs):=by
 subst hn
 cases a with
 | none =>
  have hx:xs=[]:=by
   rcases hc with h | ⟨_,_,h,_⟩
   ·simpa using h
   ·cases h
  subst hx;obtain rfl:=hnil rfl;have hnl:=fun w'=>Lib.run_eql_slice_nil_nil (P:=Tryz.prog) w' (t:=47) 0 0 Tryz.underlying47
  go_enter Tryz.func132,Tryz.ntmps132;go_wp2_with fail
  go_ret
  exact ⟨.slice none 0 0,rfl,Qcs.nil _,fun b hb=>(by cases hb),Below.refl _ _⟩
 | some d =>
  have HC0:=LH hc;have HO:Hid (Qcs (w.alloc (.cells #[] 3)) (.slice (some ⟨w.heap.size,0,none⟩) 0 0) []) :=
   LH (.inl ⟨rfl,.inr ⟨w.heap.size,0,#[],rfl,Nat.zero_le _,heap_alloc_new w _,Nat.le_refl _,Nat.zero_le _,rfl,rfl⟩⟩)
  have HB:=LH (Qaf w (.cells #[] 3));have HC:Hid (Qaq (w.alloc (.cells #[] 3)) (some d) (xs.map vi)):=LH (by
   rcases hc with h | ⟨b,off,e,h⟩
   ·exact .inl h
   ·exact .inr ⟨b,off,e,fun i v hi=>by
     have:=h i v hi
     rw [HB.out.cell (World.block_lt_of_cell? _ _ this)];exact this⟩)
  have HN:Hid (([]:List Nat).length+xs.length≤1000000000000):=LH (by simp;omega);have hnl:=fun w'=>Lib.run_eql_slice_some_nil (P:=Tryz.prog) w' (t:=47) d xs.length c Tryz.underlying47
  obtain ⟨l,hl⟩:∃l,l=xs.length:=⟨_,rfl⟩
  rw [← hl] at HN hnl ⊢;have HL:=LH hl.symm;clear hc hl h9 hnil;go_enter Tryz.func132,Tryz.ntmps132;go_wp2_with (at_builtin;refine Qbz (m:=l) HO.out HC.out HL.out HN.out rfl rfl rfl rfl ?_;intro v' w2 ho hg hr;have HO2:=LH ho;have HG2:=LH hg;have HR2:=LH hr;clear ho hg hr)
  go_ret
  refine ⟨_,rfl,by simpa using HO2.out,fun b hb=>?_,?_⟩
  ·rcases HR2.out b hb with h | h
   ·have:Qbc (.slice (some ⟨w.heap.size,0,none⟩) 0 0)=none:=rfl;rw [this] at h;cases h
   ·rw [h];exact HB.out.size
  ·have hg:World.grownBy _ w2 none:=HG2.out;exact HB.out.trans ((Qbq hg NR).mono HB.out.size)
end
section
theorem Qm9 (k c l : Int) (w : World) : Calls Tryz.prog 83 #[vhd k c l] w fun e w' => e = .returned (.bool (Qcg k c l)) ∧ Below w.heap.size w w' := by
  have HB := LH (Qaf w);go_enter Tryz.func83, Tryz.ntmps83;go_wp2_with fail
  all_goals
    go_ret
    refine ⟨Qd0 ?_, HB.out _⟩;clear HB;simp only [beq_iff_eq, beq_eq_false_iff_ne] at *
    first
      | exact Jao (by unfold Qb5; omega)
      | exact Qz2 (by unfold Qb5; omega)
      | (by_cases hl : l ≤ 255
         · exact (decide_eq_true hl).trans (Jao (by unfold Qb5; omega))
         · exact (decide_eq_false hl).trans (Qz2 (by unfold Qb5; omega)))
      | (by_cases hl : l = 0
         · exact (beq_iff_eq.2 hl).trans (Jao (by unfold Qb5; omega))
         · exact (beq_eq_false_iff_ne.2 hl).trans (Qz2 (by unfold Qb5; omega)))
theorem Qji (b k c l:Int) (hb0:0≤b) (hb1:b≤1000000) (w:World):Calls Tryz.prog 36 #[.int .i64 b,vhd k c l] w fun e w'=>e=.returned (Qad (Qeq b k c l))∧Below w.heap.size w w':=by
 have hb:=Qaf w (Obj.cells #[Value.int .i64 k,Value.int .i64 c,Value.int .i64 l] 105);have hg:=heap_alloc_new w (Obj.cells #[Value.int .i64 k,Value.int .i64 c,Value.int .i64 l] 105);go_enter Tryz.func36,Tryz.ntmps36;go_wp2_with fail;generalize w.alloc (Obj.cells #[Value.int .i64 k,Value.int .i64 c,Value.int .i64 l] 105)=w0 at *;refine (Qm9 k c l w0).mono ?_;rintro e w1 ⟨rfl,hb1⟩;have hgl:w.heap.size<w0.heap.size:=(Array.getElem?_eq_some_iff.1 hg).1;have hbb:=hb.trans (hb1.mono hb.size);have hg1:w1.heap[w.heap.size]?=_:=(hb1.block _ hgl).trans hg;have c0:w1.cell? ⟨w.heap.size,0,none⟩=some (.int .i64 k):=cell_of_row _ _ 0 _ _ _ hg1;have c1:w1.cell? ⟨w.heap.size,1,none⟩=some (.int .i64 c):=cell_of_row _ _ 1 _ _ _ hg1;have c2:w1.cell? ⟨w.heap.size,2,none⟩=some (.int .i64 l):=cell_of_row _ _ 2 _ _ _ hg1;clear hb hb1 hg hgl hg1
 cases hr:Qcg k c l
 ·have HE:Hid (Qeq b k c l=0):=LH (by unfold Qeq;rw [hr];rfl);clear hr;go_wp2_with fail
  go_ret
  exact ⟨Qau (by rw [HE.out];rfl),hbb⟩
 ·have HE:Hid (Qeq b k c l=Qgf (hdN k c l) (pl (256+b))):=LH (by unfold Qeq;rw [hr];rfl);have hn:=Qz3 hr;obtain ⟨⟨k0,k1⟩,⟨c0',c1'⟩,l0,l1⟩:=Qq2 hr;have HN:Hid (k+4*c+256*l=(hdN k c l:Int)):=LH (by unfold hdN;omega);clear hr;generalize hdN k c l=n at *;go_wp2_with fail;rw [HN.out];refine (Qno n _ hn _).mono ?_;rintro e w2 ⟨rfl,hb2⟩;rw [← HE.out];go_wp2_with fail
  go_ret
  exact ⟨rfl,hbb.trans (hb2.mono hbb.size)⟩
theorem Qu7 (b:Int) (x:Nat) (hb0:0≤b) (hb1':b≤1000000) (hx:x<18446744073709551616) (w:World) :
  Calls Tryz.prog 97 #[.int .i64 b,Qad x] w fun e w'=>e=.returned (Qge b x).val∧Below w.heap.size w w':=by
 have hbA:=Qaf w (Obj.cells #[Value.int .i64 0,Value.int .i64 0,Value.int .i64 0] 105);have hg:=heap_alloc_new w (Obj.cells #[Value.int .i64 0,Value.int .i64 0,Value.int .i64 0] 105);go_enter Tryz.func97,Tryz.ntmps97;go_wp2_with fail;generalize w.alloc (Obj.cells #[Value.int .i64 0,Value.int .i64 0,Value.int .i64 0] 105)=w0 at *;refine (Qsl x _ hx w0).mono ?_;rintro e w1 ⟨rfl,hbo⟩;have hgl:w.heap.size<w0.heap.size:=(Array.getElem?_eq_some_iff.1 hg).1;have hbb:=hbA.trans (hbo.mono hbA.size);have hg1:w1.heap[w.heap.size]?=_:=(hbo.block _ hgl).trans hg;clear hbA hbo hg hgl
 cases ho:Qeo x (pl (256+b)) with
 | none =>
  have HV:=LH (Qtt ho);clear ho;simp only [Qkb]
  go_wp2_with (refine Qa1 (cs:=#[.int .i64 0,.int .i64 0,.int .i64 0]) Qyw hg1 rfl rfl (by simp [Value.oneCell']) rfl rfl rfl rfl ?_;intro w2 hg2 hgr2 hs2)
  refine bodyPost_ret (Qac (p:=4) (u:=5) rfl _ _ _ _ _ _ _ rfl hg2 Tryz.underlying105 rfl (by kernel_rfl)) rfl ⟨by rw [HV.out];rfl,?_⟩;exact hbb.grown hgr2 hbb.size (fun k e=>by cases e;omega)
 | some n =>
  obtain ⟨hn,-⟩:=Qfk ho;have HK:=LH (Jau ho);have HRr:=LH (fun he=>Qn4 (b:=b) ho he);have HL:=LH (Qwp ho);clear ho;simp only [Qkb]
  obtain ⟨h4,h64,h6⟩:=Qwr n;go_wp2_with fail;rw [show (n:Int) % 4=((n % 4:Nat):Int) by omega,show (n:Int)/4 % 64=((n/4 % 64:Nat):Int) by omega,show (n:Int)/256 % 65536=((n/256 % 65536:Nat):Int) by omega];generalize n % 4=k at *;generalize n/4 % 64=c at *;generalize n/256 % 65536=l at *;have hb1:=Qaf w1 (Obj.cells #[Value.int .i64 (k:Int),Value.int .i64 (c:Int),Value.int .i64 (l:Int)] 105);have hg2:=heap_alloc_new w1 (Obj.cells #[Value.int .i64 (k:Int),Value.int .i64 (c:Int),Value.int .i64 (l:Int)] 105);generalize w1.alloc (Obj.cells #[Value.int .i64 (k:Int),Value.int .i64 (c:Int),Value.int .i64 (l:Int)] 105)=w2 at *;refine (Qji b k c l hb0 hb1' w2).mono ?_;rintro e w3 ⟨rfl,hb3⟩;have hgl:w.heap.size<w1.heap.size:=(Array.getElem?_eq_some_iff.1 hg1).1;have hgl2:w1.heap.size<w2.heap.size:=(Array.getElem?_eq_some_iff.1 hg2).1;have hb3':=hbb.trans ((hb1.trans (hb3.mono hb1.size)).mono hbb.size);have hg3:w3.heap[w.heap.size]?=_:=(hb3.block _ (by omega)).trans ((hb1.block _ hgl).trans hg1);have hg4:w3.heap[w1.heap.size]?=_:=(hb3.block _ hgl2).trans hg2;have he:=Qfx b k c l;clear hb1 hb3 hg1 hg2 hbb;generalize Qeq b k c l=y at *
  by_cases hyx:y=x
  ·have HV:=LH (HK.out hyx);have hrt:=HRr.out hyx;subst hyx;have d0:w3.cell? ⟨w1.heap.size,0,none⟩=some (.int .i64 k):=cell_of_row _ _ 0 _ _ _ hg4;have d1:w3.cell? ⟨w1.heap.size,1,none⟩=some (.int .i64 c):=cell_of_row _ _ 1 _ _ _ hg4;have d2:w3.cell? ⟨w1.heap.size,2,none⟩=some (.int .i64 l):=cell_of_row _ _ 2 _ _ _ hg4;go_wp2_with fail;refine (Qm9 k c l w3).mono ?_;rintro e w5 ⟨rfl,hb5⟩;have hb5':=hb3'.trans (hb5.mono hb3'.size);have hg3':w5.heap[w.heap.size]?=_:=(hb5.block _ (Array.getElem?_eq_some_iff.1 hg3).1).trans hg3;have hg4':w5.heap[w1.heap.size]?=_:=(hb5.block _ (Array.getElem?_eq_some_iff.1 hg4).1).trans hg4;have d0:w5.cell? ⟨w1.heap.size,0,none⟩=some (.int .i64 k):=cell_of_row _ _ 0 _ _ _ hg4';have d1:w5.cell? ⟨w1.heap.size,1,none⟩=some (.int .i64 c):=cell_of_row _ _ 1 _ _ _ hg4';have d2:w5.cell? ⟨w1.heap.size,2,none⟩=some (.int .i64 l):=cell_of_row _ _ 2 _ _ _ hg4';rw [hrt];clear hb5 hg3 hg4 hrt HRr HK HL;go_wp2_with (refine Qa1 (cs:=#[.int .i64 k,.int .i64 c,.int .i64 l]) Qyw hg3' rfl rfl (by simp [Value.oneCell']) rfl rfl rfl rfl ?_;intro w4 hg5 hgr4 hs4)
   refine bodyPost_ret (Qac (p:=4) (u:=5) rfl _ _ _ _ _ _ _ rfl hg5 Tryz.underlying105 rfl (by kernel_rfl)) rfl ⟨by rw [HV.out];rfl,?_⟩;exact hb5'.grown hgr4 hb5'.size (fun k e=>by cases e;omega)
  ·have HV:=LH (HL.out hyx);have hne:¬((y:Int)=(x:Int)):=by omega
   clear hyx;go_wp2_with (refine Qa1 (cs:=#[.int .i64 0,.int .i64 0,.int .i64 0]) Qyw hg3 rfl rfl (by simp [Value.oneCell']) rfl rfl rfl rfl ?_;intro w4 hg5 hgr4 hs4)
   refine bodyPost_ret (Qac (p:=4) (u:=5) rfl _ _ _ _ _ _ _ rfl hg5 Tryz.underlying105 rfl (by kernel_rfl)) rfl ⟨by rw [HV.out];rfl,?_⟩;exact hb3'.grown hgr4 hb3'.size (fun k e=>by cases e;omega)
end
end Go.Proofs.YtpohaahihdhleaaGreat
