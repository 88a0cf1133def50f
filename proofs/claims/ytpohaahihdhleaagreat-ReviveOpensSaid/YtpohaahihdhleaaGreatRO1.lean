/- Parts of the proof of one statement of the seat. -/
import Derived.Laws.BitsAllLaws
import Derived.Maps.OwnOps
import Derived.Maps.OwnSet
import Derived.Maps.Views
import Derived.Test.YtpohaahihdhleaaGreatRows
import Derived.WalkKit
import Derived.WalkSpells
import Derived.WalkLawsBesides
import Derived.Lib.Hide
import Derived.Deep.Onto
import Derived.Lib.ConvBytes
import Derived.Laws.AppendOwnNone
import Derived.Deep.WholeRow
import Derived.Laws.BytesArg
import Derived.Deep.QuietTactic
import Derived.BigQuiet
set_option linter.unusedVariables false
set_option maxHeartbeats 16000000
set_option maxRecDepth 100000
open Go.RowKit
namespace Go.Proofs.YtpohaahihdhleaaGreat
section
theorem LH {p:Prop} (h:p):RowKit.Hid p:=Lib.hid h
theorem NR {n:Nat}:n≤n:=Nat.le_refl n
theorem GE {α:Type _} {l:List α} {i:Nat} (h:i<l.length):l[i]?=some l[i]:=List.getElem?_eq_getElem h
theorem GD {α:Type _} {l:List α} {i:Nat} {a:α}:l.getD i a=l[i]?.getD a:=List.getD_eq_getElem?_getD
def Jgy (ws:List Nat) (i:Nat):Bool:=(ws.getD (i/64) 0).testBit (i % 64)
structure Qeu (ws:List Nat) (l:List Bool):Prop where
 len:ws.length=(l.length+63)/64
 lt:∀z∈ws,z<18446744073709551616
 bit:∀i,Jgy ws i=l.getD i false
theorem Qeu.getD_lt {ws:List Nat} {l:List Bool} (h:Qeu ws l) (i:Nat):ws.getD i 0<18446744073709551616:=by
 rw [GD]
 by_cases c:i<ws.length
 ·rw [GE c];exact h.lt _ (List.getElem_mem c)
 ·rw [List.getElem?_eq_none (by omega)];simp
theorem Jc2 (n:Nat):Qeu (List.replicate ((n+63)/64) 0) (List.replicate n false):=by
 refine ⟨by simp,fun z hz=>by rw [List.eq_of_mem_replicate hz];decide,fun i=>?_⟩;have h1:(List.replicate ((n+63)/64) 0).getD (i/64) 0=0:=by
  rw [GD,List.getElem?_replicate];split <;> rfl
 have h2:(List.replicate n false).getD i false=false:=by
  rw [GD,List.getElem?_replicate];split <;> rfl
 unfold Jgy;rw [h1,h2,Nat.zero_testBit]
theorem Qeu.word {ws:List Nat} {l:List Bool} (h:Qeu ws l) {i:Nat} (hi:i<l.length):i/64<ws.length:=by
 rw [h.len];omega
theorem Qkq (l:List Bool) (a i:Nat) (v:Bool) (ha:a<l.length):(l.set a v).getD i false=if i=a then v else l.getD i false:=by
 rw [GD,List.getElem?_set,GD]
 by_cases e:a=i
 ·subst e;simp [ha]
 ·rw [if_neg e,if_neg (fun c=>e c.symm)]
theorem Qeu.set {ws:List Nat} {l:List Bool} (h:Qeu ws l) {a:Nat} (ha:a<l.length) (v:Bool) {x:Nat} (hx:x<18446744073709551616)
  (hb:∀j,j<64→x.testBit j=if j=a % 64 then v else (ws.getD (a/64) 0).testBit j):Qeu (ws.set (a/64) x) (l.set a v):=by
 refine ⟨by simp [h.len],fun z hz=>?_,fun i=>?_⟩
 ·rcases List.mem_or_eq_of_mem_set hz with hz | rfl
  ·exact h.lt z hz
  ·exact hx
 ·have hw:=h.word ha;have h0:=h.bit i;unfold Jgy at h0 ⊢;rw [GD,List.getElem?_set]
  by_cases e:a/64=i/64
  ·rw [if_pos e,if_pos hw];simp only [Option.getD_some]
   rw [hb _ (Nat.mod_lt _ (by decide)),Qkq l a i v ha]
   by_cases e2:a=i
   ·subst e2;simp
   ·rw [if_neg (by omega),if_neg (fun c=>e2 c.symm),e,h0]
  ·have e2:a≠i:=fun c=>e (by rw [c])
   rw [if_neg e,← GD,h0,Qkq l a i v ha,if_neg (fun c=>e2 c.symm)]
theorem Jhb (x k:Nat) (_hk:k<64) (j:Nat) (_hj:j<64):(x ||| 2 ^ k).testBit j=if j=k then true else x.testBit j:=by
 rw [Nat.testBit_or,Nat.testBit_two_pow]
 by_cases e:j=k
 ·subst e;simp
 ·have:¬k=j:=fun c=>e c.symm
  simp [e,this]
theorem Jfz (x k:Nat) (hx:x<18446744073709551616) (hk:k<64):x ||| 2 ^ k<18446744073709551616 :=
 Nat.or_lt_two_pow (n:=64) hx (Nat.pow_lt_pow_right (by decide) hk)
theorem Qeu.add {ws:List Nat} {l:List Bool} (h:Qeu ws l) {a:Nat} (ha:a<l.length):Qeu (ws.set (a/64) (ws.getD (a/64) 0 ||| 2 ^ (a % 64))) (l.set a true) :=
 h.set ha true (Jfz _ _ (h.getD_lt _) (Nat.mod_lt _ (by decide))) (Jhb _ _ (Nat.mod_lt _ (by decide)))
theorem Qoq (x k:Nat):(x/2 ^ k % 2=1)↔x.testBit k=true:=by
 rw [Nat.testBit_eq_decide_div_mod_eq];simp
def Qx2 (x k:Nat):Prop:=k<64∧x.testBit k=true∧∀j,j<k→x.testBit j=false
theorem Qwz {x k:Nat} (h:Qx2 x k):∃m,x=2 ^ k*(2*m+1):=by
 obtain ⟨_,h1,h2⟩:=h;have e:x % 2 ^ k=0:=by
  apply Nat.eq_of_testBit_eq
  intro i;rw [Nat.testBit_mod_two_pow,Nat.zero_testBit]
  by_cases c:i<k
  ·simp [h2 i c]
  ·simp [c]
 have e2:=(Qoq x k).2 h1;refine ⟨x/2 ^ k/2,?_⟩;have e3:2*(x/2 ^ k/2)+1=x/2 ^ k:=by omega
 rw [e3];have:=Nat.div_add_mod x (2 ^ k);omega
theorem Jgg {x k:Nat} (h:Qx2 x k) (hx:x<18446744073709551616):x &&& (18446744073709551616-x)=2 ^ k:=by
 obtain ⟨m,hm⟩:=Qwz h;have hk:=h.1;have p:0<2 ^ k:=Nat.two_pow_pos k;have hxp:0<x:=by rw [hm];exact Nat.mul_pos p (by omega)
 have hy:x-1=2 ^ k*(2*m)+(2 ^ k-1):=by rw [hm,Nat.mul_add,Nat.mul_one];omega
 have e:18446744073709551616-x=2 ^ 64-(x-1+1):=by omega
 apply Nat.eq_of_testBit_eq
 intro i;rw [Nat.testBit_and,e,Nat.testBit_two_pow_sub_succ (by omega),Nat.testBit_two_pow];rcases Nat.lt_trichotomy i k with c | rfl | c
 ·rw [h.2.2 i c];have:¬k=i:=by omega
  simp [this]
 ·rw [h.2.1];have:(x-1).testBit i=false:=by
   rw [hy,Nat.testBit_two_pow_mul_add _ (by omega)];simp
  simp [this,hk]
 ·have c1:¬k=i:=by omega
  have a1:x.testBit i=(2*m+1).testBit (i-k):=by
   have:=Nat.testBit_two_pow_mul_add (i:=k) (b:=0) (2*m+1) p i;rw [Nat.add_zero] at this;rw [hm,this,if_neg (by omega)]
  have a2:(x-1).testBit i=(2*m).testBit (i-k):=by
   rw [hy,Nat.testBit_two_pow_mul_add _ (by omega),if_neg (by omega)]
  obtain ⟨d,hd⟩:∃d,i-k=d+1:=⟨i-k-1,by omega⟩
  rw [a1,a2,hd,Nat.testBit_succ,Nat.testBit_succ];have:(2*m+1)/2=2*m/2:=by omega
  rw [this,decide_eq_false c1]
  cases (2*m/2).testBit d <;> simp
theorem Qyz {x:Nat} (h0:x≠0) (hx:x<18446744073709551616):∃k,Qx2 x k:=by
 have hex:∃k,x.testBit k=true:=by
  apply Classical.byContradiction
  intro hc
  apply h0
  apply Nat.eq_of_testBit_eq
  intro i;rw [Nat.zero_testBit]
  cases hb:x.testBit i with
  | false=>rfl
  | true=>exact absurd ⟨i,hb⟩ hc
 have hm:∀n,(∃k,k<n∧x.testBit k=true)→∃k,x.testBit k=true∧∀j,j<k→x.testBit j=false:=by
  intro n
  induction n with
  | zero=>rintro ⟨k,hk,_⟩;omega
  | succ n ih =>
   rintro ⟨k,hk,hb⟩
   by_cases c:∃k,k<n∧x.testBit k=true
   ·exact ih c
   ·refine ⟨k,hb,fun j hj=>?_⟩
    cases hj2:x.testBit j with
    | false=>rfl
    | true=>exact absurd ⟨j,by omega,hj2⟩ c
 obtain ⟨k,hk⟩:=hex;obtain ⟨k,h1,h2⟩:=hm (k+1) ⟨k,by omega,hk⟩;refine ⟨k,?_,h1,h2⟩
 apply Classical.byContradiction
 intro hc;rw [Nat.testBit_lt_two_pow (Nat.lt_of_lt_of_le hx (Nat.pow_le_pow_right (n:=2) (by decide) (show 64≤k by omega)))] at h1
 cases h1
theorem Jc4 (x r i:Nat):(x/2 ^ r*2 ^ r).testBit i=(decide (r≤i) && x.testBit i):=by
 rw [Nat.mul_comm,Nat.testBit_two_pow_mul]
 by_cases c:r≤i
 ·rw [Nat.testBit_div_two_pow,show i-r+r=i by omega]
 ·simp [c]
def Qes (l:List Bool) (a:Nat):Option Nat:=((l.drop a).findIdx? id).map (· + a)
theorem Qyn {l:List Bool} {a i:Nat} (h1:a≤i) (h2:l.getD i false=true) (h3:∀j,a≤j→j<i→l.getD j false=false):Qes l a=some i:=by
 unfold Qes;have hi:i<l.length:=by
  apply Classical.byContradiction
  intro c;rw [GD,List.getElem?_eq_none (by omega)] at h2;simp at h2
 have:(l.drop a).findIdx? id=some (i-a):=by
  rw [List.findIdx?_eq_some_iff_getElem];refine ⟨by simp;omega,?_,fun j hj=>?_⟩
  ·rw [GD,GE hi] at h2;simp only [List.getElem_drop]
   simpa [show a+(i-a)=i by omega] using h2
  ·have:=h3 (a+j) (by omega) (by omega);rw [GD,GE (by omega)] at this;simpa using this
 rw [this];simp;omega
theorem Qpp {l:List Bool} {a:Nat} (h:∀j,a≤j→l.getD j false=false):Qes l a=none:=by
 unfold Qes;have:(l.drop a).findIdx? id=none:=by
  rw [List.findIdx?_eq_none_iff];intro x hx;obtain ⟨j,hj,rfl⟩:=List.mem_iff_getElem.1 hx;have:=h (a+j) (by omega);simp at hj
  rw [GD,GE (by omega)] at this;simpa using this
 rw [this];rfl
theorem Qwd {l:List Bool} {a i:Nat} (h:Qes l a=some i):a≤i∧l.getD i false=true∧i<l.length∧∀j,a≤j→j<i→l.getD j false=false:=by
 unfold Qes at h
 cases hf:(l.drop a).findIdx? id with
 | none=>rw [hf] at h;cases h
 | some k =>
  rw [hf] at h;obtain rfl:k+a=i:=by simpa using h
  rw [List.findIdx?_eq_some_iff_getElem] at hf;obtain ⟨hk,h1,h2⟩:=hf;simp at hk
  refine ⟨by omega,?_,by omega,fun j h3 h4=>?_⟩
  ·rw [GD,GE (by omega)];simpa [Nat.add_comm] using h1
  ·have:=h2 (j-a) (by omega);rw [GD,GE (by omega)];simpa [show a+(j-a)=j by omega] using this
theorem Jcd {l:List Bool} {a:Nat} (h:Qes l a=none):∀j,a≤j→l.getD j false=false:=by
 intro j hj
 cases hb:l.getD j false with
 | false=>rfl
 | true =>
  exfalso
  have hl:j<l.length:=by
   apply Classical.byContradiction
   intro c;rw [GD,List.getElem?_eq_none (by omega)] at hb;simp at hb
  unfold Qes at h;rw [Option.map_eq_none_iff,List.findIdx?_eq_none_iff] at h;have:=h l[j] (by rw [List.mem_iff_getElem];exact ⟨j-a,by simp;omega,by simp [show a+(j-a)=j by omega]⟩);rw [GD,GE hl] at hb;simp at this hb
  rw [this] at hb;cases hb
def Qey (l:List Bool):List Nat:=(List.range l.length).filter (fun i=>l.getD i false)
def Qmm (l:List Bool) (a:Nat):List Nat:=(Qey l).filter (fun i=>decide (a≤i))
theorem Qy7 (l:List Bool):Qmm l 0=Qey l:=by unfold Qmm;simp
theorem Qna (n a:Nat) (h:a≤n):List.range n=List.range a ++ (List.range (n-a)).map (a + ·):=by
 have:n=a+(n-a):=by omega
 rw [this,List.range_add,show a+(n-a)-a=n-a by omega]
theorem Qv9 (l:List Bool) (a:Nat) (h:a≤l.length):Qmm l a=((List.range (l.length-a)).map (a + ·)).filter (fun i=>l.getD i false):=by
 unfold Qmm Qey;rw [Qna l.length a h,List.filter_append,List.filter_append];have e1:(List.filter (fun i=>decide (a≤i)) (List.filter (fun i=>l.getD i false) (List.range a)))=[]:=by
  rw [List.filter_eq_nil_iff];intro x hx;have:=List.mem_range.1 (List.mem_filter.1 hx).1;simp;omega
 rw [e1,List.nil_append,List.filter_eq_self];intro x hx;obtain ⟨j,_,rfl⟩:=List.mem_map.1 (List.mem_filter.1 hx).1;simp
theorem Qxc {l:List Bool} {a i:Nat} (h:Qes l a=some i):Qmm l a=i :: Qmm l (i+1):=by
 obtain ⟨h1,h2,h3,h4⟩:=Qwd h;rw [Qv9 l a (by omega),Qv9 l (i+1) (by omega)];have e:List.range (l.length-a)=List.range (i-a) ++ (List.range (l.length-a-(i-a))).map ((i-a) + ·):=Qna _ _ (by omega);obtain ⟨m,hm⟩:∃m,l.length-a-(i-a)=m+1:=⟨l.length-i-1,by omega⟩
 rw [e,hm,List.range_succ_eq_map,List.map_append,List.filter_append];have e1:List.filter (fun i=>l.getD i false) (List.map (a + ·) (List.range (i-a)))=[]:=by
  rw [List.filter_eq_nil_iff];intro x hx;obtain ⟨j,hj,rfl⟩:=List.mem_map.1 hx;have:=List.mem_range.1 hj;rw [h4 (a+j) (by omega) (by omega)];simp
 rw [e1,List.nil_append];simp only [List.map_cons,List.map_map]
 rw [List.filter_cons,if_pos (by simpa [show a+(i-a)=i by omega] using h2)];rw [show a+(i-a+0)=i by omega,show l.length-(i+1)=m by omega]
 congr 2
 apply List.map_congr_left
 intro x _;simp only [Function.comp_apply]
 omega
theorem Qxd {l:List Bool} {a:Nat} (h:Qes l a=none):Qmm l a=[]:=by
 unfold Qmm Qey;rw [List.filter_filter,List.filter_eq_nil_iff];intro x _;simp only [Bool.and_eq_true,decide_eq_true_eq,not_and]
 intro h1;rw [Jcd h x h1];simp
theorem Jcq {l:List Bool} {i:Nat} : i∈Qey l↔l.getD i false=true:=by
 unfold Qey;rw [List.mem_filter,List.mem_range];refine ⟨fun h=>h.2,fun h=>⟨?_,h⟩⟩
 apply Classical.byContradiction
 intro c;rw [GD,List.getElem?_eq_none (by omega)] at h;simp at h
theorem Qse (l:List Bool):(Qey l).length=l.count true:=by
 have:∀(l:List Bool) (k:Nat),((List.range l.length).filter (fun i=>l.getD i false)).length=l.count true:=by
  intro l k
  induction l with
  | nil=>rfl
  | cons b t ih =>
   rw [List.length_cons,List.range_succ_eq_map,List.filter_cons,List.filter_map,List.count_cons];have e:(fun i=>(b :: t).getD i false) ∘ Nat.succ=fun i=>t.getD i false:=by funext i;simp
   rw [e]
   cases b <;> (simp at ih ⊢;exact ih)
 exact this l 0
theorem Qo3 {l:List Bool} {a:Nat} (ha:a<l.length) (h:l.getD a false=false):(l.set a true).count true=l.count true+1:=by
 have:=List.count_set (a:=true) (b:=true) ha;rw [GD,GE ha] at h;simp at h
 rw [this,h];simp
theorem Qlw (l:List Bool):l.count true≤l.length:=List.count_le_length
inductive Rch (ok:Nat→Prop) (P:Nat→List Nat) (from_:List Nat):Nat→Prop
 | base {x:Nat} (h:x∈from_) (hx:ok x):Rch ok P from_ x
 | step {y x:Nat} (hy:Rch ok P from_ y) (h:x∈P y) (hx:ok x):Rch ok P from_ x
theorem Rch.ok' {ok:Nat→Prop} {P:Nat→List Nat} {f:List Nat} {x:Nat} (h:Rch ok P f x):ok x:=by cases h <;> assumption
section
variable {ok:Nat→Prop} {P:Nat→List Nat} {f seen rest:List Nat}
end
structure Mk where
 ms:List Bool
 sc:List Bool
 st:List Nat
 most:Nat
 miss:Nat
 again:Bool
 cur:Nat
section
variable {U:List Bool} {P:Nat→List Nat} {M:Mk}
end
end
section
open Go.Maps Go.ChangeMaps
def Qgi (v:Value):Option (DataW Value × List MemPlace):=some (.held v,[])
open Classical in
noncomputable def Jfs (M:Lit→Option Value) (x:Lit) (v:Option Value):Lit→Option Value:=fun y=>if y=x then v else M y
theorem Qoj (M:Lit→Option Value) (x:Lit) (v:Option Value):Jfs M x v x=v:=by unfold Jfs;rw [if_pos rfl]
theorem Qk8 (M:Lit→Option Value) {x y:Lit} (h:y≠x) (v:Option Value):Jfs M x v y=M y:=by unfold Jfs;rw [if_neg h]
structure Qma (D:DataW Value) (M:Lit→Option Value):Prop where
 isMap:IsMap D
 has:∀x,WideAt.IsKeyLit x→has D x=(M x).isSome
 val:∀x v,WideAt.IsKeyLit x→M x=some v→∀z,D.atKey x z=.held v
theorem Qma.get {D:DataW Value} {M:Lit→Option Value} (h:Qma D M) {x:Lit} (hx:WideAt.IsKeyLit x) (z:Value):D.atKey x (.held z)=.held ((M x).getD z):=by
 cases hm:M x with
 | none=>rw [atKey_of_not_has (by rw [h.has x hx,hm];rfl)];rfl
 | some c=>rw [h.val x c hx hm];rfl
theorem Qya:Qma (.map []) fun _=>none:=⟨isMap_empty,fun _ _=>rfl,fun _ _ _ h=>by cases h⟩
theorem Qma.put {D:DataW Value} {M:Lit→Option Value} (h:Qma D M) {x:Lit} (hx:WideAt.IsKeyLit x) (v:Value) :
  Qma (D.put x (.held v)) (Jfs M x (some v)):=by
 refine ⟨h.isMap.put _ _,fun y hy=>?_,fun y d hy hd z=>?_⟩
 ·by_cases e:y=x
  ·subst e;rw [has_put_same h.isMap hx,Qoj];rfl
  ·rw [has_put_other e,Qk8 _ e,h.has y hy]
 ·by_cases e:y=x
  ·subst e;rw [Qoj] at hd;cases hd;rw [atKey_put_same h.isMap hx]
  ·rw [Qk8 _ e] at hd;rw [atKey_put_other e,h.val y d hy hd]
def Qm1 (P:Program) (k:TypeId) (w:World) (b n:Nat) (M:Lit→Option Value):Prop :=
 ∃D:DataW Value,w.ownsMap P k Qgi b n D∧Qma D M
section
variable {P:Program} {k e t:TypeId} {w:World} {b n:Nat} {M:Lit→Option Value} {ops:Array Oper} {rest:List Oper} {o:Oper} {a:Act} {Q:Exit→Act→World→Prop}
theorem Qm1.mono {n':Nat} (h:Qm1 P k w b n M) (hn:n≤n'):Qm1 P k w b n' M:=by
 obtain ⟨D,ho,ht⟩:=h;exact ⟨D,ho.mono hn,ht⟩
theorem Qm1.lt (h:Qm1 P k w b n M):b<w.heap.size:=by obtain ⟨D,ho,_⟩:=h;exact ho.lt
theorem Qm1.made (w:World) (P:Program) (k:TypeId):Qm1 P k (w.alloc (.map #[] 0)) w.heap.size 0 fun _=>none :=
 ⟨.map [],World.ownsMap_made w P k _,Qya⟩
theorem Qm1.block (h:Qm1 P k w b n M) {w':World} (he:w'.heap[b]?=w.heap[b]?):Qm1 P k w' b n M:=by
 obtain ⟨D,⟨es,clock,hb,F,hs,hD⟩,ht⟩:=h;exact ⟨D,⟨es,clock,he.trans hb,F,hs,hD⟩,ht⟩
theorem Qm1.look (K:Keyed P k) (ht:P.underlying t=some (.map k e)) {z:Value} (hz:(zeroValue e).run P w=.ok z w) (h:Qm1 P k w b n M) {key:Value} {kl:Lit} (hkey:keyOf P k key=some kl) :
  (Instr.lookup t (.map (some b)) key false).run P w=.ok ((M kl).getD z) w:=by
 obtain ⟨D,ho,hT⟩:=h;obtain ⟨v,ps,hrun,hv⟩:=ho.lookup K ht hz (zd:=.held z) (zp:=[]) rfl hkey;rw [hT.get (K.key hkey)] at hv;have:v=(M kl).getD z:=by
  simp only [Qgi,Option.some.injEq,Prod.mk.injEq,DataW.held.injEq] at hv
  exact hv.1
 rw [← this];exact hrun
theorem Qmd (hg:o.guard=none) (m x:Operand) (t:TypeId) (hop:o.op=Op.lookup t m x false)
  (k e:TypeId) (K:Keyed P k) (ht:P.underlying t=some (.map k e)) (z:Value) (hz:(zeroValue e).run P w=.ok z w) (b n:Nat) (M:Lit→Option Value)
  (hm:a.eval m=.map (some b)) (hown:Qm1 P k w b n M) (key:Value) (kl:Lit) (hx:a.eval x=key) (hkey:keyOf P k key=some kl)
  (hK:wpList P ops Q rest (a.put o.dst ((M kl).getD z)) w) :
  wpList P ops Q (o :: rest) a w:=by
 refine wpList_plain hg fun K' hK'=>?_
 have hrun:=hown.look K ht hz hkey;unfold Oper.wp;simp [execOp,hop,hm,hx,hrun,Result.andThen]
 exact hK' _ _ hK
theorem Qq7 (hg:o.guard=none) (m x v:Operand) (t:TypeId) (hop:o.op=Op.mapUpdate t m x v)
  (k e:TypeId) (K:Keyed P k) (ht:P.underlying t=some (.map k e)) (b n:Nat) (M:Lit→Option Value)
  (hm:a.eval m=.map (some b)) (hown:Qm1 P k w b n M) (hn:n<maxLen) (key val:Value) (kl:Lit) (hx:a.eval x=key) (hv:a.eval v=val) (hkey:keyOf P k key=some kl)
  (hK:∀w',Qm1 P k w' b (n+1) (Jfs M kl (some val))→w.grownBy w' (some b)→wpList P ops Q rest (a.put o.dst undef) w') :
  wpList P ops Q (o :: rest) a w:=by
 obtain ⟨D,ho,hT⟩:=hown;exact wpList_mapUpdate_own w hg m x v t hop k e K ht Qgi b n D hm ho hn key val kl hx hv hkey (.held val) [] rfl fun w' h1 h2=>hK w' ⟨_,h1,hT.put (K.key hkey) val⟩ h2
end
def Qk7 (a b:Int):Lit:=.string (keyBytes [.int .i64 a,.int .i64 b])
end
section
structure FL where
 g:Nat→List Nat
 c:Nat→Nat→List Nat
def FL.empty:FL:=⟨fun _=>[],fun _ _=>[]⟩
def FL.setG (S:FL) (k:Nat) (l:List Nat):FL:=⟨fun j=>if j=k then l else S.g j,S.c⟩
def FL.has (S:FL) (k a:Nat):Bool:=(S.g k).contains a || (S.c 0 k).contains a || (S.c 1 k).contains a || (S.c 2 k).contains a || (S.c 3 k).contains a
def FL.pushed (S:FL) (k a:Nat):FL:=if S.has k a then S else S.setG k (S.g k ++ [a])
theorem FL.setG_g (S:FL) (k j:Nat) (l:List Nat):(S.setG k l).g j=if j=k then l else S.g j:=rfl
theorem FL.setG_c (S:FL) (k i j:Nat) (l:List Nat):(S.setG k l).c i j=S.c i j:=rfl
def FL.carve (S:FL) (used:Nat→Bool) (at_:Nat→Nat) (k:Nat):Nat→FL
 | 0=>S
 | n+1=>(if used (at_ n) then S else S.pushed k (at_ n)).carve used at_ k n
end
section
abbrev Qad (n:Nat):Value:=.int .u64 (n:Int)
abbrev vu8 (n:Nat):Value:=.int .u8 (n:Int)
def Jac (s:ByteArray):List Nat:=s.data.toList.map UInt8.toNat
theorem Jgt (s:ByteArray):∀z∈Jac s,z<256:=by
 intro z hz;simp only [Jac,List.mem_map] at hz
 obtain ⟨u,_,rfl⟩:=hz;exact u.toNat_lt
def Qaq (w:World) (a:Option Addr) (vs:List Value):Prop :=
 vs=[]∨∃b off,a=some ⟨b,off,none⟩∧∀i v,vs[i]?=some v→w.cell? ⟨b,off+i,none⟩=some v
theorem Qaq.nil (w:World) (a:Option Addr):Qaq w a []:=.inl rfl
theorem Qaq.at {w:World} {a:Option Addr} {vs:List Value} (h:Qaq w a vs) {i:Nat} (hi:i<vs.length) :
  ∃b off,a=some ⟨b,off,none⟩∧b<w.heap.size∧∀i v,vs[i]?=some v→w.cell? ⟨b,off+i,none⟩=some v:=by
 rcases h with rfl | ⟨b,off,rfl,hc⟩
 ·simp at hi
 ·exact ⟨b,off,rfl,World.block_lt_of_cell? _ _ (hc i _ (GE hi)),hc⟩
theorem Qaq.atMap {α:Type} {f:α→Value} {w:World} {a:Option Addr} {xs:List α} (h:Qaq w a (xs.map f)) (d:α) {i:Nat} (hi:i<xs.length) :
  ∃b off,a=some ⟨b,off,none⟩∧b<w.heap.size∧∀i,i<xs.length→w.cell? ⟨b,off+i,none⟩=some (f (xs.getD i d)):=by
 obtain ⟨b,off,rfl,hb,hc⟩:=h.at (i:=i) (by simpa using hi);exact ⟨b,off,rfl,hb,fun j hj=>hc j _ (by simp [hj])⟩
theorem Qaq.below {w w':World} {a:Option Addr} {vs:List Value} {B:Nat} (h:Qaq w a vs) (hb:Below B w w') (hB:w.heap.size≤B):Qaq w' a vs:=by
 rcases h with hn | ⟨b,off,rfl,hc⟩
 ·exact .inl hn
 ·refine .inr ⟨b,off,rfl,fun i v hi=>?_⟩;rw [hb.cell (p:=⟨b,off+i,none⟩) (Nat.lt_of_lt_of_le (World.block_lt_of_cell? _ _ (hc i v hi)) hB)];exact hc i v hi
theorem Qaq.owned {w:World} {base e n cap:Nat} {a:Option Addr} {xs:List Value} (h:w.ownsRow base e 1 (.slice a n cap) n xs):Qaq w a xs:=by
 rcases h.2 with ⟨_,h0⟩|⟨g,cap',cur,hv,_⟩
 ·exact .inl (List.eq_nil_of_length_eq_zero (by have:=h.1;omega))
 ·refine .inr ⟨g,0,by simp at hv;exact hv.1,fun i v hi=>?_⟩;simp at hv
  obtain ⟨rfl,_⟩:=hv;have:=h.cells (g:=g) rfl i v hi;have ha:(⟨g,0,none⟩:Addr).add i=⟨g,0+i,none⟩:=by unfold Addr.add;split <;> simp_all
  rwa [ha] at this
theorem Qaq.drop {w:World} {b off:Nat} {vs:List Value} (h:Qaq w (some ⟨b,off,none⟩) vs) (k:Nat):Qaq w (some ⟨b,off+k,none⟩) (vs.drop k):=by
 rcases h with rfl | ⟨b',off',he,hc⟩
 ·exact .inl (by simp)
 ·simp at he
  obtain ⟨rfl,rfl⟩:=he;refine .inr ⟨b,off+k,rfl,fun i v hi=>?_⟩;rw [List.getElem?_drop] at hi;rw [Nat.add_assoc];exact hc _ _ hi
theorem Qaq.take {w:World} {a:Option Addr} {vs:List Value} (h:Qaq w a vs) (k:Nat):Qaq w a (vs.take k):=by
 rcases h with rfl | ⟨b,off,rfl,hc⟩
 ·exact .inl (by simp)
 ·refine .inr ⟨b,off,rfl,fun i v hi=>?_⟩;rw [List.getElem?_take] at hi
  split at hi
  ·exact hc _ _ hi
  ·simp at hi
theorem Qbe {w:World} {base e size n:Nat} {v:Value} {xs:List Value} (h:w.ownsRow base e size v n xs):∃a cap,v=.slice a n cap∧n≤cap∧cap≤maxLen:=by
 rcases h.2 with ⟨rfl,rfl⟩|⟨g,cap,cur,rfl,_,_,h1,h2,_⟩
 ·exact ⟨none,0,rfl,Nat.le_refl _,Nat.zero_le _⟩
 ·exact ⟨_,_,rfl,h1,h2⟩
theorem Qcc {w w':World} {base e size n B:Nat} {v:Value} {xs:List Value} (h:w.ownsRow base e size v n xs) (hb:Below B w w') (hB:w.heap.size≤B):w'.ownsRow base e size v n xs:=by
 refine ⟨h.1,?_⟩;rcases h.2 with hn | ⟨g,cap,cur,rfl,h1,hg,r⟩
 ·exact .inl hn
 ·exact .inr ⟨g,cap,cur,rfl,h1,by rw [hb.block g (Nat.lt_of_lt_of_le (Array.getElem?_eq_some_iff.1 hg).1 hB)];exact hg,r⟩
theorem Qat (w:World) (cs:Array Value) (t:TypeId) (j:Nat) (v:Value) (h:cs[j]?=some v):(w.alloc (.cells cs t)).cell? ⟨w.heap.size,j,none⟩=some v:=by
 rw [cell_of_row _ _ j cs t (0,0) (heap_alloc_new w _)];exact h
theorem Qaf (w:World) (o:Obj):Below w.heap.size w (w.alloc o):=(Below.refl _ _).alloc NR o
theorem Qiu {w w':World} {v:Value} {base e size n g:Nat} {xs:List Value} {o:Obj} (hg:w.grownBy w' v.ownBlock) (ho:w.ownsRow base e size v n xs) (hb:g<base) (h:w.heap[g]?=some o):w'.heap[g]?=some o:=by
 rw [hg.block g (Array.getElem?_eq_some_iff.1 h).1 (fun c=>by have:=(ho.lt g c.symm).1;omega)];exact h
theorem Qbq {B:Nat} {w w':World} (h:w.grownBy w' none) (hB:B≤w.heap.size):Below B w w':=(Below.refl B w).grown h hB (fun _ e=>by cases e)
theorem Qp7 (v:Value) (n:Nat) (h:v.cells=#[v]):(madeCells v.cells (n*1)).toList=List.replicate n v:=by
 rw [h,Nat.mul_one]
 apply List.ext_getElem
 ·simp [madeCells]
 ·intro i h1 h2;simp [madeCells,Nat.mod_one]
structure Qgg (P:Program) (t e:TypeId) (z:Value) (size bytes:Nat):Prop where
 under:P.underlying t=some (.slice e)
 info:∃i,P.info? e=some i∧i.zero=some z∧i.size=size∧i.bytes=bytes
 cells:z.cells.size=size
 pos:0<size
theorem Qgg.mk' {P:Program} {t e:TypeId} {z:Value} {size bytes:Nat} (h1:P.underlying t=some (.slice e)) (h2:(P.info? e).map (fun i=>(i.zero,i.size,i.bytes))=some (some z,size,bytes)) (h3:z.cells.size=size) (h4:0<size):Qgg P t e z size bytes :=
 ⟨h1,info_parts h2,h3,h4⟩
section laws
variable {P:Program} {w:World} {ops:Array Oper} {rest:List Oper} {o:Oper} {a:Act} {Q:Exit→Act→World→Prop}
theorem Qhx {w w':World} {ob:Obj} {row:Option Nat} (h:(w.alloc ob).grownBy w' row):w.grownBy w' row :=
 ⟨h.os,h.tape,h.output,Nat.le_trans (by simp) h.size,fun k hk hr=>(h.block k (by simp;omega) hr).trans (Below.heap_alloc w ob k hk)⟩
theorem Qdy {s x:Operand} {t e:TypeId} {z:Value} {bytes base n:Nat} {v u:Value} {xs:List Value} (E:Qgg P t e z 1 bytes)
  (hown:w.ownsRow base e 1 v n xs) (hu:u.oneCell'=true) (hn:n<1000000000000) (hby:bytes≤64) (hbase:base≤w.heap.size)
  (hgd:o.guard=none) (ho:o.op=.call { callee:=.builtin .append,args:=#[s,x],argTypes:=#[t,t] })
  (hs:a.eval s=v) (hx:a.eval x=.slice (some ⟨w.heap.size,0,none⟩) 1 1)
  (hK:∀v' w',w'.ownsRow base e 1 v' (n+1) (xs ++ [u])→w.grownBy w' v.ownBlock→v'≠.slice none 0 0→wpList P ops Q rest (a.put o.dst v') w') :
  wpList P ops Q (o :: rest) a (w.alloc (.cells #[u] e)):=by
 obtain ⟨i,h1,h2,h3,h4⟩:=E.info;refine wpList_append_own _ hgd s x t ho base e i z 1 bytes E.under h1 h2 h3 h4 E.cells (by decide) v n xs hs (hown.alloc _) ⟨w.heap.size,0,none⟩ 1 1 [u] hx rfl (cell_one_new w u e) (by simpa using hu) (by unfold maxLen;omega) ?_ (by simp;omega) ?_
 ·have:(n+1)*bytes≤1000000000000*64:=Nat.mul_le_mul (by omega) hby;omega
 ·intro v' w' h1 h2 h3;exact hK v' w' h1 (Qhx h2) (fun e=>by have:=(h3.1 e).2;omega)
theorem Qjf {s x:Operand} {t e:TypeId} {z:Value} {size bytes base n:Nat} {v:Value} {xs:List Value} {us:Array Value} (E:Qgg P t e z size bytes)
  (hown:w.ownsRow base e size v n xs) (hus:us.size=size) (hu:∀u∈us.toList,u.oneCell'=true) (hn:n<1000000000000) (hby:bytes≤64) (hbase:base≤w.heap.size)
  (hgd:o.guard=none) (ho:o.op=.call { callee:=.builtin .append,args:=#[s,x],argTypes:=#[t,t] })
  (hs:a.eval s=v) (hx:a.eval x=.slice (some ⟨w.heap.size,0,none⟩) 1 1)
  (hK:∀v' w',w'.ownsRow base e size v' (n+1) (xs ++ us.toList)→w.grownBy w' v.ownBlock→v'≠.slice none 0 0→wpList P ops Q rest (a.put o.dst v') w') :
  wpList P ops Q (o :: rest) a (w.alloc (.cells us e)):=by
 obtain ⟨i,h1,h2,h3,h4⟩:=E.info;refine wpList_append_own _ hgd s x t ho base e i z size bytes E.under h1 h2 h3 h4 E.cells E.pos v n xs hs (hown.alloc _) ⟨w.heap.size,0,none⟩ 1 1 us.toList hx (by simpa using hus) ?_ hu (by unfold maxLen;omega) ?_ (by simp;omega) ?_
 ·intro j u hj;have e:(⟨w.heap.size,0,none⟩:Addr).add j=⟨w.heap.size,j,none⟩:=by unfold Addr.add;split <;> simp_all
  rw [e];exact Qat w us _ j u (by simpa using hj)
 ·have:(n+1)*bytes≤1000000000000*64:=Nat.mul_le_mul (by omega) hby;omega
 ·intro v' w' h1 h2 h3;exact hK v' w' h1 (Qhx h2) (fun e=>by have:=(h3.1 e).2;omega)
theorem Qem {s x:Operand} {t e:TypeId} {z:Value} {size bytes base n m c:Nat} {v:Value} {xs ys:List Value} {ad:Addr} (E:Qgg P t e z size bytes)
  (hown:w.ownsRow base e size v n xs) (hl:ys.length=m*size) (hys:∀j u,ys[j]?=some u→w.cell? (ad.add j)=some u) (h1:∀u∈ys,u.oneCell'=true)
  (hn:n+m<1000000000000) (hby:bytes≤64) (hbase:base≤w.heap.size)
  (hgd:o.guard=none) (ho:o.op=.call { callee:=.builtin .append,args:=#[s,x],argTypes:=#[t,t] })
  (hs:a.eval s=v) (hx:a.eval x=.slice (some ad) m c)
  (hK:∀v' w',w'.ownsRow base e size v' (n+m) (xs ++ ys)→w.grownBy w' v.ownBlock→(v'=.slice none 0 0↔v=.slice none 0 0∧m=0)→wpList P ops Q rest (a.put o.dst v') w') :
  wpList P ops Q (o :: rest) a w:=by
 obtain ⟨i,i1,i2,i3,i4⟩:=E.info;refine wpList_append_own _ hgd s x t ho base e i z size bytes E.under i1 i2 i3 i4 E.cells E.pos v n xs hs hown ad m c ys hx hl hys h1 (by unfold maxLen;omega) ?_ hbase hK;have:(n+m)*bytes≤1000000000000*64:=Nat.mul_le_mul (by omega) hby;omega
theorem Qol {l c:Operand} {t e:TypeId} {z:Value} {size bytes:Nat} (E:Qgg P t e z size bytes) (base n:Nat) {kl kc:IntKind} {C:Int}
  (hC:C=(n:Int)) (hn:n<1000000000000) (hby:bytes≤64) (hbase:base≤w.heap.size)
  (hgd:o.guard=none) (ho:o.op=.makeSlice t l c) (hl:a.eval l=.int kl 0) (hc:a.eval c=.int kc C)
  (hK:∀w',w'.ownsRow base e size (.slice (some ⟨w.heap.size,0,none⟩) 0 n) 0 []→w.grownBy w' none→wpList P ops Q rest (a.put o.dst (.slice (some ⟨w.heap.size,0,none⟩) 0 n)) w') :
  wpList P ops Q (o :: rest) a w:=by
 obtain ⟨i,i1,i2,i3,i4⟩:=E.info;refine wpList_make_own _ hgd l c t ho base e i z size E.under i1 i2 i3 kl kc C n hl hc hC ?_ (by unfold maxLen;omega) hbase hK;rw [i4];have:bytes*n≤64*1000000000000:=Nat.mul_le_mul hby (by omega);omega
theorem Qc1 {l c:Operand} {t e:TypeId} {z:Value} {bytes:Nat} (E:Qgg P t e z 1 bytes) (base n:Nat) {kl kc:IntKind} {L C:Int} (hz:z.cells=#[z])
  (hL:L=(n:Int)) (hC:C=(n:Int)) (hn:n<1000000000000) (hby:bytes≤64) (hbase:base≤w.heap.size)
  (hgd:o.guard=none) (ho:o.op=.makeSlice t l c) (hl:a.eval l=.int kl L) (hc:a.eval c=.int kc C)
  (hK:∀w',w'.ownsRow base e 1 (.slice (some ⟨w.heap.size,0,none⟩) n n) n (List.replicate n z)→w.grownBy w' none→wpList P ops Q rest (a.put o.dst (.slice (some ⟨w.heap.size,0,none⟩) n n)) w') :
  wpList P ops Q (o :: rest) a w:=by
 obtain ⟨i,i1,i2,i3,i4⟩:=E.info;refine wpList_make_full _ hgd l c t ho base e i z 1 E.under i1 i2 i3 kl kc L C n hl hc hL hC ?_ (by unfold maxLen;omega) hbase ?_
 ·rw [i4];have:bytes*n≤64*1000000000000:=Nat.mul_le_mul hby (by omega);omega
 ·rw [Qp7 z n hz];exact hK
theorem Qke {s x:Operand} {t e:TypeId} {z:Value} {size bytes base base2 n m:Nat} {v v2:Value} {xs ys:List Value} (E:Qgg P t e z size bytes)
  (hown:w.ownsRow base e size v n xs) (hsrc:w.ownsRow base2 e size v2 m ys) (h1:∀u∈ys,u.oneCell'=true)
  (hn:n+m<1000000000000) (hby:bytes≤64) (hbase:base≤w.heap.size)
  (hgd:o.guard=none) (ho:o.op=.call { callee:=.builtin .append,args:=#[s,x],argTypes:=#[t,t] })
  (hs:a.eval s=v) (hx:a.eval x=v2)
  (hK:∀v' w',w'.ownsRow base e size v' (n+m) (xs ++ ys)→w.grownBy w' v.ownBlock→wpList P ops Q rest (a.put o.dst v') w') :
  wpList P ops Q (o :: rest) a w:=by
 rcases hsrc.2 with ⟨rfl,rfl⟩|⟨g,cap,cur,rfl,_⟩
 ·obtain ⟨i,i1,_⟩:=E.info;have hy:ys=[]:=List.eq_nil_of_length_eq_zero (by have:=hsrc.1;simpa using this);subst hy;refine wpList_append_own_none hgd s x t ho base e i size E.under i1 v n xs hs hown hx (hK v w (by simpa using hown) ⟨rfl,rfl,rfl,Nat.le_refl _,fun _ _ _=>rfl⟩)
 ·exact Qem E hown hsrc.1 (fun j u hj=>hsrc.cells (g:=g) rfl j u hj) h1 hn hby hbase hgd ho hs hx (fun v' w' a b _=>hK v' w' a b)
theorem Qfd {t e:TypeId} {z:Value} {size bytes:Nat} (E:Qgg P t e z size bytes) (ad:Option Addr) (n cap l h:Nat) (low high:Option Value)
  (hb:(Instr.sliceBounds true n cap low high none).run P w=.ok (l,h,cap) w) :
  (Instr.sliceAt t (.slice ad n cap) low high none).run P w=.ok (.slice (if cap=l then ad else ad.map (·.add (l*size))) (h-l) (cap-l)) w:=by
 obtain ⟨i,i1,i2,i3,i4⟩:=E.info;simp [Instr.sliceAt,Instr.slice,run_underlying E.under,hb,sizeOf,typeInfo,i1,i3]
theorem Qaq.shift {w:World} {ad:Option Addr} {vs:List Value} (h:Qaq w ad vs) (k:Nat) (c:Prop) [Decidable c] (hc:c→vs.length≤k):Qaq w (if c then ad else ad.map (·.add k)) (vs.drop k):=by
 split
 ·rename_i hc'
  rw [List.drop_eq_nil_of_le (hc hc')];exact Qaq.nil _ _
 ·rcases h with rfl | ⟨b,off,rfl,hcs⟩
  ·simp;exact Qaq.nil _ _
  ·have e:(⟨b,off,none⟩:Addr).add k=⟨b,off+k,none⟩:=by unfold Addr.add;split <;> simp_all
   simp only [Option.map_some,e]
   exact Qaq.drop (.inr ⟨b,off,rfl,hcs⟩) k
theorem Qgy {x lo:Operand} {t e:TypeId} {z:Value} {size bytes:Nat} (E:Qgg P t e z size bytes) {ad:Option Addr} {n cap:Nat} {k:IntKind} {L:Int} (l:Nat) {vs:List Value}
  (hc:Qaq w ad vs) (hlen:vs.length=n*size) (hL:L=(l:Int)) (hl:l≤n) (hn:n≤cap)
  (hgd:o.guard=none) (ho:o.op=.slice t x (some lo) none none) (hx:a.eval x=.slice ad n cap) (hlo:a.eval lo=.int k L)
  (hK:∀ad',Qaq w ad' (vs.drop (l*size))→wpList P ops Q rest (a.put o.dst (.slice ad' (n-l) (cap-l))) w) :
  wpList P ops Q (o :: rest) a w:=by
 refine wpList_plain hgd fun K hK'=>?_
 subst hL;have hr:=Qfd (w:=w) E ad n cap l n (some (.int k l)) none (by
  have:(0:Int)≤(l:Int)∧(l:Int)≤(n:Int):=by omega
  simp [Instr.sliceBounds,Instr.sliceBound,asIntOf,hl])
 unfold Oper.wp;simp only [execOp,ho,hx,hlo,Option.map_some,Option.map_none]
 simp [hr,Result.andThen]
 exact hK' _ _ (hK _ (hc.shift (l*size) (cap=l) (fun h=>by rw [hlen];exact Nat.mul_le_mul_right _ (by omega))))
structure Agg (P:Program) (ty:TypeId) (zs:Array Value):Prop where
 desc:∃d,P.underlying ty=some d∧(match d with | .struct _ | .array _ _=>true | _=>false)=true
 info:(P.info? ty).map (fun i=>(i.zero,i.size))=some (some (.agg zs),zs.size)
theorem Agg.size {ty:TypeId} {zs:Array Value} (A:Agg P ty zs):(P.info? ty).map (·.size)=some zs.size:=(zero_of_info A.info).2
theorem Qmg {ty:TypeId} {zs:Array Value} (A:Agg P ty zs) (hgd:o.guard=none) (ho:o.op=.alloc ty)
  (hK:∀w',w'.heap[w.heap.size]?=some (.cells zs ty (0,0))→w.grownBy w' none→w'.heap.size=w.heap.size+1→wpList P ops Q rest (a.put o.dst (.pointer (some ⟨w.heap.size,0,none⟩))) w') :
  wpList P ops Q (o :: rest) a w:=by
 refine wpList_plain hgd fun K hK'=>?_
 have hz:=(zero_of_info A.info).1;have hr:(Instr.alloc ty true (.tuple #[])).run P w=.ok (.pointer (some ⟨w.heap.size,0,none⟩)) (w.alloc (.cells zs ty)):=by
  simp [Instr.alloc,hz,newVar,newRow,Value.cells]
 unfold Oper.wp;simp only [execOp,ho]
 simp [hr,Result.andThen]
 exact hK' _ _ (hK _ (heap_alloc_new w _) (World.grownBy_alloc w _ none) (by simp))
theorem Qa1 {ty:TypeId} {zs:Array Value} (A:Agg P ty zs) {p x:Operand} {g:Nat} {t:TypeId} {old cs:Array Value} (hg:w.heap[g]?=some (.cells old t (0,0)))
  (hs:cs.size=zs.size) (hold:old.size=cs.size) (h1:cs.all (·.oneCell')=true)
  (hgd:o.guard=none) (ho:o.op=.store ty p x) (hp:a.eval p=.pointer (some ⟨g,0,none⟩)) (hx:a.eval x=.agg cs)
  (hK:∀w',w'.heap[g]?=some (.cells cs t (0,0))→w.grownBy w' (some g)→w'.heap.size=w.heap.size→wpList P ops Q rest (a.put o.dst undef) w') :
  wpList P ops Q (o :: rest) a w:=by
 refine wpList_plain hgd fun K hK'=>?_
 have hr:=run_storeVar_row (P:=P) w g t ty old cs hg (by rw [A.size,hs]) hold h1;have hr2:(Instr.storeAt ty (.pointer (some ⟨g,0,none⟩)) (.agg cs)).run P w=.ok () (w.setRow g cs):=by
  simp only [Instr.storeAt,Instr.sureAddr,Sem.run_bind,Sem.run_pure,Result.andThen]
  exact hr
 unfold Oper.wp;simp only [execOp,ho,hp,hx]
 simp only [Sem.run_bind,hr2,Result.andThen,Sem.run_pure]
 exact hK' _ _ (hK _ (setRow_heap w g old cs t _ hg) ⟨rfl,rfl,rfl,by simp,fun k _ hk=>setRow_other w g k _ (fun e=>hk (by rw [e]))⟩ (by simp))
theorem Qb3 {ty e:TypeId} {n:Nat} {d:TypeDesc} {x ix:Operand} {cs:Array Value} {k:IntKind} {I:Int} (i:Nat) (hu:P.underlying ty=some (.array n e)) (he:P.underlying e=some d)
  (hd:(match d with | .struct _ | .array _ _=>true | _=>false)=false) (hi:(P.info? e).map (·.size)=some 1) (hI:I=(i:Int)) (hn:i<n) {v:Value} (hv:cs[i]?=some v)
  (hgd:o.guard=none) (ho:o.op=.index ty x ix) (hx:a.eval x=.agg cs) (hix:a.eval ix=.int k I)
  (hK:wpList P ops Q rest (a.put o.dst v) w):wpList P ops Q (o :: rest) a w:=by
 refine wpList_plain hgd fun K hK'=>?_
 subst hI;have hagg:(isAgg e).run P w=.ok false w:=by
  unfold isAgg;rw [Sem.run_bind,run_underlying he w]
  cases d <;> simp_all
 have hr:(Instr.index ty (.agg cs) (.int k i)).run P w=.ok v w:=by
  cases hq:P.info? e with
  | none=>simp [hq] at hi
  | some inf =>
   have hs:inf.size=1:=by simpa [hq] using hi
   have h2:(i:Int)<(n:Int):=by omega
   simp [Instr.index,asIntOf,run_underlying hu,sizeOf,typeInfo,hq,hs,hn,part,hagg,hv]
 unfold Oper.wp;simp only [execOp,ho,hx,hix]
 simp [hr,Result.andThen]
 exact hK' _ _ hK
end laws
theorem Qav {B:Nat} {w0 w w':World} {base e size n:Nat} {v:Value} {xs:List Value} (h:Below B w0 w) (ho:w.ownsRow base e size v n xs) (hg:w.grownBy w' v.ownBlock) (hB:B≤w0.heap.size) (hb:B≤base):Below B w0 w' :=
 h.grown hg (Nat.le_trans hB h.size) (fun k e=>Nat.le_trans hb (ho.lt k e).1)
theorem Qd9 {k:IntKind} (ns:List Nat):∀u∈ns.map (fun n:Nat=>Value.int k (n:Int)),u.oneCell'=true:=by
 intro u hu;simp only [List.mem_map] at hu
 obtain ⟨n,_,rfl⟩:=hu
 rfl
theorem Qb2 {k:IntKind} {a b:Int} (h:a=b):Value.int k a=Value.int k b:=by rw [h]
theorem Qau {k:IntKind} {a b:Int} (h:a=b):Ending.returned (.int k a)=.returned (.int k b):=by rw [h]
theorem Qd0 {a b:Bool} (h:a=b):Ending.returned (.bool a)=.returned (.bool b):=by rw [h]
def upN (n size:Int):Int:=if n≤0∨size≤0 then 0 else (n-1)/size+1
theorem Qv7 (n s:Int) (w:World) (h1:n≤4611686018427387904) (h2:s≤4611686018427387904) :
  Calls Tryz.prog 42 #[.int .i64 n,.int .i64 s] w fun e w'=>e=.returned (.int .i64 (upN n s))∧w=w':=by
 by_cases a:n≤0
 ·go_enter Tryz.func42,Tryz.ntmps42
  go_wp2
  go_ret
  exact ⟨by simp [upN,a],rfl⟩
 ·by_cases b:s≤0
  ·go_enter Tryz.func42,Tryz.ntmps42
   go_wp2
   go_ret
   exact ⟨by simp [upN,b],rfl⟩
  ·have h3:0≤(n-1)/s:=Int.ediv_nonneg (by omega) (by omega);have h4:(n-1)/s≤n-1:=Int.ediv_le_self _ (by omega);go_enter Tryz.func42,Tryz.ntmps42
   go_wp2
   go_ret
   exact ⟨Qau (by rw [upN,if_neg (by omega)]),rfl⟩
theorem Jg8 (n s:Int) (h1:0<n) (h2:0<s):upN n s=if n % s=0 then n/s else n/s+1:=by
 rw [upN,if_neg (by omega)];have e:=Int.emod_add_mul_ediv n s;have m0:=Int.emod_nonneg n (by omega:s≠0);have m1:=Int.emod_lt_of_pos n h2
 split
 ·rename_i h0
  have:n-1=(s-1)+s*(n/s-1):=by rw [Int.mul_sub];omega
  rw [this,Int.add_mul_ediv_left _ _ (by omega),Int.ediv_eq_zero_of_lt (by omega) (by omega)];omega
 ·rename_i h0
  have:n-1=(n % s-1)+s*(n/s):=by omega
  rw [this,Int.add_mul_ediv_left _ _ (by omega),Int.ediv_eq_zero_of_lt (by omega) (by omega)];omega
theorem Qc2 (k:Int) (w:World):Calls Tryz.prog 131 #[.int .i64 k] w fun e w'=>e=.returned (.bool (decide (0≤k∧k<32)))∧w=w':=by
 by_cases h1:0≤k
 ·by_cases h2:k<32
  ·go_enter Tryz.func131,Tryz.ntmps131
   go_wp2
   go_ret
   exact ⟨Qd0 (by simp [h1,h2]),rfl⟩
  ·go_enter Tryz.func131,Tryz.ntmps131
   go_wp2
   go_ret
   exact ⟨Qd0 (by simp [h2]),rfl⟩
 ·go_enter Tryz.func131,Tryz.ntmps131
  go_wp2
  go_ret
  exact ⟨Qd0 (by simp;omega),rfl⟩
end
section
def Qft (w:Nat):List Nat :=
 [w % 256,w/256 % 256,w/65536 % 256,w/16777216 % 256,w/4294967296 % 256,w/1099511627776 % 256,w/281474976710656 % 256,w/72057594037927936 % 256]
def Qew (ws:List Nat):List Nat:=ws.flatMap Qft
theorem Qhe (ws:List Nat):(Qew ws).length=8*ws.length:=by
 induction ws with
 | nil=>rfl
 | cons a l ih=>simp [Qew,List.flatMap_cons] at ih ⊢;rw [ih];simp [Qft];omega
theorem Qtx (ws:List Nat):∀x∈Qew ws,x<256:=by
 intro x hx;simp only [Qew,List.mem_flatMap,Qft] at hx
 obtain ⟨a,_,hx⟩:=hx;simp at hx
 omega
end
section
theorem Qyy:Qgg Tryz.prog 31 40 (.int .u64 0) 1 8:=Qgg.mk' Tryz.underlying31 (by kernel_rfl) rfl (by decide)
theorem el8:Qgg Tryz.prog 79 5 (.int .u8 0) 1 1:=Qgg.mk' Tryz.underlying79 (by kernel_rfl) rfl (by decide)
theorem Jew (x t:Nat) (ht:t<8):(x:Int)/2 ^ (8*t) % 256=(((Qft x).getD t 0:Nat):Int):=by
 have c:t=0∨t=1∨t=2∨t=3∨t=4∨t=5∨t=6∨t=7:=by omega
 rcases c with rfl | rfl | rfl | rfl | rfl | rfl | rfl | rfl <;> simp [Qft]
theorem Qu9 (ws:List Nat) (k:Nat) (h:k<ws.length):Qew (ws.take (k+1))=Qew (ws.take k) ++ Qft (ws.getD k 0):=by
 have e:ws.getD k 0=ws[k]:=by simp [h]
 rw [List.take_succ_eq_append_getElem h,e];unfold Qew;rw [List.flatMap_append];simp
theorem Qvq (x t:Nat) (h:t<8):(Qft x).take (t+1)=(Qft x).take t ++ [(Qft x).getD t 0]:=by
 have c:t=0∨t=1∨t=2∨t=3∨t=4∨t=5∨t=6∨t=7:=by omega
 rcases c with rfl | rfl | rfl | rfl | rfl | rfl | rfl | rfl <;> rfl
def Qo1 (ws:List Nat) (k t:Nat):List Nat:=Qew (ws.take k) ++ (Qft (ws.getD k 0)).take t
theorem Qok (ws:List Nat) (k:Nat):Qo1 ws k 0=Qew (ws.take k):=by simp [Qo1]
theorem Qpi (ws:List Nat) (k:Nat) (h:k<ws.length):Qo1 ws k 8=Qo1 ws (k+1) 0:=by
 rw [Qok,Qu9 ws k h];rfl
theorem Qst (ws:List Nat) (k t:Nat) (h:t<8):Qo1 ws k (t+1)=Qo1 ws k t ++ [(Qft (ws.getD k 0)).getD t 0]:=by
 unfold Qo1;rw [Qvq _ _ h,List.append_assoc]
theorem Qwx (ws:List Nat) (k t:Nat) (hk:k≤ws.length):(Qo1 ws k t).length≤8*ws.length+8:=by
 unfold Qo1;rw [List.length_append,Qhe,List.length_take,List.length_take];have:(Qft (ws.getD k 0)).length=8:=rfl;omega
theorem Ja1 (a:Option Addr) {n:Nat} (cap:Nat) (ws:List Nat) (hn:ws.length=n) (w:World) (h:Qaq w a (ws.map Qad)) (hz:∀z∈ws,z<18446744073709551616) (hl:ws.length≤1000000) :
  Calls Tryz.prog 170 #[.slice a n cap] w fun e w'=>∃v,e=.returned v∧w'.ownsRow w.heap.size 5 1 v (Qew ws).length ((Qew ws).map vu8)∧Below w.heap.size w w':=by
 subst hn;have HZ:=LH hz;clear hz;go_enter Tryz.func170,Tryz.ntmps170;go_wp2_with (at_make;refine Qol el8 w.heap.size (8*ws.length) (by omega) (by omega) (by decide) NR rfl rfl rfl rfl ?_;intro w1 hown hgrow)
 go_loopw [3,13] (fun v i wr=>∃k:Nat,k≤ws.length∧i=.int .i64 k∧wr.ownsRow w.heap.size 5 1 v (Qo1 ws k 0).length ((Qo1 ws k 0).map vu8)∧Below w.heap.size w wr)
  (fun _ i _=>ws.length-(intOf i).toNat)
 case atStart=>exact ⟨0,Nat.zero_le _,rfl,hown,Qbq hgrow NR⟩
 case round =>
  obtain ⟨k,hk,rfl,ho,hb⟩:=hrel
  by_cases hlt:k<ws.length
  ·obtain ⟨b,off,rfl,hbs,hc⟩:=h.atMap 0 hlt;have hcell:wr.cell? ⟨b,off+k,none⟩=some (.int .u64 (ws.getD k 0:Nat)):=by rw [hb.cell (p:=⟨b,off+k,none⟩) hbs];exact hc k hlt
   obtain ⟨x,hx⟩:∃x,x=ws.getD k 0:=⟨_,rfl⟩
   rw [← hx] at hcell;have HX:=LH hx;clear hc hx
   go_wp2
   obtain ⟨wo,rfl⟩:∃wo:World,wo=wr:=⟨_,rfl⟩
   go_loopw [3,17] (fun v i wr=>∃t:Nat,t≤8∧i=.int .i64 t∧wr.ownsRow w.heap.size 5 1 v (Qo1 ws k t).length ((Qo1 ws k t).map vu8)∧Below w.heap.size w wr)
    (fun _ i _=>8-(intOf i).toNat)
   case atStart=>exact ⟨0,by omega,rfl,ho,hb⟩
   case round =>
    clear ho hb;obtain ⟨t,ht,rfl,ho,hb⟩:=hrel
    by_cases hlt8:t<8
    ·have HB:=LH (Jew x t hlt8);have HS:=LH (Qst ws k t hlt8);have hln:=Qwx ws k t hk;go_wp2_with (at_builtin;refine Qdy el8 ho rfl (by omega) (by decide) hb.size rfl rfl rfl rfl ?_;intro v' w2 ho2 hg2 _)
     have hb2:=Qav hb ho hg2 NR NR;rw [HB.out,HX.out] at ho2;have ho3:w2.ownsRow w.heap.size 5 1 v' (Qo1 ws k (t+1)).length ((Qo1 ws k (t+1)).map vu8):=by
      rw [HS.out,List.map_append,List.length_append];exact ho2
     clear ho2 ho hg2 hb
     go_wp2
     go_roundw
     case rel=>exact ⟨t+1,by omega,by go_num,ho3,hb2⟩
     case measure=>simp [intOf];omega
    ·obtain rfl:t=8:=by omega
     go_wp2
     go_roundw
     case rel=>exact ⟨k+1,by omega,by go_num,by rw [← Qpi ws k hlt];exact ho,hb⟩
     case measure=>simp [intOf];omega
  ·go_wp2
   go_ret
   have he:k=ws.length:=by omega
   subst he;rw [Qok,List.take_length] at ho;exact ⟨_,rfl,ho,hb⟩
theorem Jd7 (x t:Nat) (ht:t<8):x/256 ^ t % 256=(Qft x).getD t 0:=by
 have c:t=0∨t=1∨t=2∨t=3∨t=4∨t=5∨t=6∨t=7:=by omega
 rcases c with rfl | rfl | rfl | rfl | rfl | rfl | rfl | rfl <;> simp [Qft]
theorem Jh2 (x t:Nat) (h:x<18446744073709551616):x/256 ^ t<18446744073709551616:=Nat.lt_of_le_of_lt (Nat.div_le_self _ _) h
theorem Jc1 (x t:Nat):x/256 ^ t/256=x/256 ^ (t+1):=by rw [Nat.div_div_eq_div_mul,Nat.pow_succ]
theorem Jhl {ws:List Nat} (h:∀z∈ws,z<18446744073709551616) (i:Nat):ws.getD i 0<18446744073709551616:=by
 rw [GD]
 by_cases c:i<ws.length
 ·rw [GE c];exact h _ (List.getElem_mem c)
 ·rw [List.getElem?_eq_none (by omega)];simp
theorem Qxx (a:Option Addr) {n:Nat} (cap:Nat) (ws:List Nat) (hn:ws.length=n) (w:World) (h:Qaq w a (ws.map Qad)) (hz:∀z∈ws,z<18446744073709551616) (hl:ws.length≤1000000) :
  Calls Tryz.prog 136 #[.slice a n cap] w fun e w'=>∃v,e=.returned v∧w'.ownsRow w.heap.size 5 1 v (Qew ws).length ((Qew ws).map vu8)∧Below w.heap.size w w':=by
 subst hn;have HZ:=LH hz;clear hz;go_enter Tryz.func136,Tryz.ntmps136
 go_wp2
 go_loopw [3,4] (fun v i wr=>∃k:Nat,k≤ws.length∧i=.int .i64 k∧wr.ownsRow w.heap.size 5 1 v (Qo1 ws k 0).length ((Qo1 ws k 0).map vu8)∧Below w.heap.size w wr)
  (fun _ i _=>ws.length-(intOf i).toNat)
 case atStart=>exact ⟨0,Nat.zero_le _,rfl,World.ownsRow_nil _ _ _ _,Below.refl _ _⟩
 case round =>
  obtain ⟨k,hk,rfl,ho,hb⟩:=hrel
  by_cases hlt:k<ws.length
  ·obtain ⟨b,off,rfl,hbs,hc⟩:=h.atMap 0 hlt;have hcell:wr.cell? ⟨b,off+k,none⟩=some (.int .u64 (ws.getD k 0:Nat)):=by rw [hb.cell (p:=⟨b,off+k,none⟩) hbs];exact hc k hlt
   have hx64:=Jhl HZ.out k;obtain ⟨x,hx⟩:∃x,x=ws.getD k 0:=⟨_,rfl⟩
   rw [← hx] at hcell hx64;have HX:=LH hx;clear hc hx
   go_wp2
   obtain ⟨wo,rfl⟩:∃wo:World,wo=wr:=⟨_,rfl⟩
   go_loopw [3,5,6] (fun v y i wr=>∃t:Nat,t≤8∧i=.int .i64 t∧y=.int .u64 (x/256 ^ t:Nat)∧wr.ownsRow w.heap.size 5 1 v (Qo1 ws k t).length ((Qo1 ws k t).map vu8)∧Below w.heap.size w wr)
    (fun _ _ i _=>8-(intOf i).toNat)
   case atStart=>exact ⟨0,by omega,rfl,by simp,ho,hb⟩
   case round =>
    clear ho hb;obtain ⟨t,ht,rfl,rfl,ho,hb⟩:=hrel
    by_cases hlt8:t<8
    ·have HB:=LH (Jd7 x t hlt8);have HS:=LH (Qst ws k t hlt8);have HQ:=LH (Jc1 x t);have hy:=Jh2 x t hx64;generalize x/256 ^ t=y at *;have hln:=Qwx ws k t hk;go_wp2_with (at_builtin;refine Qdy el8 ho rfl (by omega) (by decide) hb.size rfl rfl rfl rfl ?_;intro v' w2 ho2 hg2 _)
     have hb2:=Qav hb ho hg2 NR NR;have ho3:w2.ownsRow w.heap.size 5 1 v' (Qo1 ws k (t+1)).length ((Qo1 ws k (t+1)).map vu8):=by
      have e:((y:Int) % 256)=(((Qft (ws.getD k 0)).getD t 0:Nat):Int):=by rw [← HX.out,← HB.out];omega
      rw [e] at ho2;rw [HS.out,List.map_append,List.length_append];exact ho2
     refine ⟨⟨t+1,by omega,by go_num,?_,ho3,hb2⟩,by simp [intOf];omega⟩;have:=HQ.out
     congr 1
     omega
    ·obtain rfl:t=8:=by omega
     go_wp2
     go_roundw
     case rel=>exact ⟨k+1,by omega,by go_num,by rw [← Qpi ws k hlt];exact ho,hb⟩
     case measure=>simp [intOf];omega
  ·go_wp2
   go_ret
   have he:k=ws.length:=by omega
   subst he;rw [Qok,List.take_length] at ho;exact ⟨_,rfl,ho,hb⟩
theorem Jdc {xs ys:List Nat} (hl:xs.length=ys.length) (h:∀i,i<xs.length→xs.getD i 0=ys.getD i 0):xs=ys:=by
 apply List.ext_getElem hl
 intro i h1 h2;have:=h i h1
 rwa [GD,GD,GE h1,GE h2] at this
def Qa6 (w:World) (g e:Nat) (vs:List Value):Prop:=∃xs:Array Value,w.heap[g]?=some (.cells xs e (0,0))∧∃more,xs.toList=vs ++ more
theorem Qa6.cell {w:World} {g e:Nat} {vs:List Value} (h:Qa6 w g e vs) {i:Nat} {v:Value} (hi:vs[i]?=some v):w.cell? ⟨g,i,none⟩=some v:=by
 obtain ⟨xs,hg,more,hx⟩:=h;rw [cell_of_row _ _ i xs e (0,0) hg,← Array.getElem?_toList,hx,List.getElem?_append_left (List.getElem?_eq_some_iff.1 hi).1];exact hi
theorem Qa6.frozen {w:World} {g e:Nat} {vs:List Value} (h:Qa6 w g e vs) (i:Nat):w.frozen? ⟨g,i,none⟩=false:=by
 obtain ⟨xs,hg,_⟩:=h;exact frozen_of_row _ _ _ _ _ hg
theorem Qa6.lt {w:World} {g e:Nat} {vs:List Value} (h:Qa6 w g e vs):g<w.heap.size:=by
 obtain ⟨xs,hg,_⟩:=h;exact (Array.getElem?_eq_some_iff.1 hg).1
theorem Qa6.keep {w w':World} {g e:Nat} {vs:List Value} (h:Qa6 w g e vs) (hk:w'.heap[g]?=w.heap[g]?):Qa6 w' g e vs:=by
 obtain ⟨xs,hg,r⟩:=h;exact ⟨xs,hk.trans hg,r⟩
theorem Qa6.set {w:World} {g e:Nat} {vs:List Value} (h:Qa6 w g e vs) (i:Nat) (hi:i<vs.length) (v:Value):Qa6 (w.setCell ⟨g,i,none⟩ v) g e (vs.set i v):=by
 obtain ⟨xs,hg,more,hx⟩:=h;refine ⟨_,heap_setCell_same w g i xs e v hg,more,?_⟩;rw [Array.toList_setIfInBounds,hx,List.set_append_left _ _ hi]
theorem Qa6.cells {w:World} {g e:Nat} {vs:List Value} (h:Qa6 w g e vs):Qaq w (some ⟨g,0,none⟩) vs :=
 .inr ⟨g,0,rfl,fun i v hi=>by rw [Nat.zero_add];exact h.cell hi⟩
structure Qam (L:List Nat) (w w':World):Prop where
 os:w'.os=w.os
 tape:w'.tape=w.tape
 output:w'.output=w.output
 size:w.heap.size≤w'.heap.size
 block:∀k,k<w.heap.size→k∉L→w'.heap[k]?=w.heap[k]?
theorem Qam.refl (L:List Nat) (w:World):Qam L w w:=⟨rfl,rfl,rfl,Nat.le_refl _,fun _ _ _=>rfl⟩
theorem Qam.trans {L:List Nat} {a b c:World} (h:Qam L a b) (k:Qam L b c):Qam L a c :=
 ⟨k.os.trans h.os,k.tape.trans h.tape,k.output.trans h.output,Nat.le_trans h.size k.size,fun i hi hn=>(k.block i (Nat.lt_of_lt_of_le hi h.size) hn).trans (h.block i hi hn)⟩
theorem Qam.setCell {L:List Nat} {w:World} (p:Addr) (hp:p.block∈L) (u:Value):Qam L w (w.setCell p u) :=
 ⟨rfl,rfl,rfl,by simp [World.setCell],fun k _ hn=>Below.heap_setCell _ _ _ _ (fun e=>hn (e ▸ hp))⟩
theorem Qam.below {L:List Nat} {B:Nat} {w w':World} (h:Qam L w w') (hB:B≤w.heap.size) (hL:∀k∈L,B≤k):Below B w w' :=
 ⟨h.os,h.tape,h.output,h.size,fun k hk=>h.block k (by omega) (fun hm=>by have:=hL k hm;omega)⟩
theorem Qam.ofBelow {L:List Nat} {w w':World} (h:Below w.heap.size w w'):Qam L w w':=⟨h.os,h.tape,h.output,h.size,fun k hk _=>h.block k hk⟩
structure Dev where
 lasting:List Nat
 cache:List Nat
 flushed:List Nat
 dirty:List Bool
 pending:List Bool
 steps:Int
 fuse:Int
 armed:Bool
 dead:Bool
structure Qb0 where
 d:Nat
 l:Nat
 c:Nat
 f:Nat
 t:Nat
 p:Nat
 cl:Nat
 cc:Nat
 cf:Nat
 ct:Nat
 cp:Nat
def Qb0.list (F:Qb0):List Nat:=[F.d,F.l,F.c,F.f,F.t,F.p]
def Jcx (F:Qb0) (S:Dev):Array Value:=#[.slice (some ⟨F.l,0,none⟩) S.cache.length F.cl,.slice (some ⟨F.c,0,none⟩) S.cache.length F.cc,.slice (some ⟨F.f,0,none⟩) S.cache.length F.cf,
 .slice (some ⟨F.t,0,none⟩) S.dirty.length F.ct,.slice (some ⟨F.p,0,none⟩) S.dirty.length F.cp,.int .i64 S.steps,.int .i64 S.fuse,.bool S.armed,.bool S.dead]
structure Qa7 (w:World) (F:Qb0) (S:Dev):Prop where
 head:w.heap[F.d]?=some (.cells (Jcx F S) 145 (0,0))
 lasting:Qa6 w F.l 40 (S.lasting.map Qad)
 cache:Qa6 w F.c 40 (S.cache.map Qad)
 flushed:Qa6 w F.f 40 (S.flushed.map Qad)
 dirty:Qa6 w F.t 4 (S.dirty.map Value.bool)
 pending:Qa6 w F.p 4 (S.pending.map Value.bool)
 nodup:F.list.Nodup
 lenL:S.lasting.length=S.cache.length
 lenF:S.flushed.length=S.cache.length
 lenP:S.pending.length=S.dirty.length
 lenD:S.cache.length=8*S.dirty.length
 small:S.cache.length≤1000000
 capL:S.cache.length≤F.cl
 capC:S.cache.length≤F.cc
 capF:S.cache.length≤F.cf
 u64L:∀z∈S.lasting,z<18446744073709551616
 u64C:∀z∈S.cache,z<18446744073709551616
 u64F:∀z∈S.flushed,z<18446744073709551616
theorem Qa7.keep {w w':World} {F:Qb0} {S:Dev} (h:Qa7 w F S) (hk:∀k∈F.list,w'.heap[k]?=w.heap[k]?):Qa7 w' F S:=by
 have hm:∀k∈F.list,w'.heap[k]?=w.heap[k]?:=hk;simp only [Qb0.list,List.mem_cons,List.not_mem_nil,or_false,forall_eq_or_imp,forall_eq] at hm
 obtain ⟨m1,m2,m3,m4,m5,m6⟩:=hm;exact { h with head:=m1.trans h.head,lasting:=h.lasting.keep m2,cache:=h.cache.keep m3,flushed:=h.flushed.keep m4,dirty:=h.dirty.keep m5,pending:=h.pending.keep m6 }
theorem Qa7.mem {w:World} {F:Qb0} {S:Dev} (h:Qa7 w F S):∀k∈F.list,k<w.heap.size:=by
 have:=(Array.getElem?_eq_some_iff.1 h.head).1;have h2:=h.lasting.lt;have h3:=h.cache.lt;have h4:=h.flushed.lt;have h5:=h.dirty.lt;have h6:=h.pending.lt;simp only [Qb0.list,List.mem_cons,List.not_mem_nil,or_false,forall_eq_or_imp,forall_eq]
 exact ⟨this,h2,h3,h4,h5,h6⟩
theorem Qa7.below {w w':World} {F:Qb0} {S:Dev} (h:Qa7 w F S) (hb:Below w.heap.size w w'):Qa7 w' F S:=h.keep (fun k hk=>hb.block k (h.mem k hk))
def Dev.ok (S:Dev) (N:Nat):Prop:=0≤S.steps∧S.steps≤N∧-(N:Int)≤S.fuse∧S.fuse<9223372036854775808
theorem Dev.ok.mono {S:Dev} {N M:Nat} (h:S.ok N) (hN:N≤M):S.ok M:=by unfold Dev.ok at *;omega
def Dev.stop (S:Dev):Bool:=S.dead || (S.armed && S.fuse == 0)
def Dev.step (S:Dev):Dev:=if S.stop then { S with dead:=true } else { S with fuse:=S.fuse-1,steps:=S.steps+1 }
theorem Dev.step_ok {S:Dev} {N:Nat} (h:S.ok N):S.step.ok (N+1):=by
 unfold Dev.ok at *;unfold Dev.step
 split <;> dsimp only <;> omega
theorem Dev.step_rest (S:Dev):S.step.lasting=S.lasting∧S.step.cache=S.cache∧S.step.flushed=S.flushed∧S.step.dirty=S.dirty∧S.step.pending=S.pending:=by
 unfold Dev.step
 split <;> exact ⟨rfl,rfl,rfl,rfl,rfl⟩
theorem Qa7.head' {w w':World} {F:Qb0} {S S':Dev} (h:Qa7 w F S) (hh:w'.heap[F.d]?=some (.cells (Jcx F S') 145 (0,0))) (ht:Qam [F.d] w w')
  (e:S'.lasting=S.lasting∧S'.cache=S.cache∧S'.flushed=S.flushed∧S'.dirty=S.dirty∧S'.pending=S.pending):Qa7 w' F S':=by
 obtain ⟨e1,e2,e3,e4,e5⟩:=e;have hn:=h.nodup;have hm:=h.mem;simp only [Qb0.list,List.nodup_cons,List.mem_cons,List.not_mem_nil,or_false,not_or,forall_eq_or_imp,forall_eq] at hn hm
 obtain ⟨⟨n1,n2,n3,n4,n5⟩,_⟩:=hn;obtain ⟨_,m2,m3,m4,m5,m6⟩:=hm;have k:∀g,g<w.heap.size→F.d≠g→w'.heap[g]?=w.heap[g]?:=fun g hg hne=>ht.block g hg (by simpa using fun c=>hne c.symm)
 exact ⟨hh,by rw [e1];exact h.lasting.keep (k _ m2 n1),by rw [e2];exact h.cache.keep (k _ m3 n2),by rw [e3];exact h.flushed.keep (k _ m4 n3),by rw [e4];exact h.dirty.keep (k _ m5 n4),by rw [e5];exact h.pending.keep (k _ m6 n5),h.nodup,
  by rw [e1,e2];exact h.lenL,by rw [e3,e2];exact h.lenF,by rw [e5,e4];exact h.lenP,by rw [e2,e4];exact h.lenD,by rw [e2];exact h.small,by rw [e2];exact h.capL,by rw [e2];exact h.capC,by rw [e2];exact h.capF,by rw [e1];exact h.u64L,by rw [e2];exact h.u64C,by rw [e3];exact h.u64F⟩
abbrev Qei (F:Qb0):Value:=.pointer (some ⟨F.d,0,none⟩)
theorem Jaf {w:World} {F:Qb0} {S:Dev} (hh:w.heap[F.d]?=some (.cells (Jcx F S) 145 (0,0))) (a b:Int) :
  ((w.setCell ⟨F.d,6,none⟩ (.int .i64 a)).setCell ⟨F.d,5,none⟩ (.int .i64 b)).heap[F.d]?=some (.cells (Jcx F { S with fuse:=a,steps:=b }) 145 (0,0)):=by
 rw [heap_setCell_same _ F.d 5 _ _ _ (heap_setCell_same w F.d 6 _ _ _ hh)];rfl
theorem Jag {w:World} {F:Qb0} {S:Dev} (hh:w.heap[F.d]?=some (.cells (Jcx F S) 145 (0,0))) (a:Bool) :
  (w.setCell ⟨F.d,8,none⟩ (.bool a)).heap[F.d]?=some (.cells (Jcx F { S with dead:=a }) 145 (0,0)):=by
 rw [heap_setCell_same w F.d 8 _ _ _ hh];rfl
theorem Qrc {w:World} {F:Qb0} {S:Dev} (h:Qa7 w F S) {N:Nat} (hN:N<1000000000000) (ho:S.ok N) :
  Calls Tryz.prog 149 #[Qei F] w fun e w'=>e=.returned (.bool (!S.stop))∧Qa7 w' F S.step∧Qam [F.d] w w':=by
 have hh:=h.head;have c5:w.cell? ⟨F.d,5,none⟩=some (.int .i64 S.steps):=cell_of_row _ _ 5 _ _ _ hh;have c6:w.cell? ⟨F.d,6,none⟩=some (.int .i64 S.fuse):=cell_of_row _ _ 6 _ _ _ hh;have c7:w.cell? ⟨F.d,7,none⟩=some (.bool S.armed):=cell_of_row _ _ 7 _ _ _ hh;have c8:w.cell? ⟨F.d,8,none⟩=some (.bool S.dead):=cell_of_row _ _ 8 _ _ _ hh;have z:∀i,w.frozen? ⟨F.d,i,none⟩=false:=fun i=>frozen_of_row _ _ i _ _ hh
 have z5:=z 5;have z6:=z 6;have z8:=z 8;have HS:=LH (S.step_rest);unfold Dev.ok at ho;have HD:Hid (∀w',w'.heap[F.d]?=some (.cells (Jcx F S.step) 145 (0,0))→Qam [F.d] w w'→Qa7 w' F S.step):=LH (fun w' a b=>h.head' a b HS.out)
 cases hst:S.stop
 ·have HE:Hid (S.step = { S with fuse:=S.fuse-1,steps:=S.steps+1 }):=LH (by unfold Dev.step;rw [hst];rfl);have hd:S.dead=false:=by unfold Dev.stop at hst;simp at hst;exact hst.1
  have ha:(S.armed && S.fuse == 0)=false:=by unfold Dev.stop at hst;rw [hd] at hst;simpa using hst
  rw [hd] at c8;clear hst z h;have HH:=LH hh;clear hh;have HF:Hid (Qa7 ((w.setCell ⟨F.d,6,none⟩ (.int .i64 (S.fuse-1))).setCell ⟨F.d,5,none⟩ (.int .i64 (S.steps+1))) F S.step∧Qam [F.d] w ((w.setCell ⟨F.d,6,none⟩ (.int .i64 (S.fuse-1))).setCell ⟨F.d,5,none⟩ (.int .i64 (S.steps+1)))):=by
   have t:Qam [F.d] w ((w.setCell ⟨F.d,6,none⟩ (.int .i64 (S.fuse-1))).setCell ⟨F.d,5,none⟩ (.int .i64 (S.steps+1))):=(Qam.setCell _ (by simp) _).trans (Qam.setCell _ (by simp) _);exact LH ⟨HD.out _ (by rw [HE.out];exact Jaf HH.out _ _) t,t⟩
  cases hr:S.armed
  ·rw [hr] at c7;clear ha HD HE HS HH;go_enter Tryz.func149,Tryz.ntmps149;go_wp2_with fail
   go_ret
   exact ⟨rfl,HF.out⟩
  ·rw [hr] at c7 ha;have hf:¬S.fuse=0:=by simpa using ha
   clear ha HD HE HS HH;go_enter Tryz.func149,Tryz.ntmps149;go_wp2_with fail
   go_ret
   exact ⟨rfl,HF.out⟩
 ·have HE:Hid (S.step = { S with dead:=true }):=LH (by unfold Dev.step;rw [hst];rfl);have HF:Hid (Qa7 (w.setCell ⟨F.d,8,none⟩ (.bool true)) F S.step∧Qam [F.d] w (w.setCell ⟨F.d,8,none⟩ (.bool true))):=by
   have t:Qam [F.d] w (w.setCell ⟨F.d,8,none⟩ (.bool true)):=Qam.setCell _ (by simp) _;exact LH ⟨HD.out _ (by rw [HE.out];exact Jag hh _) t,t⟩
  have hst':S.dead=true∨S.dead=false∧S.armed=true∧S.fuse=0:=by
   unfold Dev.stop at hst
   cases hd:S.dead
   ·rw [hd] at hst;simp at hst;exact .inr ⟨rfl,hst⟩
   ·exact .inl rfl
  clear hst z h hh HD HE HS;rcases hst' with hd | ⟨hd,hr,hf⟩
  ·rw [hd] at c8;go_enter Tryz.func149,Tryz.ntmps149;go_wp2_with fail
   go_ret
   exact ⟨rfl,HF.out⟩
  ·rw [hd] at c8;rw [hr] at c7;rw [hf] at c6;go_enter Tryz.func149,Tryz.ntmps149;go_wp2_with fail
   go_ret
   exact ⟨rfl,HF.out⟩
def Qdr (l:List Nat) (i:Int):Nat:=if 0≤i then l.getD i.toNat 0 else 0
theorem Qio {w:World} {F:Qb0} {S:Dev} (h:Qa7 w F S) (i:Int) :
  Calls Tryz.prog 59 #[Qei F,.int .i64 i] w fun e w'=>e=.returned (Qad (Qdr S.cache i))∧w=w':=by
 have hh:=h.head;have c1:w.cell? ⟨F.d,1,none⟩=some (.slice (some ⟨F.c,0,none⟩) S.cache.length F.cc):=cell_of_row _ _ 1 _ _ _ hh;have hsm:=h.small
 by_cases h0:i<0
 ·have HV:Hid (Qdr S.cache i=0):=LH (by unfold Qdr;rw [if_neg (by omega)]);clear hh h;go_enter Tryz.func59,Tryz.ntmps59;go_wp2_with fail
  go_ret
  exact ⟨Qau (by rw [HV.out];rfl),rfl⟩
 obtain ⟨j,rfl⟩:=Int.eq_ofNat_of_zero_le (show 0≤i by omega);have HV:Hid (Qdr S.cache (j:Int)=S.cache.getD j 0):=LH (by unfold Qdr;rw [if_pos (by omega)];rfl)
 by_cases h1:j<S.cache.length
 ·have c2:w.cell? ⟨F.c,j,none⟩=some (Qad (S.cache.getD j 0)):=h.cache.cell (by simp [h1]);clear hh h;generalize S.cache.getD j 0=x at *;go_enter Tryz.func59,Tryz.ntmps59;go_wp2_with fail
  go_ret
  exact ⟨Qau (by rw [HV.out]),rfl⟩
 ·have HZ:Hid (S.cache.getD j 0=0):=LH (by simp;rw [List.getElem?_eq_none (by omega)];rfl);clear hh h;go_enter Tryz.func59,Tryz.ntmps59;go_wp2_with fail
  go_ret
  exact ⟨Qau (by rw [HV.out,HZ.out];rfl),rfl⟩
def Dev.put (S:Dev) (i x:Nat):Dev:={ S with cache:=S.cache.set i x,dirty:=S.dirty.set (i/8) true }
def Dev.store (S:Dev) (i:Int) (x:Nat):Dev:=if i<0∨(S.cache.length:Int)≤i then S else if S.stop then S.step else S.step.put i.toNat x
def Dev.storeE (S:Dev) (i:Int):Int:=if i<0∨(S.cache.length:Int)≤i then 2 else if S.stop then 3 else 0
theorem Qjb (l:List Nat) (i x:Nat):(l.set i x).map Qad=(l.map Qad).set i (Qad x):=by rw [List.map_set]
theorem Qdw (l:List Bool) (i:Nat) (x:Bool):(l.set i x).map Value.bool=(l.map Value.bool).set i (.bool x):=by rw [List.map_set]
theorem Qwm {l:List Nat} {B:Nat} (h:∀z∈l,z<B) (i x:Nat) (hx:x<B):∀z∈l.set i x,z<B:=by
 intro z hz;rcases List.mem_or_eq_of_mem_set hz with hm | rfl
 ·exact h z hm
 ·exact hx
theorem Qa7.put {w:World} {F:Qb0} {S:Dev} (h:Qa7 w F S) (i x:Nat) (hi:i<S.cache.length) (hx:x<18446744073709551616) :
  Qa7 ((w.setCell ⟨F.c,i,none⟩ (Qad x)).setCell ⟨F.t,i/8,none⟩ (.bool true)) F (S.put i x):=by
 have hn:=h.nodup;simp only [Qb0.list,List.nodup_cons,List.mem_cons,List.not_mem_nil,or_false,not_or,List.nodup_nil,and_true,not_false_eq_true] at hn
 obtain ⟨⟨a1,a2,a3,a4,a5⟩,⟨b1,b2,b3,b4⟩,⟨d1,d2,d3⟩,⟨e1,e2⟩,f1⟩:=hn;have k:∀g,g≠F.c→g≠F.t→((w.setCell ⟨F.c,i,none⟩ (Qad x)).setCell ⟨F.t,i/8,none⟩ (.bool true)).heap[g]?=w.heap[g]?:=fun g h1 h2=>by
  rw [Below.heap_setCell _ _ _ _ h2,Below.heap_setCell _ _ _ _ h1]
 have hd:=h.lenD;refine ⟨?_,h.lasting.keep (k _ b1 b3),?_,h.flushed.keep (k _ (Ne.symm d1) e1),?_,h.pending.keep (k _ (Ne.symm d3) (Ne.symm f1)),h.nodup,?_,?_,?_,?_,?_,?_,?_,?_,h.u64L,Qwm h.u64C i x hx,h.u64F⟩
 ·rw [k _ a2 a4,h.head];simp [Jcx,Dev.put]
 ·have:=h.cache.set i (by simpa using hi) (Qad x);show Qa6 _ _ _ ((S.cache.set i x).map Qad);rw [Qjb];exact this.keep (Below.heap_setCell _ _ _ _ d2)
 ·show Qa6 _ _ _ ((S.dirty.set (i/8) true).map Value.bool);rw [Qdw];exact (h.dirty.keep (Below.heap_setCell _ _ _ _ (Ne.symm d2))).set (i/8) (by simp;omega) _
 all_goals simp only [Dev.put,List.length_set]
 ·exact h.lenL
 ·exact h.lenF
 ·exact h.lenP
 ·exact h.lenD
 ·exact h.small
 ·exact h.capL
 ·exact h.capC
 ·exact h.capF
theorem Qgz {w:World} {F:Qb0} {S:Dev} (h:Qa7 w F S) {N:Nat} (hN:N<1000000000000) (ho:S.ok N) (i:Int) (x:Nat) (hx:x<18446744073709551616) :
  Calls Tryz.prog 104 #[Qei F,.int .i64 i,Qad x] w fun e w'=>e=.returned (.int .i64 (S.storeE i))∧Qa7 w' F (S.store i x)∧Qam F.list w w':=by
 have hh:=h.head;have c1:w.cell? ⟨F.d,1,none⟩=some (.slice (some ⟨F.c,0,none⟩) S.cache.length F.cc):=cell_of_row _ _ 1 _ _ _ hh;have hsm:=h.small
 by_cases h0:i<0
 ·have HV:Hid (S.storeE i=2∧S.store i x=S):=LH (by unfold Dev.storeE Dev.store;rw [if_pos (.inl h0),if_pos (.inl h0)];exact ⟨rfl,rfl⟩);clear hh;go_enter Tryz.func104,Tryz.ntmps104;go_wp2_with fail
  go_ret
  exact ⟨Qau HV.out.1.symm,by rw [HV.out.2];assumption,Qam.refl _ _⟩
 obtain ⟨j,rfl⟩:=Int.eq_ofNat_of_zero_le (show 0≤i by omega)
 by_cases h1:j<S.cache.length
 ·have hcond:¬((j:Int)<0∨(S.cache.length:Int)≤(j:Int)):=by omega
  have HE:Hid (S.storeE (j:Int)=if S.stop then 3 else 0):=LH (by unfold Dev.storeE;rw [if_neg hcond]);have HSt:Hid (S.store (j:Int) x=if S.stop then S.step else S.step.put j x):=LH (by unfold Dev.store;rw [if_neg hcond];rfl);have HR:=LH S.step_rest;have HD:=LH h;clear hcond hh h;go_enter Tryz.func104,Tryz.ntmps104;go_wp2_with fail;refine (Qrc HD.out hN ho).mono ?_;rintro e w1 ⟨rfl,hd1,ht1⟩;have ht1':Qam F.list w w1:=⟨ht1.os,ht1.tape,ht1.output,ht1.size,fun k hk hn=>ht1.block k hk (fun hm=>hn (by simp at hm;rw [hm];simp [Qb0.list]))⟩
  clear HD ht1 c1
  cases hst:S.stop
  ·rw [hst] at HE HSt;have e1:S.step.cache.length=S.cache.length:=by rw [HR.out.2.1]
   have e2:S.step.dirty.length=S.dirty.length:=by rw [HR.out.2.2.2.1]
   have c1:w1.cell? ⟨F.d,1,none⟩=some (.slice (some ⟨F.c,0,none⟩) S.cache.length F.cc):=by rw [← e1];exact cell_of_row _ _ 1 _ _ _ hd1.head
   have c3:w1.cell? ⟨F.d,3,none⟩=some (.slice (some ⟨F.t,0,none⟩) S.dirty.length F.ct):=by rw [← e2];exact cell_of_row _ _ 3 _ _ _ hd1.head
   have hl:=hd1.lenD;rw [e1,e2] at hl;have k0:j/8<S.dirty.length:=by omega
   obtain ⟨y,hy⟩:∃y,(S.step.cache.map Qad)[j]?=some y:=⟨_,GE (by simp;omega)⟩
   obtain ⟨u,hu⟩:∃u,(S.step.dirty.map Value.bool)[j/8]?=some u:=⟨_,GE (by simp;omega)⟩
   have d1:w1.cell? ⟨F.c,j,none⟩=some y:=hd1.cache.cell hy;have d2:=hd1.cache.frozen j;have d3:w1.cell? ⟨F.t,j/8,none⟩=some u:=hd1.dirty.cell hu;have d4:=hd1.dirty.frozen (j/8);have hn:=hd1.nodup;simp only [Qb0.list,List.nodup_cons,List.mem_cons,List.not_mem_nil,or_false,not_or,List.nodup_nil,and_true,not_false_eq_true] at hn
   have n1:F.t≠F.c:=fun e=>hn.2.2.1.2.1 e.symm
   have n2:F.d≠F.c:=hn.1.2.1;have d3':(w1.setCell ⟨F.c,j,none⟩ (Qad x)).cell? ⟨F.t,j/8,none⟩=some u:=by rw [World.cell?_of_block (Below.heap_setCell _ _ _ _ n1)];exact d3
   have d4':(w1.setCell ⟨F.c,j,none⟩ (Qad x)).frozen? ⟨F.t,j/8,none⟩=false:=by rw [World.frozen?_of_block (Below.heap_setCell _ _ _ _ n1)];exact d4
   have c3':(w1.setCell ⟨F.c,j,none⟩ (Qad x)).cell? ⟨F.d,3,none⟩=some (.slice (some ⟨F.t,0,none⟩) S.dirty.length F.ct):=by rw [World.cell?_of_block (Below.heap_setCell _ _ _ _ n2)];exact c3
   have HP:=LH (hd1.put j x (by omega) hx);have HT:Hid (Qam F.list w ((w1.setCell ⟨F.c,j,none⟩ (Qad x)).setCell ⟨F.t,j/8,none⟩ (.bool true))) :=
    LH (ht1'.trans ((Qam.setCell _ (by simp [Qb0.list]) _).trans (Qam.setCell _ (by simp [Qb0.list]) _)))
   clear hd1 ht1' hy hu hn hst e1 e2 HR;go_wp2_with fail
   go_ret
   exact ⟨Qau HE.out.symm,by rw [HSt.out];exact HP.out,HT.out⟩
  ·rw [hst] at HE HSt;clear hst HR;go_wp2_with fail
   go_ret
   exact ⟨Qau HE.out.symm,by rw [HSt.out];assumption,ht1'⟩
 ·have HV:Hid (S.storeE (j:Int)=2∧S.store (j:Int) x=S):=LH (by unfold Dev.storeE Dev.store;rw [if_pos (.inr (by omega)),if_pos (.inr (by omega))];exact ⟨rfl,rfl⟩);have HD:=LH h;clear hh h;go_enter Tryz.func104,Tryz.ntmps104;go_wp2_with fail
  go_ret
  exact ⟨Qau HV.out.1.symm,by rw [HV.out.2];exact HD.out,Qam.refl _ _⟩
structure Qbi (w:World) where
 val:World
 below:Below w.heap.size w val
instance (w:World):Nonempty (Qbi w):=⟨⟨w,Below.refl _ _⟩⟩
theorem Qab {w:World} {p:Addr} {v:Value} (h:w.cell? p=some v) (x:Qbi w):x.val.cell? p=some v:=by
 rw [x.below.cell (World.block_lt_of_cell? _ _ h)];exact h
section
variable {P:Program} {ops:Array Oper} {md:Region.Mode} {C:World→Prop} {Q:Exit→Act→World→Prop}
theorem Qbh {id:Nat} {a:Act} {w:World} {l:List Oper} (hm:P.follows .mixedOrders=true) (hB:Region.lexB .any l.toArray=true)
  (h:wpQuiet P l.toArray (fun w'=>∃x:Qbi w,w'=x.val) (fun a'=>∀w',(∃x:Qbi w,w'=x.val)→Q .normal a' w') l a):(Code.region id l.toArray true).wp P Q a w :=
 wp_region_quiet (C:=fun w'=>∃x:Qbi w,w'=x.val) hm hB ⟨⟨w.drew,(Below.refl _ _).drew⟩,rfl⟩ (by simpa using h)
theorem Qb7 {f:FuncId} {args:Array Value} {w:World} {x:Qbi w} {v:Value} (h:Calls P f args x.val fun e w'=>e=.returned v∧Below x.val.heap.size x.val w') :
  Calls P f args x.val fun e w''=>e=.returned v∧∃y:Qbi w,w''=y.val :=
 h.mono fun _ w' ⟨he,hb⟩=>⟨he,⟨w',x.below.trans (hb.mono x.below.size)⟩,rfl⟩
theorem Qik {w:World} {base e size n:Nat} {v:Value} {xs:List Value} (h:w.ownsRow base e size v n xs) (hn:0<n):∃g c,v=.slice (some ⟨g,0,none⟩) n c∧n≤c∧c≤maxLen∧base≤g∧g<w.heap.size:=by
 rcases h.2 with ⟨rfl,rfl⟩|⟨g,cap,cur,rfl,hb,hg,h1,h2,_⟩
 ·omega
 ·exact ⟨_,_,rfl,h1,h2,hb,(Array.getElem?_eq_some_iff.1 hg).1⟩
theorem Qbp {w : World} {rest : List Oper} {o : Oper} {a : Act} {s x : Operand} {t e : TypeId} {z : Value} {size bytes base n : Nat} {v : Value} {xs : List Value} {us : Array Value} (E : Qgg P t e z size bytes)
  (hown : w.ownsRow base e size v n xs) (hus : us.size = size) (hu : ∀ u ∈ us.toList, u.oneCell' = true) (hn : n < 1000000000000) (hby : bytes ≤ 64) (hbase : base ≤ w.heap.size)
  (hgd : o.guard = none) (ho : o.op = .call { callee := .builtin .append, args := #[s, x], argTypes := #[t, t] })
  (hs : a.eval s = v) (hx : a.eval x = .slice (some ⟨w.heap.size, 0, none⟩) 1 1)
  (hK : ∀ g c w', w'.ownsRow base e size (.slice (some ⟨g, 0, none⟩) (n + 1) c) (n + 1) (xs ++ us.toList) → w.grownBy w' v.ownBlock → n + 1 ≤ c → c ≤ maxLen → base ≤ g → g < w'.heap.size →
   wpList P ops Q rest (a.put o.dst (.slice (some ⟨g, 0, none⟩) (n + 1) c)) w') :
  wpList P ops Q (o :: rest) a (w.alloc (.cells us e)) := by
 refine Qjf E hown hus hu hn hby hbase hgd ho hs hx ?_;intro v' w' h1 h2 _;obtain ⟨g, c, rfl, hc, hm, hb, hg⟩ := Qik h1 (by omega);exact hK g c w' h1 h2 hc hm hb hg
def calm:Op→Bool
 | .move _ | .assign _ | .pick .. | .build .. | .load .. | .unOp .. | .slice .. | .fieldAddr .. | .field .. | .indexAddr .. | .index .. | .extract .. | .binOp .. | .convert .. | .nilCheck _=>true
 | .call { callee:=.builtin .len,.. }=>true
 | _=>false
theorem Qkz {o:Oper} (h:calm o.op=true) {ρ:Operand→Value} {w w':World} {n:Next} (hr:(execOp ρ o).run P w=.ok n w'):∃v,n=.value v:=by
 have key:∀(s:Sem Value),(do pure (Next.value (← s)):Sem Next).run P w=.ok n w'→∃v,n=.value v:=by
  intro s hs;rw [Sem.run_bind] at hs
  cases hq:s.run P w with
  | ok v w1=>rw [hq] at hs;simp [Result.andThen] at hs;exact ⟨v,hs.1.symm⟩
  | halt x w1=>rw [hq] at hs;simp [Result.andThen] at hs
 obtain ⟨dst,op,type,pos,after,guard⟩:=o
 cases op with
 | move x=>simp [execOp] at hr;exact ⟨_,hr.1.symm⟩
 | assign x=>simp [execOp] at hr;exact ⟨_,hr.1.symm⟩
 | pick c x y =>
  simp only [execOp,Sem.run_bind] at hr
  cases hq:(asBool (ρ c)).run P w with
  | ok v w1=>rw [hq] at hr;simp [Result.andThen] at hr;exact ⟨_,hr.1.symm⟩
  | halt x w1=>rw [hq] at hr;simp [Result.andThen] at hr
 | call c =>
  obtain ⟨callee,args,tys⟩:=c
  cases callee with
  | builtin b =>
   cases b with
   | len =>
    simp only [execOp,resolve,Sem.run_bind,Sem.run_pure,Result.andThen_ok,invoke,builtin] at hr
    exact key _ (by rw [Sem.run_bind];exact hr)
   | _=>simp [calm] at h
  | _=>simp [calm] at h
 | build t ps=>exact key _ hr
 | load t x=>exact key _ hr
 | unOp x t y=>exact key _ hr
 | slice t x l h m=>exact key _ hr
 | fieldAddr t x f=>exact key _ hr
 | field t x f=>exact key _ hr
 | indexAddr t x i=>exact key _ hr
 | index t x i=>exact key _ hr
 | extract x i=>exact key _ hr
 | binOp o t x y u=>exact key _ hr
 | convert x y z=>exact key _ hr
 | nilCheck x =>
  simp only [execOp] at hr
  split at hr
  ·simp [go_sem] at hr
  ·simp [go_sem] at hr
  ·simp [go_sem] at hr
  ·split at hr
   ·simp [go_sem] at hr
   ·simp only [Sem.run_bind] at hr
    cases hq:(program:Sem Program).run P w with
    | ok v w1 =>
     rw [hq] at hr;simp only [Result.andThen] at hr
     split at hr
     ·rename_i a w2 _
      by_cases hc:(a != some false)=true
      ·rw [if_pos hc] at hr;simp [go_sem] at hr
      ·rw [if_neg hc] at hr;simp at hr;exact ⟨_,hr.1.symm⟩
     ·cases hr
    | halt x w1=>rw [hq] at hr;simp [Result.andThen] at hr
   ·simp at hr;exact ⟨_,hr.1.symm⟩
  ·simp at hr;exact ⟨_,hr.1.symm⟩
 | _=>simp [calm] at h
theorem Qmj {t:TypeId} {len:Nat} {parts:Array (Nat × Value)} {w w':World} {v:Value} (h:(Instr.buildSlice t len parts).run P w=.ok v w'):∃ob,w'=w.alloc ob:=by
 unfold Instr.buildSlice at h;rw [Sem.run_bind] at h
 cases hd:P.underlying t with
 | none=>simp [underlying,hd,Result.andThen] at h
 | some d =>
  rw [run_underlying hd w] at h
  cases d <;> simp [Result.andThen] at h
  rename_i elem
  cases hi:P.info? elem with
  | none=>simp [sizeOf,typeInfo,hi,Result.andThen] at h
  | some inf =>
   simp [sizeOf,typeInfo,hi,Result.andThen] at h
   have key : ∀ x : Option (Array Value), Sem.run P (match x with | some cells => (fun a => Value.slice (some a) len len) <$> newRow elem cells | _ => stuck "buildSlice: a part of the wrong size") w = Result.ok v w' → ∃ ob, w' = w.alloc ob := by
    intro x hx
    cases x with
    | none=>simp at hx
    | some c =>
     simp [newRow] at hx
     exact ⟨_,hx.2.symm⟩
   split at h
   ·cases h
   ·split at h
    ·exact key _ h
    ·cases hz:inf.zero with
     | none=>simp [zeroValue,typeInfo,hi,hz] at h
     | some z =>
      simp [zeroValue,typeInfo,hi,hz] at h
      exact key _ h
def Jh9:Op→Bool
 | .buildSlice ..=>true
 | _=>false
theorem Qxk {o:Oper} (h:Jh9 o.op=true) {ρ:Operand→Value} {w w':World} {n:Next} (hr:(execOp ρ o).run P w=.ok n w'):∃v ob,n=.value v∧w'=w.alloc ob:=by
 obtain ⟨dst,op,type,pos,after,guard⟩:=o
 cases op with
 | buildSlice t len parts =>
  simp only [execOp] at hr
  rw [Sem.run_bind] at hr
  cases hq:(Instr.buildSlice t len (parts.map fun (i,x)=>(i,ρ x))).run P w with
  | ok v w1 =>
   rw [hq] at hr;simp [Result.andThen] at hr
   obtain ⟨ob,hob⟩:=Qmj hq;exact ⟨v,ob,hr.1.symm,by rw [← hr.2];exact hob⟩
  | halt x w1=>rw [hq] at hr;simp [Result.andThen] at hr
 | _=>simp [Jh9] at h
def Qct (md:Region.Mode) (ops:Array Oper):Nat→Nat→Nat→Bool
 | 0,_,_=>false
 | f+1,j,i=>match ops[j]? with
  | none=>false
  | some o=>o.after.toList.any fun e=>Region.binds md e && (e.on == i || Qct md ops f e.on i)
def Qoi (md:Region.Mode) (ops:Array Oper) (listed:Array Bool):Prop :=
 ∀j o,ops[j]?=some o→listed.getD j false=true→∀e∈o.after,Region.binds md e=true→listed.getD e.on false=true
theorem Qh9 {listed:Array Bool} (hs:Qoi md ops listed):∀(f j i:Nat) (o:Oper),ops[j]?=some o→(∀e∈o.after,Region.binds md e=true→listed.getD e.on false=true)→
  Qct md ops f j i=true→listed.getD i false=true:=by
 intro f
 induction f with
 | zero=>intro j i o _ _ h;simp [Qct] at h
 | succ f ih =>
  intro j i o ho hp h;simp only [Qct,ho,List.any_eq_true,Array.mem_toList_iff,Bool.and_eq_true,Bool.or_eq_true,beq_iff_eq] at h
  obtain ⟨e,he,hb,h⟩:=h;have h1:=hp e he hb;rcases h with rfl | h
  ·exact h1
  ·cases hq:ops[e.on]? with
   | none=>cases f <;> simp [Qct,hq] at h
   | some oe=>exact ih e.on i oe hq (hs e.on oe hq h1) h
theorem Qoi.set {listed:Array Bool} (hs:Qoi md ops listed) {i:Nat} (hi:i∈Region.ready md ops listed):Qoi md ops (listed.setIfInBounds i true):=by
 intro j o ho hj e he hb
 by_cases hij:i=j
 ·subst hij;obtain ⟨_,o',ho',hall⟩:=mem_ready.1 hi;rw [ho] at ho'
  cases ho'
  exact getD_set_true (hall e he hb)
 ·rw [getD_set_ne false hij] at hj;exact getD_set_true (hs j o ho hj e he hb)
def Qdh (P:Program) (md:Region.Mode) (ops:Array Oper) (Q:Exit→Act→World→Prop) (C:World→Prop) (loose:Nat→Bool):Nat→Array Bool→Act→World→Prop
 | 0,listed,a,w=>Region.ready md ops listed=[]∧Q .normal a w
 | fuel+1,listed,a,w =>
  (Region.ready md ops listed=[]→Q .normal a w)∧
  ∀i∈Region.ready md ops listed,wpOp P ops Q i (fun a' w'=>(loose i=true→C w')∧Qdh P md ops Q C loose fuel (listed.setIfInBounds i true) a' w') a w
theorem Qgq {loose:Nat→Bool} : ∀(fuel:Nat) (listed:Array Bool) (a:Act) (w:World),Qdh P md ops Q C loose fuel listed a w→wpAny P md ops Q fuel listed a w
 | 0,_,_,_,h=>h
 | fuel+1,_,_,_,h=>⟨h.1,fun i hi=>wpOp_mono (fun a' w' h'=>Qgq fuel _ a' w' h'.2) (h.2 i hi)⟩
def Qju (P:Program) (ops:Array Oper) (C:World→Prop) (o:Oper) (v:Value) (a:Act):Prop :=
 (Region.wanted o (yielded ops a.tmps)=true∧∀w,C w→(execOp a.eval o).run P w=.ok (.value v) w)∨(Region.wanted o (yielded ops a.tmps)=false∧v=undef)
theorem Qju.same {o:Oper} {v:Value} {a a':Act} (hy:Qju P ops C o v a) (he:execOp a'.eval o=execOp a.eval o) (hw:Region.wanted o (yielded ops a'.tmps)=Region.wanted o (yielded ops a.tmps)):Qju P ops C o v a':=by
 unfold Qju at *;rw [he,hw];exact hy
theorem Qju.wpOp {i:Nat} {o:Oper} {v:Value} {a:Act} (hi:ops[i]?=some o) (hy:Qju P ops C o v a) {K:Act→World→Prop} {w:World} (hC:C w) (h:K (a.put o.dst v) w):wpOp P ops Q i K a w:=by
 unfold Go.wpOp;simp only [hi]
 rcases hy with ⟨hw,hv⟩|⟨hw,rfl⟩
 ·simp only [hw,if_true,Oper.wp,hv w hC,Oper.upon];exact .inl h
 ·simp only [hw,Bool.false_eq_true,if_false];exact h
theorem Qtz {j:Nat} {oi oj:Oper} {v:Value} (hj:ops[j]?=some oj) (hap:oi.apart ops oj=true)
  (hsi:∀cs b,oi.op≠.select cs b) (hsj:∀cs b,oj.op≠.select cs b) (hQ:∀c a d v w,Q (.panic c) (a.put d v) w→Q (.panic c) a w) {K:Act→World→Prop} {a:Act} {w:World}
  (hy:Qju P ops C oi v a) (h:wpOp P ops Q j K (a.put oi.dst v) w) :
  wpOp P ops Q j (fun a' w'=>Qju P ops C oi v a'∧K (a'.put oi.dst v) w') a w:=by
 obtain ⟨h1,h2,h3⟩:=Oper.apart_spec hap;have keep:∀(a:Act),Qju P ops C oi v a→∀u,Qju P ops C oi v (a.put oj.dst u):=fun a hy u=>hy.same (execOp_put oi hsi a oj.dst u h3) (wanted_put oi a oj.dst u h3)
 have keepD:∀d,Qju P ops C oi v { a with defers:=d :: a.defers }:=fun d=>hy.same rfl rfl
 unfold Go.wpOp at *;simp only [hj] at *
 rw [wanted_put oj a oi.dst v h1] at h
 split
 ·rename_i hw
  simp only [hw,if_true] at h
  rcases h with h | ⟨hasks,hlets⟩
  case inr=>exact .inr ⟨by unfold Oper.asks at *;rw [execOp_put oj hsj a oi.dst v h1] at hasks;exact hasks,hlets⟩
  refine .inl ?_;unfold Oper.wp at *;rw [execOp_put oj hsj a oi.dst v h1] at h;generalize (execOp a.eval oj).run P w=r at *
  cases r with
  | ok n w' =>
   cases n <;> simp only [Oper.upon] at h ⊢
   case value u=>exact ⟨keep a hy u,by rw [← Act.put_comm a v u h2];exact h⟩
   case skip=>exact ⟨keep a hy _,by rw [← Act.put_comm a v undef h2];exact h⟩
   case defer d =>
    refine ⟨keep _ (keepD d) _,?_⟩;rw [← Act.put_comm _ v undef h2,← Act.put_defers];exact h
   case enter f args =>
    refine Calls.mono h fun e w'' he=>?_
    cases e with
    | returned u=>exact ⟨keep a hy u,by rw [← Act.put_comm a v u h2];exact he⟩
    | panicked c=>exact hQ _ _ _ _ _ he
    | outgrown=>exact he
   case row row args=>exact Rows.mono h fun u w'' he=>⟨keep a hy u,by rw [← Act.put_comm a v u h2];exact he⟩
  | halt x w' =>
   cases x <;> simp only [Oper.upon] at h ⊢
   case panic u=>exact hQ _ _ _ _ _ h
 ·rename_i hw
  simp only [hw] at h
  exact ⟨keep a hy _,by rw [← Act.put_comm a v undef h2];exact h⟩
def Qhf (md:Region.Mode) (ops:Array Oper):Nat→Nat→Array Bool→Bool
 | 0,_,listed=>(Region.ready md ops listed).isEmpty
 | f+1,k,listed=>(Region.ready md ops listed == [k]) && Qhf md ops f (k+1) (listed.setIfInBounds k true)
def Qks (ops:Array Oper) (n j:Nat):Bool:=decide (j<n) || (j == n && (match ops[n]? with | some o=>Jh9 o.op | none=>false))
theorem Qu1 {n:Nat} (hA:∀w ob,C w→C (w.alloc ob)):∀(l:List Oper) (k:Nat) (listed:Array Bool) (a:Act) (w:World),(∀j,l[j]?=ops[k+j]?)→n≤k→(k=n→C w)→
  Qhf md ops l.length k listed=true→wpList P ops Q l a w→Qdh P md ops Q C (Qks ops n) l.length listed a w
 | [],_,_,_,_,_,_,_,hB,h=>⟨by simpa [Qhf] using hB,h⟩
 | o :: l,k,listed,a,w,hl,hk,hC,hB,h=>by
  have h0:ops[k]?=some o:=by simpa using (hl 0).symm
  simp only [List.length_cons,Qhf,Bool.and_eq_true,beq_iff_eq] at hB
  obtain ⟨hr,hB'⟩:=hB;refine ⟨fun he=>(by rw [hr] at he;cases he),fun i hi=>?_⟩;rw [hr] at hi;obtain rfl:i=k:=by simpa using hi
  have hnext:∀a' w',wpList P ops Q l a' w'→Qdh P md ops Q C (Qks ops n) l.length (listed.setIfInBounds i true) a' w':=fun a' w' h' =>
   Qu1 hA l (i+1) _ a' w' (fun j=>by have:=hl (j+1);simpa [Nat.add_assoc,Nat.add_comm 1 j] using this) (by omega) (by omega) hB' h'
  by_cases hlo:Qks ops n i=true
  ·have hin:i=n∧Jh9 o.op=true:=by
    simp only [Qks,Bool.or_eq_true,decide_eq_true_eq,Bool.and_eq_true,beq_iff_eq] at hlo
    rcases hlo with h | ⟨rfl,h⟩
    ·omega
    ·rw [h0] at h;exact ⟨rfl,h⟩
   have hCw:=hC hin.1;unfold wpOp;simp only [h0]
   unfold wpList at h
   by_cases hw:Region.wanted o (yielded ops a.tmps)=true
   ·rw [if_pos hw] at h ⊢;rcases h with h | h
    ·refine .inl ?_;unfold Oper.wp at *
     cases hr:(execOp a.eval o).run P w with
     | ok m w' =>
      obtain ⟨v,ob,rfl,rfl⟩:=Qxk hin.2 hr;rw [hr] at h;simp only [Oper.upon] at h ⊢
      exact ⟨fun _=>hA w ob hCw,hnext _ _ h⟩
     | halt x w' =>
      rw [hr] at h
      cases x <;> simp only [Oper.upon] at h ⊢ <;> exact h
    ·exact .inr h
   ·rw [if_neg hw] at h ⊢;exact ⟨fun _=>hCw,hnext _ _ h⟩
  ·unfold wpOp;simp only [h0]
   unfold wpList at h
   by_cases hw:Region.wanted o (yielded ops a.tmps)=true
   ·rw [if_pos hw] at h ⊢;exact h.imp (Oper.wp_mono (fun a' w' h'=>⟨fun hc=>absurd hc hlo,hnext _ _ h'⟩)) id
   ·rw [if_neg hw] at h ⊢;exact ⟨fun hc=>absurd hc hlo,hnext _ _ h⟩
theorem Qkc (n:Nat):Qoi md ops (Array.replicate n false):=by
 intro j o _ hj;exfalso
 by_cases h:j<n <;> simp [h] at hj
end
section
variable {P:Program} {ops:Array Oper} {md:Region.Mode} {C:World→Prop} {Q:Exit→Act→World→Prop}
def Qr7 (P:Program) (md:Region.Mode) (ops:Array Oper) (C:World→Prop) (n:Nat) (R:Array Bool→Act→Prop):Nat→Array Bool→Act→Prop
 | 0,listed,a=>Region.ready md ops listed=[n]∧R listed a
 | fuel+1,listed,a=>Region.ready md ops listed≠[]∧∀i∈Region.ready md ops listed,qOp P ops C i (Qr7 P md ops C n R fuel (listed.setIfInBounds i true)) a
theorem Qqa {n m:Nat} {R:Array Bool→Act→Prop} (hR:∀listed a w,C w→R listed a→wpAny P md ops Q m listed a w):∀(fuel:Nat) (listed:Array Bool) (a:Act) (w:World),C w→
  Qr7 P md ops C n R fuel listed a→wpAny P md ops Q (fuel+m) listed a w
 | 0,listed,a,w,hC,h=>by rw [Nat.zero_add];exact hR _ _ _ hC h.2
 | fuel+1,listed,a,w,hC,h=>by
  rw [show fuel+1+m=(fuel+m)+1 by omega];exact ⟨fun h0=>absurd h0 h.1,fun i hi=>wpOp_of_qOp hC (fun a' w' hw' h'=>Qqa hR fuel _ a' w' hw' h') (h.2 i hi)⟩
def Jfv (md:Region.Mode) (ops:Array Oper) (n k:Nat):Bool :=
 (List.range (n+1)).any fun j=>decide (k<j) && (match ops[j]? with | some o=>o.after.toList.any fun e=>Region.binds md e && e.on == k | none=>false)
theorem Qnr {n:Nat} {listed:Array Bool} {on:Oper} (hc:∀k,k<n→Jfv md ops n k=true) (hs:Qoi md ops listed) (hon:ops[n]?=some on)
  (hall:∀e∈on.after,Region.binds md e=true→listed.getD e.on false=true):∀d k,k+d=n→0<d→listed.getD k false=true:=by
 intro d
 induction d using Nat.strongRecOn with
 | ind d ih =>
  intro k hk hd;have h:=hc k (by omega);simp only [Jfv,List.any_eq_true,List.mem_range,Bool.and_eq_true,decide_eq_true_eq] at h
  obtain ⟨j,hj,hkj,h⟩:=h
  cases hq:ops[j]? with
  | none=>rw [hq] at h;cases h
  | some o =>
   rw [hq] at h;simp only [List.any_eq_true,Array.mem_toList_iff,Bool.and_eq_true,beq_iff_eq] at h
   obtain ⟨e,he,hb,rfl⟩:=h
   by_cases hjn:j=n
   ·subst hjn;rw [hon] at hq
    cases hq
    exact hall e he hb
   ·exact hs j o hq (ih (n-j) (by omega) j (by omega) (by omega)) e he hb
theorem Qs8 {n i:Nat} {R:Array Bool→Act→Prop} {oi:Oper} {v:Value} (hi:ops[i]?=some oi) (hsel:∀(j:Nat) (o:Oper) cs b,ops[j]?=some o→o.op≠.select cs b)
  (hc:∀k,k<n→Jfv md ops n k=true) (hin:i<n) :
  ∀(fuel:Nat) (listed:Array Bool) (a:Act),
   (∀j oj,ops[j]?=some oj→j≠i→listed.getD j true=false→(∀e∈oj.after,Region.binds md e=true→e.on≠i)→oi.apart ops oj=true)→
   i∈Region.ready md ops listed→Qoi md ops listed→YieldsIn P ops C oi v a→
   Qr7 P md ops C n R fuel (listed.setIfInBounds i true) (a.put oi.dst v)→Qr7 P md ops C n R (fuel+1) listed a:=by
 intro fuel
 induction fuel with
 | zero =>
  intro listed a _ hr hsh hy H;refine ⟨fun h=>(by rw [h] at hr;cases hr),fun j hj=>?_⟩
  by_cases hji:j=i
  ·subst hji;exact hy.qOp hi H
  ·exfalso
   have:=ready_mono hj hji;rw [H.1] at this;have hjn:j=n:=by simpa using this
   subst hjn;obtain ⟨_,oj,hoj,hall⟩:=mem_ready.1 hj;have h1:=Qnr hc hsh hoj hall (j-i) i (by omega) (by omega);have h0:=(mem_ready.1 hr).1;rcases Nat.lt_or_ge i listed.size with h' | h'
   ·simp [h'] at h0 h1;rw [h0] at h1;cases h1
   ·simp [Array.getElem?_eq_none h'] at h1
 | succ fuel ih =>
  intro listed a hfree hr hsh hy H;refine ⟨fun h=>(by rw [h] at hr;cases hr),fun j hj=>?_⟩
  by_cases hji:j=i
  ·subst hji;exact hy.qOp hi H
  ·have h1:=H.2 j (ready_mono hj hji);obtain ⟨hjun,oj,hoj,hall⟩:=mem_ready.1 hj;have hnot:∀e∈oj.after,Region.binds md e=true→e.on≠i:=fun e he hb heq=>by
    have h1:=hall e he hb;have h0:=(mem_ready.1 hr).1;rw [heq] at h1;rcases Nat.lt_or_ge i listed.size with h' | h'
    ·simp [h'] at h0 h1;rw [h0] at h1;cases h1
    ·simp [Array.getElem?_eq_none h'] at h1
   have h2:=qOp_put hoj (hfree j oj hoj hji hjun hnot) (fun cs b=>hsel i oi cs b hi) (fun cs b=>hsel j oj cs b hoj) hy h1;have hfree':∀k ok,ops[k]?=some ok→k≠i→(listed.setIfInBounds j true).getD k true=false→
     (∀e∈ok.after,Region.binds md e=true→e.on≠i)→oi.apart ops ok=true:=fun k ok hk hki hun hno=>by
    refine hfree k ok hk hki ?_ hno
    by_cases hjk:j=k
    ·subst hjk;exact hjun
    ·rw [getD_set_ne true hjk] at hun;exact hun
   refine qOp_mono (fun a' h3=>ih (listed.setIfInBounds j true) a' hfree' (ready_mono hr (Ne.symm hji)) (hsh.set hj) h3.1 ?_) h2;rw [Array.setIfInBounds_comm _ _ hji];exact h3.2
def Qh4 (md:Region.Mode) (ops:Array Oper) (n:Nat):Nat→Nat→Array Bool→Bool
 | 0,_,listed=>(Region.ready md ops listed == [n]) && Qhf md ops (ops.size-n) n listed
 | m+1,k,listed=>(Region.ready md ops listed).contains k && Region.free md ops listed k && Qh4 md ops n m (k+1) (listed.setIfInBounds k true)
def Jhc (md:Region.Mode) (ops:Array Oper) (n:Nat):Bool:=Region.noSelect ops && (List.range n).all (Jfv md ops n) && Qh4 md ops n n 0 (Array.replicate ops.size false)
theorem Jhi {n : Nat} (hs : Region.noSelect ops = true) (hc : ∀ k, k < n → Jfv md ops n k = true) {T : List Oper} : ∀ (m : Nat) (l : List Oper) (k : Nat) (listed : Array Bool) (a : Act), (∀ j, l[j]? = ops[k + j]?) → k + m = n → Qoi md ops listed → Qh4 md ops n m k listed = true →
      l.drop m = T → wpQuiet P ops C (fun a' => ∀ w', C w' → wpList P ops Q T a' w') (l.take m) a →
      Qr7 P md ops C n (fun listed a' => Qhf md ops (ops.size - n) n listed = true ∧ ∀ w', C w' → wpList P ops Q T a' w') m listed a := by
  intro m
  induction m with
  | zero =>
    intro l k listed a _ _ _ hB _ h;simp only [Qh4, Bool.and_eq_true, beq_iff_eq] at hB
    exact ⟨hB.1, hB.2, by simpa [wpQuiet] using h⟩
  | succ m ih =>
    intro l k listed a hl hk hsh hB hT h;simp only [Qh4, Bool.and_eq_true] at hB
    obtain ⟨⟨hr, hf⟩, hB'⟩ := hB;have hrk : k ∈ Region.ready md ops listed := by simpa using hr
    obtain ⟨_, o0, ho0, _⟩ := mem_ready.1 hrk
    cases l with
    | nil =>
      have : ops[k]? = none := by simpa using (hl 0).symm
      rw [this] at ho0
      cases ho0
    | cons o l =>
      have h0 : ops[k]? = some o := by simpa using (hl 0).symm
      simp only [List.take_succ_cons] at h
      have hst : qOp P ops C k (wpQuiet P ops C (fun a' => ∀ w', C w' → wpList P ops Q T a' w') (l.take m)) a := by unfold qOp; simp only [h0]; exact h
      obtain ⟨v, hy, hK⟩ := yieldsIn_of_qOp h0 hst;exact Qs8 h0 (Region.noSelect_spec hs) hc (by omega) m listed a (Region.free_spec h0 hf) hrk hsh hy
        (ih l (k + 1) _ _ (fun j => by have := hl (j + 1); simpa [Nat.add_assoc, Nat.add_comm 1 j] using this) (by omega) (hsh.set hrk) hB' (by simpa using hT) hK)
theorem Qo8 {id:Nat} {a:Act} {w:World} {l:List Oper} (n:Nat) (hn:n≤l.length) (hm:P.follows .mixedOrders=true) (hB:Jhc .any l.toArray n=true) (hC:C w.drew)
  (h:wpQuiet P l.toArray C (fun a'=>∀w',C w'→wpList P l.toArray Q (l.drop n) a' w') (l.take n) a):(Code.region id l.toArray true).wp P Q a w:=by
 simp only [Jhc,Bool.and_eq_true] at hB
 refine wp_region_any hm ?_;have h1:=Jhi (md:=.any) (n:=n) (Q:=Q) (C:=C) hB.1.1 (fun k hk=>by have:=hB.1.2;simp only [List.all_eq_true,List.mem_range] at this;exact this k hk) n l 0 (Array.replicate l.toArray.size false) a (by simp) (by omega) (Qkc _) hB.2 rfl h;have h2:=Qqa (Q:=Q) (m:=(l.drop n).length) (fun listed a' w' hw' ⟨ht,hk⟩=>Qgq (C:=fun _=>True) (loose:=Qks l.toArray n) _ _ _ _
  (Qu1 (n:=n) (fun _ _ _=>trivial) (l.drop n) n listed a' w' (by simp) NR (fun _=>trivial) (by simpa using ht) (hk w' hw'))) n _ a w.drew hC h1
 have e:n+(l.drop n).length=l.toArray.size:=by simp;omega
 rw [e] at h2;exact h2
theorem Qb1 {id:Nat} {a:Act} {w:World} {l:List Oper} (n:Nat) (hn:n≤l.length) (hm:P.follows .mixedOrders=true) (hB:Jhc .any l.toArray n=true)
  (h:wpQuiet P l.toArray (fun w'=>∃x:Qbi w,w'=x.val) (fun a'=>∀w',(∃x:Qbi w,w'=x.val)→wpList P l.toArray Q (l.drop n) a' w') (l.take n) a):(Code.region id l.toArray true).wp P Q a w :=
 Qo8 (C:=fun w'=>∃x:Qbi w,w'=x.val) n hn hm hB ⟨⟨w.drew,(Below.refl _ _).drew⟩,rfl⟩ h
end
end
end Go.Proofs.YtpohaahihdhleaaGreat
