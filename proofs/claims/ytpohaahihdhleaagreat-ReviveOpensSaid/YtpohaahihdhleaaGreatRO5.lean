/- Parts of the proof of one statement of the seat. -/
import Derived.Test.YtpohaahihdhleaaGreatRO4
import Derived.Deep.QuietTactic
import Derived.BigQuiet
import Derived.WalkKit
import Derived.Deep.Cut
import Derived.Maps.OwnOps
import Derived.Maps.RangeWalk
import Derived.Maps.OwnSet
import Derived.Maps.Views
import Derived.WideKeyEntry
import Derived.Carry
set_option linter.unusedVariables false
set_option maxHeartbeats 16000000
set_option maxRecDepth 100000
open Go.RowKit
namespace Go.Proofs.YtpohaahihdhleaaGreat
section
theorem Jdp (l:List Nat) (i:Int) (h:i<0):Qdr l i=0:=by unfold Qdr;rw [if_neg (by omega)]
theorem Jek (l:List Nat) (j:Nat) (h:l.length≤j):Qdr l (j:Int)=0:=by
 unfold Qdr;rw [if_pos (by omega)];simp [List.getElem?_eq_none h]
theorem Qlm (l:List Nat) (j:Nat):Qdr l (j:Int)=l.getD j 0:=by unfold Qdr;rw [if_pos (by omega)];rfl
theorem Qg8 (a:Option Addr) (n cap:Nat) (ls:List Nat) (w:World) (hc:Qaq w a (ls.map Qad)) (hl:ls.length=8*n) (hn:n≤1000000) (i:Int) :
  Calls Tryz.prog 48 #[.slice a n cap,.int .i64 i] w fun e w'=>e=.returned (Qad (Qdr ls i))∧w=w':=by
 by_cases h0:i<0
 ·have HV:=LH (Jdp ls i h0);clear hl hc;go_enter Tryz.func48,Tryz.ntmps48;go_wp2_with fail
  go_ret
  exact ⟨Qau (by rw [HV.out];rfl),rfl⟩
 obtain ⟨j,rfl⟩:=Int.eq_ofNat_of_zero_le (show 0≤i by omega)
 by_cases h1:j<8*n
 ·obtain ⟨b,off,rfl,hb,hcs⟩:=hc.atMap 0 (show j<ls.length by omega);have hcell:w.cell? ⟨b,off+j/8*8+j % 8,none⟩=some (Qad (ls.getD j 0)):=by
   rw [show off+j/8*8+j % 8=off+j by omega];exact hcs j (by omega)
  have HV:=LH (Qlm ls j);generalize ls.getD j 0=x at *;have hj8:j/8<n:=by omega
  have hj1:(j:Int)<8*(n:Int):=by omega
  clear hl hc hcs h1;go_enter Tryz.func48,Tryz.ntmps48;go_wp2_with fail
  go_ret
  exact ⟨Qau (by rw [HV.out]),rfl⟩
 ·have HV:=LH (Jek ls j (by omega));have h2:8*(n:Int)≤(j:Int):=by omega
  clear hl hc;go_enter Tryz.func48,Tryz.ntmps48;go_wp2_with fail
  go_ret
  exact ⟨Qau (by rw [HV.out];rfl),rfl⟩
theorem Jik:Qgg Tryz.prog 53 105 (.agg #[.int .i64 0,.int .i64 0,.int .i64 0]) 3 24:=Qgg.mk' Tryz.underlying53 (by kernel_rfl) rfl (by decide)
theorem Qy3 {w w':World} {v:Value} {base e size n:Nat} {xs:List Value} (hg:w.grownBy w' v.ownBlock) (ho:w.ownsRow base e size v n xs) {p:Addr} {x:Value} (hb:p.block<base) (h:w.cell? p=some x):w'.cell? p=some x:=by
 have hlt:=World.block_lt_of_cell? _ _ h;rw [World.cell?_of_block (w:=w) (hg.block p.block hlt (fun c=>by have:=(ho.lt p.block c.symm).1;omega))];exact h
theorem Jcw (a:Option Addr) (n cap:Nat) (ls:List Nat) (v1 v2 v3 v4 v5 v6 v7:Value) (w:World) (hc:Qaq w a (ls.map Qad)) (hl:ls.length=8*n) (hn:n≤100000) (hu:∀z∈ls,z<18446744073709551616) (B:Nat) (hB1:1≤B) (hB:B≤1000) :
  Calls Tryz.prog 50 #[.agg #[.slice a n cap,v1,v2,v3,v4,v5,v6,v7],.int .i64 (B:Int)] w (Qhl 105 (fun b:Nat=>Qdr ls (256+(b:Int))) B w):=by
 obtain ⟨f,hf⟩:∃f:Nat→Nat,f=fun b:Nat=>Qdr ls (256+(b:Int)):=⟨_,rfl⟩
 rw [← hf];have HF0:=LH hf;generalize hP:Qhl 105 f B w=Post;have HPE:=LH hP;have HC:=LH hc;have HL:=LH hl;have HU:=LH hu;clear hf hP hc hl hu;obtain ⟨w0,hw0⟩:∃w0,w0=(w.alloc (.cells #[.slice a n cap,v1,v2,v3,v4,v5,v6,v7] 38)).alloc (.cells #[.int .i64 0,.int .i64 0,.int .i64 0] 105):=⟨_,rfl⟩
 have hb0:Below w.heap.size w w0:=by rw [hw0];exact (Qaf _ _).alloc (by simp) _
 have hc0:w0.cell? ⟨w.heap.size,0,none⟩=some (.slice a n cap):=by
  rw [hw0];exact Qaz (Qaf _ _) (Qat _ _ _ 0 _ rfl) NR
 have ho0:w0.ownsRow (w.heap.size+1) 105 3 (.slice (some ⟨w.heap.size+1,0,none⟩) 1 1) 1 (Qbt (hds f 1)):=by
  refine ⟨rfl,.inr ⟨w.heap.size+1,1,#[.int .i64 0,.int .i64 0,.int .i64 0],rfl,Nat.le_refl _,?_,Nat.le_refl _,by unfold maxLen;omega,rfl,rfl⟩⟩;rw [hw0];have:=heap_alloc_new (w.alloc (.cells #[.slice a n cap,v1,v2,v3,v4,v5,v6,v7] 38)) (.cells #[.int .i64 0,.int .i64 0,.int .i64 0] 105);simpa using this
 have HW0:=LH hw0;have HB0:=LH hb0;have HC0:=LH hc0;have HO0:=LH ho0;clear hw0 hb0 hc0 ho0;go_enter Tryz.func50,Tryz.ntmps50;go_wp2_with fail;rw [← HW0.out]
 go_loopw [7,8] (fun v i wr=>∃k:Nat,1≤k∧k≤B∧i=.int .i64 k∧Qe3 f k∧(∃g c,v=.slice (some ⟨g,0,none⟩) k c∧k≤c∧w.heap.size≤g)∧wr.ownsRow (w.heap.size+1) 105 3 v k (Qbt (hds f k))∧wr.cell? ⟨w.heap.size,0,none⟩=some (.slice a n cap)∧Below w.heap.size w wr) (fun _ i _=>B-(intOf i).toNat)
 case atStart=>exact ⟨1,Nat.le_refl _,hB1,rfl,(fun b h1 h2=>by omega),⟨_,_,rfl,Nat.le_refl _,by omega⟩,HO0.out,HC0.out,HB0.out⟩
 case round =>
  obtain ⟨k,hk1,hk2,rfl,hok,⟨g,c,rfl,hkc,hgw⟩,ho,hcx,hb⟩:=hrel;have HOK:=LH hok;have HO:=LH ho;have HB:=LH hb;have HCr:=LH (HC.out.below hb NR);clear hok ho hb
  by_cases hlt:k<B
  ·have hlt':(k:Int)<(B:Int):=by omega
   go_wp2_with fail;refine (Qg8 a n cap ls _ HCr.out HL.out (by omega) _).mono ?_;rintro e w3 ⟨rfl,rfl⟩;have HX:Hid (Qdr ls (256+(k:Int))=f k):=LH (by rw [HF0.out]);have hx:f k<18446744073709551616:=by rw [← HX.out];exact Qql HU.out _
   rw [HX.out];go_wp2_with fail;refine (Qu7 (k:Int) (f k) (by omega) (by omega) hx _).mono ?_;rintro e w4 ⟨rfl,hb4⟩;have HF:Hid (⟨(Qge k (f k)).k,(Qge k (f k)).c,(Qge k (f k)).l⟩=hdF f k):=LH (by unfold hdF;rw [if_neg (by omega)]);have HCc:Hid ((Qge k (f k)).code=0∨(Qge k (f k)).code≠0):=LH (by omega);have HOK2:Hid ((Qge k (f k)).code=0→Qe3 f (k+1)):=LH (fun h=>HOK.out.succ h);have HBad:Hid ((Qge k (f k)).code≠0→∀w',Below w.heap.size w w'→Post (.returned (.tuple #[.slice none 0 0,.int .i64 k,.int .i64 21])) w'):=LH (fun h w' hw'=>by
    rw [← HPE.out];exact ⟨hw',.inr ⟨k,hk1,hlt,HOK.out,h,rfl⟩⟩)
   unfold Dec.val;generalize Qge k (f k)=dd at *;obtain ⟨dk,dc,dl,dcode⟩:=dd;dsimp only at *;have HB4:=LH hb4;clear hb4;rcases HCc.out with hz | hz
   ·subst hz;have HOK3:=LH (HOK2.out rfl);have HBE:Hid (Below w.heap.size w w4):=LH (HB.out.trans (HB4.out.mono HB.out.size));have hb5:=Qaf w4 (Obj.cells #[Value.int .i64 dk,Value.int .i64 dc,Value.int .i64 dl] 105);have HO5:Hid ((w4.alloc (Obj.cells #[Value.int .i64 dk,Value.int .i64 dc,Value.int .i64 dl] 105)).ownsRow (w.heap.size+1) 105 3 (.slice (some ⟨g,0,none⟩) k c) k (Qbt (hds f k))):=LH ((Qcc HO.out HB4.out NR).alloc _);have HCX5:Hid ((w4.alloc (Obj.cells #[Value.int .i64 dk,Value.int .i64 dc,Value.int .i64 dl] 105)).cell? ⟨w.heap.size,0,none⟩=some (.slice a n cap)):=LH (Qaz hb5 (Qaz HB4.out hcx NR) NR);have HB5:Hid (Below w.heap.size w (w4.alloc (Obj.cells #[Value.int .i64 dk,Value.int .i64 dc,Value.int .i64 dl] 105))):=LH (HBE.out.alloc HBE.out.size _);have hone:Hid (∀u∈(#[Value.int .i64 dk,Value.int .i64 dc,Value.int .i64 dl]:Array Value).toList,u.oneCell'=true):=LH (by intro u hu;simp at hu;rcases hu with rfl | rfl | rfl <;> rfl);have hbase:Hid (w.heap.size+1≤(w4.alloc (Obj.cells #[Value.int .i64 dk,Value.int .i64 dc,Value.int .i64 dl] 105)).heap.size):=LH (by have:=HBE.out.size;simp;omega);have hk9:k<1000000000000:=by omega
    clear hb5 hcx;go_wp2_with (at_builtin;refine Qbp (us:=#[.int .i64 dk,.int .i64 dc,.int .i64 dl]) Jik HO5.out rfl hone.out hk9 (by decide) hbase.out rfl rfl rfl (by simp [Act.eval]) ?_;intro g6 c6 w6 ho6 hg6 hc6 hm6 hb6 hl6;have HO6:=LH ho6;have HG6:=LH hg6;clear ho6 hg6)
    refine ⟨⟨k+1,by omega,by omega,Qb2 (by omega),HOK3.out,⟨g6,c6,rfl,hc6,by omega⟩,?_,?_,?_⟩,by simp [intOf];omega⟩
    ·rw [Qwn,Qcv,← HF.out];exact HO6.out
    ·exact Qy3 HG6.out HO5.out (by simp) HCX5.out
    ·exact Qav HB5.out HO5.out HG6.out NR (by omega)
   ·have hz1:(dcode != 0)=true:=by simpa using hz
    have HZ:=LH (HBad.out hz);have HBE:Hid (Below w.heap.size w w4):=LH (HB.out.trans (HB4.out.mono HB.out.size));clear hz HBad HCc HOK2;go_wp2_with fail
    go_ret3
    exact HZ.out _ (HBE.out.alloc (HBE.out.size) _)
  ·obtain rfl:k=B:=by omega
   have hlt':decide ((k:Int)<(k:Int))=false:=by simp
   go_wp2_with fail
   go_ret3
   rw [← HPE.out];exact ⟨HB.out,.inl ⟨HOK.out,g,c,rfl,hgw,hkc,Qd6 HO.out⟩⟩
structure Jf0 (w:World) (p:Nat) (F:Qb0) (B:Nat) (l:List Hd):Prop where
 ex:∃g c,w.heap[p]?=some (.cells #[Qei F,.int .i64 (B:Int),.slice (some ⟨g,0,none⟩) l.length c] 158 (0,0))∧l.length≤c∧Qa6 w g 107 (Qbt l)∧p≠g
def Hd.val (h:Hd):Value:=.agg #[.int .i64 h.k,.int .i64 h.c,.int .i64 h.l]
def Qe9 (l:List Hd) (b:Int):Hd:=if b<1∨(l.length:Int)≤b then ⟨0,0,0⟩ else l.getD b.toNat default
theorem Jd9 {w:World} {p B:Nat} {F:Qb0} {l:List Hd} (h:Jf0 w p F B l) (b:Int) (hl:l.length≤1000) :
  Calls Tryz.prog 121 #[.pointer (some ⟨p,0,none⟩),.int .i64 b] w fun e w'=>e=.returned (Qe9 l b).val∧Below w.heap.size w w':=by
 obtain ⟨g,c,hp,hc,hr,hne⟩:=h.ex;have c2:w.cell? ⟨p,2,none⟩=some (.slice (some ⟨g,0,none⟩) l.length c):=cell_of_row _ _ 2 _ _ _ hp;have hpl:p<w.heap.size:=(Array.getElem?_eq_some_iff.1 hp).1;have hgl:=hr.lt
 by_cases h1:b<1
 ·have HE:Hid (Qe9 l b=⟨0,0,0⟩):=LH (by unfold Qe9;rw [if_pos (.inl h1)]);clear hp hr h;go_enter Tryz.func121,Tryz.ntmps121;go_wp2_with fail;exact bodyPost_ret (v:=.agg #[.int .i64 0,.int .i64 0,.int .i64 0]) (by simp [results,Tryz.results121,go_sem]) rfl ⟨by rw [HE.out];rfl,Qaf _ _⟩
 by_cases h2:(l.length:Int)≤b
 ·have HE:Hid (Qe9 l b=⟨0,0,0⟩):=LH (by unfold Qe9;rw [if_pos (.inr h2)]);clear hp hr h;go_enter Tryz.func121,Tryz.ntmps121;go_wp2_with fail;exact bodyPost_ret (v:=.agg #[.int .i64 0,.int .i64 0,.int .i64 0]) (by simp [results,Tryz.results121,go_sem]) rfl ⟨by rw [HE.out];rfl,Qaf _ _⟩
 obtain ⟨j,rfl⟩:=Int.eq_ofNat_of_zero_le (show 0≤b by omega);have hj:j<l.length:=by omega
 have HE:Hid (Qe9 l (j:Int)=l.getD j default):=LH (by unfold Qe9;rw [if_neg (by omega)];rfl);have HA:=Qqp l j hj;generalize l.getD j default=hd at *;obtain ⟨hk,hcl,hln⟩:=hd;have d0:w.cell? ⟨g,j*3,none⟩=some (.int .i64 hk):=hr.cell (HA 0 _ rfl);have d1:w.cell? ⟨g,j*3+1,none⟩=some (.int .i64 hcl):=hr.cell (HA 1 _ rfl);have d2:w.cell? ⟨g,j*3+2,none⟩=some (.int .i64 hln):=hr.cell (HA 2 _ rfl);clear hp hr h HA;go_enter Tryz.func121,Tryz.ntmps121;go_wp2_with fail;exact bodyPost_ret (v:=.agg #[.int .i64 hk,.int .i64 hcl,.int .i64 hln]) (by simp [results,Tryz.results121,go_sem]) rfl ⟨by rw [HE.out];rfl,Qaf _ _⟩
theorem Jar (h:Hd) (w:World):Calls Tryz.prog 37 #[h.val] w fun e w'=>e=.returned h.val∧Below w.heap.size w w':=by
 obtain ⟨k,c,l⟩:=h;unfold Hd.val;dsimp only;have hb:Below w.heap.size w ((w.alloc (.cells #[.int .i64 k,.int .i64 c,.int .i64 l] 107)).alloc (.cells #[.int .i64 k,.int .i64 c,.int .i64 l] 105)):=(Qaf _ _).alloc (by simp) _;have HB:=LH hb;clear hb;go_enter Tryz.func37,Tryz.ntmps37;go_wp2_with fail;exact bodyPost_ret (v:=.agg #[.int .i64 k,.int .i64 c,.int .i64 l]) (by simp [results,Tryz.results37,go_sem]) rfl ⟨rfl,HB.out⟩
theorem Qe5 (l:List Hd) (j:Nat):∃k c n,l.getD j default=⟨k,c,n⟩:=⟨_,_,_,rfl⟩
theorem Jdz (a:Option Addr) (n cap:Nat) (l:List Hd) (hn:l.length=n) (w:World) (hc:Qaq w a (Qbt l)) (hl:n≤1000) :
  Calls Tryz.prog 17 #[.slice a n cap] w fun e w'=>∃v,e=.returned v∧w'.ownsRow w.heap.size 105 3 v n (Qbt l)∧Below w.heap.size w w':=by
 have HN:=LH hn;have HC:=LH hc;clear hn hc;go_enter Tryz.func17,Tryz.ntmps17;go_wp2_with fail
 go_loopw [3,4] (fun v i wr=>∃k:Nat,k≤n∧i=.int .i64 k∧wr.ownsRow w.heap.size 105 3 v k (Qbt (l.take k))∧Below w.heap.size w wr) (fun _ i _=>n-(intOf i).toNat)
 case atStart=>exact ⟨0,Nat.zero_le _,rfl,⟨rfl,.inl ⟨rfl,rfl⟩⟩,Below.refl _ _⟩
 case round =>
  obtain ⟨k,hk,rfl,ho,hb⟩:=hrel;obtain ⟨a1,c1,rfl,hc1,hm1⟩:=Qbe ho;have HO:=LH ho;have HB:=LH hb;clear ho hb
  by_cases hlt:k<n
  ·have hlt':(k:Int)<(n:Int):=by omega
   have hkl:k<l.length:=by rw [HN.out];exact hlt
   have HA:=Qqp l k hkl;have HS:Hid (Qbt (l.take (k+1))=Qbt (l.take k) ++ (l.getD k default).cs):=LH (by
    rw [List.take_succ_eq_append_getElem hkl,Qcv];simp [Qbt,hkl])
   generalize l.getD k default=hd at *;obtain ⟨hk',hcl,hln⟩:=hd;obtain ⟨b,off,rfl,hcs⟩:∃b off,a=some ⟨b,off,none⟩∧∀i v,(Qbt l)[i]?=some v→wr.cell? ⟨b,off+i,none⟩=some v:=by
    rcases HC.out.below HB.out NR with h | ⟨b,off,rfl,h⟩
    ·have:=congrArg List.length h;rw [Qca] at this;simp only [List.length_nil] at this
     omega
    ·exact ⟨b,off,rfl,h⟩
   have d0:wr.cell? ⟨b,off+k*3,none⟩=some (.int .i64 hk'):=hcs _ _ (HA 0 _ rfl);have d1:wr.cell? ⟨b,off+k*3+1,none⟩=some (.int .i64 hcl):=hcs _ _ (HA 1 _ rfl);have d2:wr.cell? ⟨b,off+k*3+2,none⟩=some (.int .i64 hln):=hcs _ _ (HA 2 _ rfl);clear HA hcs;go_wp2_with fail;refine (Jar ⟨hk',hcl,hln⟩ _).mono ?_;rintro e w1 ⟨rfl,hb1⟩;unfold Hd.val;dsimp only;have HB1:=LH (HB.out.trans (hb1.mono HB.out.size));have HO1:=LH (Qcc HO.out hb1 NR);have hone:Hid (∀u∈(#[Value.int .i64 hk',Value.int .i64 hcl,Value.int .i64 hln]:Array Value).toList,u.oneCell'=true):=LH (by intro u hu;simp at hu;rcases hu with rfl | rfl | rfl <;> rfl);have hbase:Hid (w.heap.size≤w1.heap.size):=LH HB1.out.size;have hk9:k<1000000000000:=by omega
   clear hb1 d0 d1 d2;go_wp2_with (at_builtin;refine Qbp (us:=#[.int .i64 hk',.int .i64 hcl,.int .i64 hln]) Jik HO1.out rfl hone.out hk9 (by decide) hbase.out rfl rfl rfl (by simp [Act.eval]) ?_;intro g6 c6 w6 ho6 hg6 hc6 hm6 hb6 hl6;have HO6:=LH ho6;have HG6:=LH hg6;clear ho6 hg6)
   refine ⟨⟨k+1,by omega,Qb2 (by omega),?_,Qav HB1.out HO1.out HG6.out NR NR⟩,by simp [intOf];omega⟩;rw [HS.out];exact HO6.out
  ·obtain rfl:k=n:=by omega
   have hlt':decide ((k:Int)<(k:Int))=false:=by simp
   go_wp2_with fail
   go_ret
   refine ⟨_,rfl,?_,HB.out⟩;have:=HO.out
   rwa [List.take_of_length_le (by rw [HN.out];exact Nat.le_refl _)] at this
theorem Jix : (Tryz.prog.fieldsOf 105) = #[{ name := "Kind", type := 3, offset := 0, embedded := false, tag := "", pkgPath := "", byteOffset := 0 },
        { name := "Class", type := 3, offset := 1, embedded := false, tag := "", pkgPath := "", byteOffset := 8 },
        { name := "Len", type := 3, offset := 2, embedded := false, tag := "", pkgPath := "", byteOffset := 16 }] := by kernel_rfl
theorem Jiv:Tryz.prog.underlying 105=some (.struct (Tryz.prog.fieldsOf 105)):=by kernel_rfl
theorem Jiy:Tryz.prog.stoodInHeld 105=false:=by kernel_rfl
theorem Jil:Tryz.prog.eqGuardType Tryz.prog.depth 105=false:=by kernel_rfl
theorem Qrd (w:World) (a b c a' b' c':Int) (r:Bool) (hr:r=((a == a') && (b == b') && (c == c'))):(Op.equalIn 10000 105 (.agg #[.int .i64 a,.int .i64 b,.int .i64 c]) (.agg #[.int .i64 a',.int .i64 b',.int .i64 c'])).run Tryz.prog w=.ok r w:=by
 rw [hr,show (10000:Nat)=9999+1 from rfl,run_equalIn_agg w 9999 105 _ _ Jiv Jiy,Jix]
 by_cases h1:a=a' <;> by_cases h2:b=b' <;> by_cases h3:c=c' <;> simp [Op.eqFields,go_sem,h1,h2,h3,Tryz.underlying3,part]
theorem Jiw : (Tryz.prog.fieldsOf 107) = #[{ name := "Kind", type := 3, offset := 0, embedded := false, tag := "", pkgPath := "", byteOffset := 0 },
        { name := "Class", type := 3, offset := 1, embedded := false, tag := "", pkgPath := "", byteOffset := 8 },
        { name := "Len", type := 3, offset := 2, embedded := false, tag := "", pkgPath := "", byteOffset := 16 }] := by kernel_rfl
theorem Jiu:Tryz.prog.underlying 107=some (.struct (Tryz.prog.fieldsOf 107)):=by kernel_rfl
theorem Ji0:Tryz.prog.stoodInHeld 107=false:=by kernel_rfl
theorem Jii:Tryz.prog.eqGuardType Tryz.prog.depth 107=false:=by kernel_rfl
theorem Qk9 (w:World) (a b c a' b' c':Int) (r:Bool) (hr:r=((a == a') && (b == b') && (c == c'))):(Op.equalIn 10000 107 (.agg #[.int .i64 a,.int .i64 b,.int .i64 c]) (.agg #[.int .i64 a',.int .i64 b',.int .i64 c'])).run Tryz.prog w=.ok r w:=by
 rw [hr,show (10000:Nat)=9999+1 from rfl,run_equalIn_agg w 9999 107 _ _ Jiu Ji0,Jiw]
 by_cases h1:a=a' <;> by_cases h2:b=b' <;> by_cases h3:c=c' <;> simp [Op.eqFields,go_sem,h1,h2,h3,Tryz.underlying3,part]
theorem Qi7 (k c n k' c' n':Int):decide ((⟨k,c,n⟩:Hd)=⟨k',c',n'⟩)=((k == k') && (c == c') && (n == n')):=by
 rw [Bool.eq_iff_iff];simp [Hd.mk.injEq,and_assoc]
theorem Qcq {w:World} {a:Option Addr} {l:List Hd} (h:Qaq w a (Qbt l)) {j:Nat} (hj:j<l.length) {k c n:Int} (he:l.getD j default=⟨k,c,n⟩) :
  ∃b off,a=some ⟨b,off,none⟩∧w.cell? ⟨b,off+j*3,none⟩=some (.int .i64 k)∧w.cell? ⟨b,off+j*3+1,none⟩=some (.int .i64 c)∧w.cell? ⟨b,off+j*3+2,none⟩=some (.int .i64 n):=by
 have HA:=Qqp l j hj;rw [he] at HA;rcases h with h | ⟨b,off,rfl,h⟩
 ·have:=congrArg List.length h;rw [Qca] at this;simp only [List.length_nil] at this
  omega
 ·exact ⟨b,off,rfl,h _ _ (HA 0 _ rfl),h _ _ (HA 1 _ rfl),h _ _ (HA 2 _ rfl)⟩
theorem Qtq {l m:List Hd} {k:Nat} (h1:k<l.length) (h2:k<m.length) (h:l.take k=m.take k) (he:l.getD k default=m.getD k default):l.take (k+1)=m.take (k+1):=by
 rw [List.take_succ_eq_append_getElem h1,List.take_succ_eq_append_getElem h2,h];simp [h1,h2] at he
 rw [he]
def Qzw (l m:List Hd):Bool:=decide (l=m)
theorem Ja2 (a b:Option Addr) (n m cap cap2:Nat) (l r:List Hd) (hn:l.length=n) (hm:r.length=m) (w:World) (hc:Qaq w a (Qbt l)) (hc2:Qaq w b (Qbt r)) (hl:n≤1000) (hl2:m≤1000) :
  Calls Tryz.prog 16 #[.slice a n cap,.slice b m cap2] w fun e w'=>e=.returned (.bool (Qzw l r))∧∃q,w'=w.drewN q:=by
 have HN:=LH hn;have HM:=LH hm;have HC:=LH hc;have HC2:=LH hc2
 by_cases hnm:n=m
 ·subst hnm;have hne:(n != n)=false:=by simp
  have hne2:((n:Int) != (n:Int))=false:=by simp
  clear hn hm hc hc2;go_enter Tryz.func16,Tryz.ntmps16;go_wp2_with fail
  go_loopw [5] (fun i wr=>∃k:Nat,k≤n∧i=.int .i64 k∧l.take k=r.take k∧∃q,wr=w.drewN q) (fun i _=>n-(intOf i).toNat)
  case atStart=>exact ⟨0,Nat.zero_le _,rfl,by simp,0,rfl⟩
  case round =>
   obtain ⟨k,hk,rfl,heq,q,rfl⟩:=hrel;have HE:=LH heq;clear heq
   by_cases hlt:k<n
   ·have hlt':(k:Int)<(n:Int):=by omega
    have hkl:k<l.length:=by rw [HN.out];exact hlt
    have hkr:k<r.length:=by rw [HM.out];exact hlt
    obtain ⟨k1,c1,l1,e1⟩:=Qe5 l k;obtain ⟨k2,c2,l2,e2⟩:=Qe5 r k;obtain ⟨b1,o1,rfl,d0,d1,d2⟩:=Qcq HC.out hkl e1;obtain ⟨b2,o2,rfl,d3,d4,d5⟩:=Qcq HC2.out hkr e2;have E1:=LH e1;have E2:=LH e2;clear e1 e2 hkl hkr
    by_cases hq:(⟨k1,c1,l1⟩:Hd)=⟨k2,c2,l2⟩
    ·have heq:∀w',(Op.equalIn 10000 105 (.agg #[.int .i64 k1,.int .i64 c1,.int .i64 l1]) (.agg #[.int .i64 k2,.int .i64 c2,.int .i64 l2])).run Tryz.prog w'=.ok true w':=fun w'=>Qrd w' _ _ _ _ _ _ _ (by rw [← Qi7];simp [hq])
     have hgd:=Jil;have HQ:=LH hq;clear hq;go_wp2_with fail
     go_quiet (fail)
     go_wp2_with fail;refine ⟨⟨k+1,by omega,Qb2 (by omega),?_,_,rfl⟩,by simp [intOf];omega⟩;exact Qtq (by rw [HN.out];exact hlt) (by rw [HM.out];exact hlt) HE.out (by rw [E1.out,E2.out,HQ.out])
    ·have heq:∀w',(Op.equalIn 10000 105 (.agg #[.int .i64 k1,.int .i64 c1,.int .i64 l1]) (.agg #[.int .i64 k2,.int .i64 c2,.int .i64 l2])).run Tryz.prog w'=.ok false w':=fun w'=>Qrd w' _ _ _ _ _ _ _ (by rw [← Qi7];simp [hq])
     have hgd:=Jil;have HQ:=LH hq;clear hq;go_wp2_with fail
     go_quiet (fail)
     go_wp2_with fail
     go_ret
     refine ⟨Qd0 (decide_eq_false (fun h=>HQ.out ?_)).symm,_,World.drewN_drewN _ _ _⟩;rw [← E1.out,← E2.out,h]
   ·obtain rfl:k=n:=by omega
    have hlt':decide ((k:Int)<(k:Int))=false:=by simp
    go_wp2_with fail
    go_ret
    refine ⟨Qd0 (decide_eq_true ?_).symm,_,rfl⟩;have:=HE.out
    rwa [List.take_of_length_le (by rw [HN.out];exact Nat.le_refl _),List.take_of_length_le (by rw [HM.out];exact Nat.le_refl _)] at this
 ·have hne:(n != m)=true:=by simpa using hnm
  have hne2:((n:Int) != (m:Int))=true:=by simp;omega
  have HH:=LH hnm;clear hnm hn hm hc hc2;go_enter Tryz.func16,Tryz.ntmps16;go_wp2_with fail
  go_ret
  exact ⟨Qd0 (decide_eq_false (fun h=>HH.out (by rw [← HN.out,← HM.out,h]))).symm,0,rfl⟩
abbrev Sp:=Nat × Nat
def Qpu (l:List Sp):List Value:=l.flatMap fun s=>[.int .i64 s.1,.int .i64 s.2]
theorem Qnt (l:List Sp):(Qpu l).length=2*l.length:=by
 induction l with
 | nil=>rfl
 | cons h l ih=>simp only [Qpu,List.flatMap_cons,List.length_append,List.length_cons] at *;rw [ih];simp;omega
theorem Qhn (l m:List Sp):Qpu (l ++ m)=Qpu l ++ Qpu m:=by simp [Qpu]
theorem Qr8 (l:List Sp) (s n:Nat):(Qpu (l ++ [(s,n)]))[l.length*2]?=some (.int .i64 (s:Int))∧(Qpu (l ++ [(s,n)]))[l.length*2+1]?=some (.int .i64 (n:Int)):=by
 have hl:=Qnt l;rw [Qhn];constructor
 ·rw [List.getElem?_append_right (by omega),show l.length*2-(Qpu l).length=0 by omega];rfl
 ·rw [List.getElem?_append_right (by omega),show l.length*2+1-(Qpu l).length=1 by omega];rfl
theorem Qzz (l:List Sp) (s n m:Nat):(Qpu (l ++ [(s,n)])).set (l.length*2+1) (.int .i64 (m:Int))=Qpu (l ++ [(s,m)]):=by
 have hl:=Qnt l;rw [Qhn,Qhn,List.set_append_right _ _ (by omega),show l.length*2+1-(Qpu l).length=1 by omega]
 rfl
def Jid (l:List Sp):List Sp:=match l.getLast? with
 | none=>l
 | some s=>l.dropLast ++ [(s.1,s.2+1)]
theorem Qrr (l:List Sp) (s n:Nat):Jid (l ++ [(s,n)])=l ++ [(s,n+1)]:=by simp [Jid]
def Qc4 (ks:Nat→Bool):Nat→List Sp
 | 0=>[]
 | b+1=>if b=0∨ks b=false then Qc4 ks b else if 1<b∧ks (b-1)=true then Jid (Qc4 ks b) else Qc4 ks b ++ [(b,1)]
theorem Qxl (ks:Nat→Bool) (b:Nat) (hb:1≤b):if 1<b∧ks (b-1)=true then ∃l s n,Qc4 ks b=l ++ [(s,n)]∧s+n=b∧l.length<b else (Qc4 ks b=[]∨∃l s n,Qc4 ks b=l ++ [(s,n)]∧s+n<b∧l.length<b):=by
 induction b with
 | zero=>omega
 | succ b ih =>
  by_cases h0:b=0
  ·subst h0;rw [if_neg (by omega)];left;rfl
  have ih:=ih (by omega);rw [Nat.add_sub_cancel]
  by_cases hk:ks b=true
  ·rw [if_pos ⟨by omega,hk⟩]
   by_cases hp:1<b∧ks (b-1)=true
   ·rw [if_pos hp] at ih;obtain ⟨l,s,n,h1,h2,h3⟩:=ih;refine ⟨l,s,n+1,?_,by omega,by omega⟩;rw [Qc4,if_neg (by simp [h0,hk]),if_pos hp,h1,Qrr]
   ·rw [if_neg hp] at ih;refine ⟨Qc4 ks b,b,1,?_,rfl,?_⟩
    ·rw [Qc4,if_neg (by simp [h0,hk]),if_neg hp]
    ·rcases ih with h | ⟨l,s,n,h1,h2,h3⟩
     ·rw [h];simp
     ·rw [h1];simp;omega
  ·have hk':ks b=false:=by simpa using hk
   rw [if_neg (by simp [hk'])];have he:Qc4 ks (b+1)=Qc4 ks b:=by rw [Qc4,if_pos (.inr hk')]
   rw [he]
   split at ih
   ·obtain ⟨l,s,n,h1,h2,h3⟩:=ih;exact .inr ⟨l,s,n,h1,by omega,by omega⟩
   ·rcases ih with h | ⟨l,s,n,h1,h2,h3⟩
    ·exact .inl h
    ·exact .inr ⟨l,s,n,h1,by omega,by omega⟩
theorem Qts (ks:Nat→Bool) (b:Nat):(Qc4 ks b).length≤b:=by
 induction b with
 | zero=>simp [Qc4]
 | succ b ih =>
  unfold Qc4
  split
  ·omega
  ·split
   ·unfold Jid
    split
    ·omega
    ·simp;omega
   ·simp;omega
def Qd1 (l:List Hd) (b:Nat):Bool:=(l.getD b default).k == 0
def Qeg (l:List Hd):List Sp:=Qc4 (Qd1 l) l.length
theorem Jiq:Qgg Tryz.prog 206 259 (.agg #[.int .i64 0,.int .i64 0]) 2 16:=Qgg.mk' Tryz.underlying206 (by kernel_rfl) rfl (by decide)
def Qka (t:Nat) (l:List Sp) (w:World):Ending→World→Prop:=fun e w'=>∃v,e=.returned v∧w'.ownsRow w.heap.size t 2 v l.length (Qpu l)∧Below w.heap.size w w'
theorem Qld (ks:Nat→Bool) (b:Nat) (hb:1≤b) :
  (ks b=false∧Qc4 ks (b+1)=Qc4 ks b)∨
  (ks b=true∧1<b∧ks (b-1)=true∧∃l s n,Qc4 ks b=l ++ [(s,n)]∧s+n=b∧Qc4 ks (b+1)=l ++ [(s,n+1)])∨
  (ks b=true∧¬(1<b∧ks (b-1)=true)∧Qc4 ks b=[]∧Qc4 ks (b+1)=[(b,1)])∨
  (ks b=true∧¬(1<b∧ks (b-1)=true)∧∃l s n,Qc4 ks b=l ++ [(s,n)]∧s+n<b∧Qc4 ks (b+1)=l ++ [(s,n)] ++ [(b,1)]):=by
 have h:=Qxl ks b hb
 by_cases hk:ks b=true
 ·by_cases hp:1<b∧ks (b-1)=true
  ·rw [if_pos hp] at h;obtain ⟨l,s,n,h1,h2,h3⟩:=h;exact .inr (.inl ⟨hk,hp.1,hp.2,l,s,n,h1,h2,by rw [Qc4,if_neg (by simp [hk];omega),if_pos hp,h1,Qrr]⟩)
  ·rw [if_neg hp] at h;have e:Qc4 ks (b+1)=Qc4 ks b ++ [(b,1)]:=by rw [Qc4,if_neg (by simp [hk];omega),if_neg hp]
   rcases h with h | ⟨l,s,n,h1,h2,h3⟩
   ·exact .inr (.inr (.inl ⟨hk,hp,h,by rw [e,h];rfl⟩))
   ·exact .inr (.inr (.inr ⟨hk,hp,l,s,n,h1,h2,by rw [e,h1]⟩))
 ·have hk':ks b=false:=by simpa using hk
  exact .inl ⟨hk',by rw [Qc4,if_pos (.inr hk')]⟩
theorem Jfu {w:World} {a:Option Addr} {l:List Hd} (h:Qaq w a (Qbt l)) {j:Nat} (hj:j<l.length) :
  ∃b off,a=some ⟨b,off,none⟩∧∃k,Qd1 l j=(k == 0)∧w.cell? ⟨b,off+j*3,none⟩=some (.int .i64 k):=by
 obtain ⟨k,c,n,he⟩:=Qe5 l j;obtain ⟨b,off,rfl,h0,_,_⟩:=Qcq h hj he;exact ⟨b,off,rfl,k,by unfold Qd1;rw [he],h0⟩
theorem Qyd (a:Option Addr) (n cap:Nat) (l:List Hd) (hn:l.length=n) (w:World) (hc:Qaq w a (Qbt l)) (hl:n≤1000) :
  Calls Tryz.prog 158 #[.slice a n cap] w (Qka 259 (Qeg l) w):=by
 have HN:=LH hn;have HC:=LH hc;generalize hP:Qka 259 (Qeg l) w=Post;have HP:=LH hP;clear hn hc hP;go_enter Tryz.func158,Tryz.ntmps158;go_wp2_with fail
 go_loopw [3,4] (fun v i wr=>∃b:Nat,1≤b∧(b≤n∨b=1)∧i=.int .i64 b∧wr.ownsRow w.heap.size 259 2 v (Qc4 (Qd1 l) b).length (Qpu (Qc4 (Qd1 l) b))∧Below w.heap.size w wr) (fun _ i _=>n-(intOf i).toNat)
 case atStart=>exact ⟨1,Nat.le_refl _,.inr rfl,rfl,⟨rfl,.inl ⟨rfl,rfl⟩⟩,Below.refl _ _⟩
 case round =>
  obtain ⟨b,hb1,hbn,rfl,ho,hb⟩:=hrel
  by_cases hlt:b<n
  ·have hlt':(b:Int)<(n:Int):=by omega
   have HB:=LH hb;obtain ⟨bl,off,rfl,kd,hfk,d0⟩:=Jfu (HC.out.below hb NR) (j:=b) (by rw [HN.out];exact hlt);have hr:=Qld (Qd1 l) b hb1;rw [hfk] at hr;have HLb:=LH (Qts (Qd1 l) b);clear hfk hbn hb;rcases hr with ⟨hk,hs⟩|⟨hk,h1b,hk2,pl,s,m,hs1,hs2,hs3⟩|⟨hk,hp,hs1,hs3⟩|⟨hk,hp,pl,s,m,hs1,hs2,hs3⟩
   ·have hk1:(kd != 0)=true:=by simpa using hk
    obtain ⟨a1,c1,rfl,hc1,hm1⟩:=Qbe ho;have HO:Hid (wr.ownsRow w.heap.size 259 2 (.slice a1 (Qc4 (Qd1 l) b).length c1) (Qc4 (Qd1 l) (b+1)).length (Qpu (Qc4 (Qd1 l) (b+1)))):=LH (by rw [hs];exact ho);clear ho hs hk HLb;go_wp2_with fail;exact ⟨⟨b+1,by omega,by omega,Qb2 (by omega),HO.out,HB.out⟩,by simp [intOf];omega⟩
   ·have hk1:(kd != 0)=false:=by simpa using hk
    rw [hs1] at ho;obtain ⟨L,hL⟩:∃L,L=pl.length:=⟨_,rfl⟩
    rw [show (pl ++ [(s,m)]).length=L+1 by simp [hL]] at ho;obtain ⟨g,c1,rfl,hc1,hm1,hg1,hg2⟩:=Qik ho (by omega);have hr:=Qd6 ho;have hla:=Qr8 pl s m;rw [← hL] at hla;have e0:wr.cell? ⟨g,L*2,none⟩=some (.int .i64 (s:Int)):=hr.cell hla.1;have e1:wr.cell? ⟨g,L*2+1,none⟩=some (.int .i64 (m:Int)):=hr.cell hla.2;have f1:wr.frozen? ⟨g,L*2+1,none⟩=false:=hr.frozen _;have hsm:((s:Int)+(m:Int) == (b:Int))=true:=by simp;omega
    have HL:=LH hL;have HS3:=LH hs3;have HO1:=LH ho;have hsb:(s:Int)≤1000:=by omega
    have hmb:(m:Int)≤1000:=by omega
    have hLb:L<1000:=by have:=HLb.out;rw [hs1] at this;simp [← hL] at this;omega
    clear ho hs1 hs2 hs3 hL hla hr hk hk2 HLb;have hw1:IntKind.i64.wrap (L:Int)=L:=IntWalk.i64_in _ (by omega);have hw2:IntKind.i64.wrap ((s:Int)+(m:Int))=s+m:=IntWalk.i64_in _ (by omega);go_wp2_with fail
    go_quiet (fail)
    clear hw1 hw2;have HO2:Hid ((wr.drewN nq).ownsRow w.heap.size 259 2 (.slice (some ⟨g,0,none⟩) (L+1) c1) (L+1) (Qpu (pl ++ [(s,m)]))):=LH HO1.out;go_wp2_with fail;refine ⟨⟨b+1,by omega,by omega,Qb2 (by omega),?_,?_⟩,by simp [intOf];omega⟩
    ·rw [HS3.out,← show ((m+1:Nat):Int)=(m:Int)+1 from rfl,← Qzz pl s m (m+1),show (pl ++ [(s,m+1)]:List Sp).length=L+1 by simp [HL.out],← HL.out];exact (HO2.out.stored (L*2+1) _).1
    ·exact Qav (below_drewN HB.out _) HO2.out (HO2.out.stored (L*2+1) _).2 NR NR
   ·have hk1:(kd != 0)=false:=by simpa using hk
    rw [hs1] at ho;obtain ⟨a1,c1,rfl,hc1,hm1⟩:=Qbe ho;have HO:=LH ho;have HS3:=LH hs3;have hone:Hid (∀u∈(#[Value.int .i64 (b:Int),Value.int .i64 1]:Array Value).toList,u.oneCell'=true):=LH (by intro u hu;simp at hu;rcases hu with rfl | rfl <;> rfl);clear ho hs1 hs3 hk hp HLb;go_wp2_with fail
    go_quiet (fail)
    have HO1:Hid ((wr.drewN nq).ownsRow w.heap.size 259 2 (.slice a1 0 c1) 0 []):=LH HO.out;have hbase:Hid (w.heap.size≤(wr.drewN nq).heap.size):=LH HB.out.size;go_wp2_with (at_builtin;refine Qbp (us:=#[.int .i64 (b:Int),.int .i64 1]) Jiq HO1.out rfl hone.out (by omega) (by decide) hbase.out rfl rfl rfl (by simp [Act.eval]) ?_;intro g6 c6 w6 ho6 hg6 hc6 hm6 hb6 hl6;have HO6:=LH ho6;have HG6:=LH hg6;clear ho6 hg6)
    refine ⟨⟨b+1,by omega,by omega,Qb2 (by omega),?_,Qav (below_drewN HB.out _) HO1.out HG6.out NR NR⟩,by simp [intOf];omega⟩;rw [HS3.out];exact HO6.out
   ·have hk1:(kd != 0)=false:=by simpa using hk
    rw [hs1] at ho;obtain ⟨L,hL⟩:∃L,L=pl.length:=⟨_,rfl⟩
    rw [show (pl ++ [(s,m)]).length=L+1 by simp [hL]] at ho;obtain ⟨g,c1,rfl,hc1,hm1,hg1,hg2⟩:=Qik ho (by omega);have hr:=Qd6 ho;have hla:=Qr8 pl s m;rw [← hL] at hla;have e0:wr.cell? ⟨g,L*2,none⟩=some (.int .i64 (s:Int)):=hr.cell hla.1;have e1:wr.cell? ⟨g,L*2+1,none⟩=some (.int .i64 (m:Int)):=hr.cell hla.2;have hsm:((s:Int)+(m:Int) == (b:Int))=false:=by simp;omega
    have HL:=LH hL;have HS3:=LH hs3;have HO:=LH ho;have hsb:(s:Int)≤1000:=by omega
    have hmb:(m:Int)≤1000:=by omega
    have hone:Hid (∀u∈(#[Value.int .i64 (b:Int),Value.int .i64 1]:Array Value).toList,u.oneCell'=true):=LH (by intro u hu;simp at hu;rcases hu with rfl | rfl <;> rfl);have hLb:L<1000:=by have:=HLb.out;rw [hs1] at this;simp [← hL] at this;omega
    have hL9:L+1<1000000000000:=by omega
    clear ho hs1 hs2 hs3 hL hla hr hk hp HLb;have hw1:IntKind.i64.wrap (L:Int)=L:=IntWalk.i64_in _ (by omega);have hw2:IntKind.i64.wrap ((s:Int)+(m:Int))=s+m:=IntWalk.i64_in _ (by omega);go_wp2_with fail
    go_quiet (fail)
    clear hw1 hw2;have HO1:Hid ((wr.drewN nq).ownsRow w.heap.size 259 2 (.slice (some ⟨g,0,none⟩) (L+1) c1) (L+1) (Qpu (pl ++ [(s,m)]))):=LH HO.out;have hbase:Hid (w.heap.size≤(wr.drewN nq).heap.size):=LH HB.out.size;go_wp2_with (at_builtin;refine Qbp (us:=#[.int .i64 (b:Int),.int .i64 1]) Jiq HO1.out rfl hone.out hL9 (by decide) hbase.out rfl rfl rfl (by simp [Act.eval]) ?_;intro g6 c6 w6 ho6 hg6 hc6 hm6 hb6 hl6;have HO6:=LH ho6;have HG6:=LH hg6;clear ho6 hg6)
    refine ⟨⟨b+1,by omega,by omega,Qb2 (by omega),?_,Qav (below_drewN HB.out _) HO1.out HG6.out NR NR⟩,by simp [intOf];omega⟩;rw [HS3.out,Qhn,show (pl ++ [(s,m)] ++ [(b,1)]:List Sp).length=L+1+1 by simp [HL.out]];exact HO6.out
  ·have hlt':decide (b<n)=false:=by simp;omega
   have hlt2:n≤b:=by omega
   obtain ⟨a1,c1,rfl,hc1,hm1⟩:=Qbe ho;have HE:Hid (Qeg l=Qc4 (Qd1 l) b):=LH (by
    unfold Qeg;rw [HN.out];rcases hbn with h | h
    ·rw [show n=b by omega]
    ·by_cases h0:n=0
     ·rw [h0,h];rfl
     ·rw [show n=b by omega])
   have HO:=LH ho;have HB:=LH hb;clear ho hb;go_wp2_with fail;rw [← HP.out];refine ⟨_,rfl,?_,HB.out⟩;rw [HE.out];exact HO.out
theorem Qq3 (b k c l:Int) (h:Qcg k c l=true):Qge b (Qeq b k c l)=⟨k,c,l,0⟩:=by
 have hr:Qb5 k c l:=by simpa [Qcg] using h
 obtain ⟨n,hn⟩:∃n,n=hdN k c l:=⟨_,rfl⟩
 have hn2:(n:Int)=k+4*c+256*l:=by rw [hn];unfold hdN;unfold Qb5 at hr;omega
 have hlt:n<4294967296:=by unfold Qb5 at hr;omega
 have he:Qeq b k c l=Qgf n (pl (256+b)):=by unfold Qeq;rw [if_pos h,hn]
 have hm:Qgf n (pl (256+b)) % 4294967296=n:=by
  unfold Qgf;rw [Nat.mul_comm,Nat.mul_add_mod,Nat.mod_eq_of_lt hlt]
 have ho:Qeo (Qeq b k c l) (pl (256+b))=some n:=by
  unfold Qeo;rw [he,hm,if_pos rfl]
 have e1:((n % 4:Nat):Int)=k:=by unfold Qb5 at hr;omega
 have e2:((n/4 % 64:Nat):Int)=c:=by unfold Qb5 at hr;omega
 have e3:((n/256 % 65536:Nat):Int)=l:=by unfold Qb5 at hr;omega
 rw [Qkg ho];unfold Jgu;rw [e1,e2,e3,if_pos rfl,if_pos h]
def Dev.live (S:Dev):Prop:=S.dead=false∧S.armed=false
theorem Dev.live.stop {S:Dev} (h:S.live):S.stop=false:=by unfold Dev.stop;rw [h.1,h.2];rfl
theorem Dev.live.step {S:Dev} (h:S.live):S.step.live:=by unfold Dev.step;rw [h.stop];exact h
theorem Dev.live.store {S:Dev} (h:S.live) (i:Int) (x:Nat):(S.store i x).live:=by
 unfold Dev.store
 split
 ·exact h
 ·rw [h.stop];exact h.step
theorem Dev.live.store_ok {S:Dev} (h:S.live) (i:Nat) (x:Nat) (hi:i<S.cache.length):S.storeE i=0∧(S.store i x).cache=S.cache.set i x:=by
 constructor
 ·unfold Dev.storeE;rw [if_neg (by omega),h.stop];rfl
 ·unfold Dev.store;rw [if_neg (by omega),h.stop];simp only [Bool.false_eq_true,if_false,Dev.put,(Dev.step_rest S).2.1,Int.toNat_natCast]
theorem Dev.store_okN {S:Dev} {N:Nat} (h:S.ok N) (i:Int) (x:Nat):(S.store i x).ok (N+1):=by
 unfold Dev.store
 split
 ·exact h.mono (by omega)
 ·split
  ·exact Dev.step_ok h
  ·exact (Dev.step_ok h:S.step.ok (N+1))
theorem Dev.live.flush {S:Dev} (h:S.live) (j:Int):(S.flush j).live:=by
 unfold Dev.flush
 split
 ·exact h
 ·rw [h.stop];simp only [Bool.false_eq_true,if_false]
  unfold Dev.hold
  split
  ·exact h.step
  ·exact h.step
theorem Dev.live.flushE {S:Dev} (h:S.live) (j:Nat) (hj:j<S.dirty.length):S.flushE j=0:=by unfold Dev.flushE;rw [if_neg (by omega),h.stop];rfl
theorem Dev.live.flushRun {S:Dev} (h:S.live) (a:Nat):∀m,a+m≤S.dirty.length→(S.flushRun a m).err=0∧(S.flushRun a m).dev.live∧(S.flushRun a m).dev.cache=S.cache∧(S.flushRun a m).dev.dirty=S.dirty:=by
 intro m
 induction m with
 | zero=>intro _;exact ⟨rfl,h,rfl,rfl⟩
 | succ m ih =>
  intro hm;obtain ⟨i1,i2,i3,i4⟩:=ih (by omega);unfold Dev.flushRun;rw [if_neg (by rw [i1];simp)];refine ⟨i2.flushE _ (by rw [i4];omega),i2.flush _,?_,?_⟩
  ·exact (Dev.flush_len _ _).1.trans i3
  ·exact (Dev.flush_len _ _).2.trans i4
theorem Dev.live.persist {S:Dev} (h:S.live) (p n:Nat) (hn:0<n) (hd:S.cache.length=8*S.dirty.length) (hp:p+n≤S.cache.length):(S.persist p n).err=0∧(S.persist p n).dev.cache=S.cache:=by
 unfold Dev.persist;rw [if_neg (by omega),if_pos (by omega)];unfold Dev.persistN;obtain ⟨i1,i2,i3,i4⟩:=h.flushRun ((p:Int)/8).toNat (((p:Int)+(n:Int)-1)/8-(p:Int)/8+1).toNat (by omega);rw [if_neg (by rw [i1];simp)];constructor
 ·show Dev.fenceE _=0;unfold Dev.fenceE;rw [i2.stop];rfl
 ·show (Dev.fence _).cache=_;unfold Dev.fence;rw [i2.stop];simp only [Bool.false_eq_true,if_false]
  rw [(Qg7 _ _).2.1,(Dev.step_rest _).2.1,i3]
theorem Qam.wide {L M:List Nat} {w w':World} (h:Qam L w w') (hs:∀b∈L,b∈M):Qam M w w':=⟨h.os,h.tape,h.output,h.size,fun k hk hn=>h.block k hk (fun hm=>hn (hs k hm))⟩
structure Jaz (w:World) (p g c:Nat) (F:Qb0) (B:Nat) (l:List Hd):Prop where
 head:w.heap[p]?=some (.cells #[Qei F,.int .i64 (B:Int),.slice (some ⟨g,0,none⟩) B c] 158 (0,0))
 len:l.length=B
 cap:B≤c
 row:Qa6 w g 107 (Qbt l)
theorem Jaz.at {w:World} {p g c B:Nat} {F:Qb0} {l:List Hd} (h:Jaz w p g c F B l) (hne:p≠g):Jf0 w p F B l:=⟨g,c,by rw [h.len];exact h.head,by rw [h.len];exact h.cap,h.row,hne⟩
theorem Jaz.keep {w w':World} {p g c B:Nat} {F:Qb0} {l:List Hd} (h:Jaz w p g c F B l) (h1:w'.heap[p]?=w.heap[p]?) (h2:w'.heap[g]?=w.heap[g]?):Jaz w' p g c F B l :=
 ⟨h1.trans h.head,h.len,h.cap,h.row.keep h2⟩
theorem Jaz.lt {w:World} {p g c B:Nat} {F:Qb0} {l:List Hd} (h:Jaz w p g c F B l):p<w.heap.size∧g<w.heap.size:=⟨(Array.getElem?_eq_some_iff.1 h.head).1,h.row.lt⟩
def Qsi (f : Nat → Nat) (F : Qb0) (B : Nat) (w : World) : Ending → World → Prop := fun en w' => Below w.heap.size w w' ∧
  ((Qe3 f B ∧ ∃ p g c, en = .returned (.tuple #[.pointer (some ⟨p, 0, none⟩), .int .i64 0]) ∧ w.heap.size ≤ p ∧ w.heap.size ≤ g ∧ p ≠ g ∧ Jaz w' p g c F B (hds f B)) ∨
   (∃ b : Nat, 1 ≤ b ∧ b < B ∧ Qe3 f b ∧ (Qge b (f b)).code ≠ 0 ∧ en = .returned (.tuple #[.pointer none, .int .i64 21])))
theorem Qzk {w:World} {F:Qb0} {S:Dev} (h:Qa7 w F S) (B:Nat) (hB1:1≤B) (hB:B≤1000) :
  Calls Tryz.prog 111 #[Qei F,Qgk B] w (Qsi (Qaw S) F B w):=by
 have hbx:=Qaf w (.cells #[.int .i64 (B:Int)] 44);have HD:=LH (h.below hbx);have HB:=LH hbx;have hcx:(w.alloc (.cells #[.int .i64 (B:Int)] 44)).cell? ⟨w.heap.size,0,none⟩=some (.int .i64 (B:Int)):=Qat _ _ _ 0 _ rfl;generalize hP:Qsi (Qaw S) F B w=Post;have HPE:=LH hP;clear h hP hbx;go_enter Tryz.func111,Tryz.ntmps111;go_wp2_with fail;refine (Qwe HD.out B hB1 hB).mono ?_;rintro e w1 ⟨hb1,⟨hok,g,c,rfl,hg,hgc,hr⟩|⟨b,hb0,hbB,hok,hbad,rfl⟩⟩
 ·have hcx1:w1.cell? ⟨w.heap.size,0,none⟩=some (.int .i64 (B:Int)):=Qaz hb1 hcx NR;have HB1:=LH (HB.out.trans (hb1.mono HB.out.size));have HOK:=LH hok;have HR:=LH hr;have hgl:=hr.lt;clear hcx hok hr hb1 HD;go_wp2_with fail;rw [← HPE.out];refine ⟨HB1.out.alloc HB1.out.size _,.inl ⟨HOK.out,w1.heap.size,g,c,rfl,HB1.out.size,by simp at hg;omega,by omega,⟨?_,Qbs _ _,hgc,HR.out.keep (Below.heap_alloc _ _ _ hgl)⟩⟩⟩;rw [heap_alloc_new]
 ·have HB1:=LH (HB.out.trans (hb1.mono HB.out.size));have HOK:=LH hok;have HBad:=LH hbad;clear hok hbad hb1 HD;go_wp2_with fail;rw [← HPE.out];exact ⟨HB1.out,.inr ⟨b,hb0,hbB,HOK.out,HBad.out,rfl⟩⟩
def Jdk (l:List Hd) (k:Nat):Prop:=∀i,i<k→Qcg (l.getD i default).k (l.getD i default).c (l.getD i default).l=true
instance (l:List Hd) (k:Nat):Decidable (Jdk l k):=Nat.decidableBallLT k _
end
section
def Qel (f:Nat→Bool) (s n:Nat):Prop :=
 1≤n∧(∀b,s≤b→b<s+n→f b=true)∧(∀b,b+1=s→f b=false)∧f (s+n)=false
theorem Qel.meet {f:Nat→Bool} {s n s' n' b:Nat} (h:Qel f s n) (h':Qel f s' n') (h1:s≤b) (h2:b<s+n) (h3:s'≤b) (h4:b<s'+n'):s=s'∧n=n':=by
 obtain ⟨hn,ha,hb,hc⟩:=h;obtain ⟨hn',ha',hb',hc'⟩:=h';have es:s=s':=by
  rcases Nat.lt_trichotomy s s' with hlt | he | hlt
  ·have x:=hb' (s'-1) (by omega);have y:=ha (s'-1) (by omega) (by omega);rw [x] at y;cases y
  ·exact he
  ·have x:=hb (s-1) (by omega);have y:=ha' (s-1) (by omega) (by omega);rw [x] at y;cases y
 subst es;refine ⟨rfl,?_⟩;rcases Nat.lt_trichotomy n n' with hlt | he | hlt
 ·have y:=ha' (s+n) (by omega) (by omega);rw [hc] at y;cases y
 ·exact he
 ·have y:=ha (s+n') (by omega) (by omega);rw [hc'] at y;cases y
theorem Qel.one {f:Nat→Bool} {s n n':Nat} (h:Qel f s n) (h':Qel f s n'):n=n' :=
 (h.meet h' (b:=s) NR (by have:=h.1;omega) NR (by have:=h'.1;omega)).2
theorem Qel.back {f:Nat→Bool} {s n s' n':Nat} (h:Qel f s n) (h':Qel f s' n') (he:s+n=s'+n'):s=s'∧n=n' :=
 h.meet h' (b:=s+n-1) (by have:=h.1;omega) (by have:=h.1;omega) (by have:=h'.1;omega) (by have:=h'.1;omega)
theorem Qry (f:Nat→Bool):∀b,f b=true→∃s,s≤b∧(∀x,s≤x→x≤b→f x=true)∧∀x,x+1=s→f x=false
 | 0,h=>⟨0,Nat.le_refl _,fun x _ hx=>by rw [show x=0 by omega];exact h,fun x hx=>by omega⟩
 | b+1,h=>by
  cases hb:f b with
  | false=>exact ⟨b+1,Nat.le_refl _,fun x h1 h2=>by rw [show x=b+1 by omega];exact h,fun x hx=>by rw [show x=b by omega];exact hb⟩
  | true =>
   obtain ⟨s,h1,h2,h3⟩:=Qry f b hb;refine ⟨s,by omega,fun x hx hx'=>?_,h3⟩
   by_cases hxe:x=b+1
   ·rw [hxe];exact h
   ·exact h2 x hx (by omega)
theorem Jbm (f:Nat→Bool) (L:Nat) (hL:f L=false):∀k b,b+k=L→f b=true→∃e,b<e∧(∀x,b≤x→x<e→f x=true)∧f e=false
 | 0,b,hb,h=>by rw [show b=L by omega,hL] at h;cases h
 | k+1,b,hb,h=>by
  cases hn:f (b+1) with
  | false=>exact ⟨b+1,by omega,fun x h1 h2=>by rw [show x=b by omega];exact h,hn⟩
  | true =>
   obtain ⟨e,h1,h2,h3⟩:=Jbm f L hL k (b+1) (by omega) hn;refine ⟨e,by omega,fun x hx hx'=>?_,h3⟩
   by_cases hxe:x=b
   ·rw [hxe];exact h
   ·exact h2 x (by omega) hx'
theorem Qq8 {f:Nat→Bool} {L b:Nat} (hL:∀x,L≤x→f x=false) (h:f b=true):∃s n,Qel f s n∧s≤b∧b<s+n:=by
 have hb:b<L:=by
  rcases Nat.lt_or_ge b L with h1 | h1
  ·exact h1
  ·rw [hL b h1] at h;cases h
 obtain ⟨s,h1,h2,h3⟩:=Qry f b h;obtain ⟨e,h4,h5,h6⟩:=Jbm f L (hL L NR) (L-b) b (by omega) h;refine ⟨s,e-s,⟨by omega,fun x hx hx'=>?_,h3,by rw [show s+(e-s)=e by omega];exact h6⟩,h1,by omega⟩;rcases Nat.lt_or_ge b x with hbx | hbx
 ·exact h5 x (by omega) (by omega)
 ·exact h2 x hx hbx
theorem Qrk {f f':Nat→Bool} {a m s0 e0:Nat} (hm:1≤m) (h0:∀b,a≤b→b<a+m→f b=false)
  (hin:∀b,a≤b→b<a+m→f' b=true) (hout:∀b,b<a∨a+m≤b→f' b=f b)
  (hs:s0=a∧(∀b,b+1=a→f b=false)∨s0<a∧Qel f s0 (a-s0))
  (he:e0=a+m∧f (a+m)=false∨a+m<e0∧Qel f (a+m) (e0-(a+m))) (s n:Nat) :
  Qel f' s n↔(s=s0∧n=e0-s0)∨(Qel f s n∧s+n≠a∧s≠a+m):=by
 have hs0:s0≤a:=by rcases hs with ⟨h,_⟩|⟨h,_⟩ <;> omega
 have he0:a+m≤e0:=by rcases he with ⟨h,_⟩|⟨h,_⟩ <;> omega
 have hfe:f e0=false:=by
  rcases he with ⟨h,h'⟩|⟨h,_,_,_,h'⟩
  ·rw [h];exact h'
  ·rw [show e0=a+m+(e0-(a+m)) by omega];exact h'
 have hfs:∀b,b+1=s0→f b=false:=by
  rcases hs with ⟨h,h'⟩|⟨h,_,_,h',_⟩
  ·rw [h];exact h'
  ·exact h'
 have hnew:Qel f' s0 (e0-s0):=by
  refine ⟨by omega,fun b h1 h2=>?_,fun b hb=>by rw [hout b (by omega)];exact hfs b hb,by rw [show s0+(e0-s0)=e0 by omega,hout e0 (by omega)];exact hfe⟩;rcases Nat.lt_or_ge b a with h3 | h3
  ·rw [hout b (by omega)];rcases hs with ⟨h,_⟩|⟨h,_,h',_⟩
   ·omega
   ·exact h' b h1 (by omega)
  ·rcases Nat.lt_or_ge b (a+m) with h4 | h4
   ·exact hin b h3 h4
   ·rw [hout b (by omega)];rcases he with ⟨h,_⟩|⟨h,_,h',_⟩
    ·omega
    ·exact h' b h4 (by omega)
 have hold:∀s n,Qel f s n→s+n≤a∨a+m≤s:=by
  intro s n ⟨h1,h2,_,_⟩;rcases Nat.lt_or_ge a (s+n) with h5 | h5
  ·rcases Nat.lt_or_ge s (a+m) with h6 | h6
   ·by_cases h7:a≤s
    ·have:=h2 s NR (by omega);rw [h0 s h7 h6] at this;cases this
    ·have:=h2 a (by omega) h5;rw [h0 a NR (by omega)] at this;cases this
   ·exact .inr h6
  ·exact .inl h5
 constructor
 ·intro h
  by_cases hc:s<e0∧s0<s+n
  ·left
   have hb:∃b,s≤b∧b<s+n∧s0≤b∧b<s0+(e0-s0):=by
    have:=h.1
    by_cases hx:s0≤s
    ·exact ⟨s,by omega,by omega,hx,by omega⟩
    ·exact ⟨s0,by omega,by omega,by omega,by omega⟩
   obtain ⟨b,h1,h2,h3,h4⟩:=hb;exact h.meet hnew h1 h2 h3 h4
  ·right
   obtain ⟨h1,h2,h3,h4⟩:=h;have hne:s≠e0:=by
    rintro rfl;have:=h2 _ NR (by omega);rw [hout _ (by omega),hfe] at this;cases this
   have hne':s+n≠s0:=by
    intro e;have:=h2 (s0-1) (by omega) (by omega);rw [hout _ (by omega),hfs (s0-1) (by omega)] at this;cases this
   have hfar:e0<s∨s+n<s0:=by omega
   refine ⟨⟨h1,fun b hb hb'=>by rw [← hout b (by omega)];exact h2 b hb hb',fun b hb=>by rw [← hout b (by omega)];exact h3 b hb,by rw [← hout _ (by omega)];exact h4⟩,by omega,by omega⟩
 ·rintro (⟨rfl,rfl⟩|⟨h,h1,h2⟩)
  ·exact hnew
  ·have ho:=hold s n h;obtain ⟨h3,h4,h5,h6⟩:=h;refine ⟨h3,fun b hb hb'=>by rw [hout b (by omega)];exact h4 b hb hb',fun b hb=>by rw [hout b (by omega)];exact h5 b hb,?_⟩;rw [hout _ (by omega)];exact h6
def Qo4 (f:Nat→Bool) (L b:Nat):Bool:=decide (b<L) && f b
def Qia (f : Nat → Bool) : Nat → List (Nat × Nat)
 | 0 => []
 | b + 1 => if f b then
   if 0 < b ∧ f (b - 1) = true then
    match (Qia f b).getLast? with
    | none => []
    | some x => (Qia f b).dropLast ++ [(x.1, x.2 + 1)]
   else Qia f b ++ [(b, 1)]
  else Qia f b
def Qv5 (l:List (Nat × Nat)):Prop:=l.Pairwise fun x y=>x.1<y.1
structure Qpx (f:Nat→Bool) (l:List (Nat × Nat)):Prop where
 rising:Qv5 l
 mem:∀s n,(s,n)∈l↔Qel f s n
theorem Qly {f g:Nat→Bool} {l:List (Nat × Nat)} (h:Qpx f l) (hfg:∀b,f b=g b):Qpx g l:=by
 have:f=g:=funext hfg;rw [← this];exact h
theorem Que {f f':Nat→Bool} {l:List (Nat × Nat)} {L:Nat} (h:Qpx f l) (h0:∀b,L≤b→f b=false)
  (hin:f' L=true) (hout:∀b,b≠L→f' b=f b) :
  Qpx f' (if 0<L∧f (L-1)=true then
    match l.getLast? with
    | none=>[]
    | some x=>l.dropLast ++ [(x.1,x.2+1)]
   else l ++ [(L,1)]):=by
 have hlt:∀s n,(s,n)∈l→s<L:=by
  intro s n hm;have hr:=(h.mem s n).1 hm;rcases Nat.lt_or_ge s L with h1 | h1
  ·exact h1
  ·have:=hr.2.1 s NR (by have:=hr.1;omega);rw [h0 s h1] at this;cases this
 split
 ·rename_i hc
  obtain ⟨s0,n0,hr0,hs0,he0⟩:=Qq8 h0 hc.2;have hend:s0+n0=L:=by
   rcases Nat.lt_or_ge L (s0+n0) with h1 | h1
   ·have:=hr0.2.1 L (by omega) h1;rw [h0 L NR] at this;cases this
   ·omega
  have hm0:=(h.mem s0 n0).2 hr0;obtain ⟨q,x,hq⟩:∃q x,l=q ++ [x]:=by
   rcases List.eq_nil_or_concat l with e | ⟨q,x,e⟩
   ·rw [e] at hm0;exact absurd hm0 (by simp)
   ·exact ⟨q,x,by rw [e];simp⟩
  have hx:x=(s0,n0):=by
   rw [hq] at hm0;rcases List.mem_append.1 hm0 with h1 | h1
   ·exfalso
    have hp:=h.rising;unfold Qv5 at hp;rw [hq] at hp;have h2:s0<x.1:=(List.pairwise_append.1 hp).2.2 _ h1 x (by simp);have hxm:(x.1,x.2)∈l:=by rw [hq];simp
    have h3:=hlt _ _ hxm;have hrx:=(h.mem _ _).1 hxm;have:=hrx.1;have:=(hr0.meet hrx (b:=x.1) (by omega) (by omega) NR (by omega)).1;omega
   ·exact (List.mem_singleton.1 h1).symm
  subst hx;have hG:=fun s n=>Qrk (f:=f) (f':=f') (a:=L) (m:=1) (s0:=s0) (e0:=L+1) NR (fun b h1 _=>h0 b h1)
   (fun b h1 h2=>by rw [show b=L by omega];exact hin) (fun b hb=>hout b (by omega)) (.inr ⟨by omega,by rw [show L-s0=n0 by omega];exact hr0⟩) (.inl ⟨rfl,h0 _ (by omega)⟩) s n
  rw [hq,List.getLast?_concat];simp only [List.dropLast_concat]
  have hp:=h.rising;unfold Qv5 at hp;rw [hq] at hp;constructor
  ·exact List.pairwise_append.2 ⟨(List.pairwise_append.1 hp).1,by simp,fun y hy z hz=>by
    rw [List.mem_singleton.1 hz];exact (List.pairwise_append.1 hp).2.2 y hy (s0,n0) (by simp)⟩
  ·intro s n;rw [hG s n];constructor
   ·intro hm;rcases List.mem_append.1 hm with h1 | h1
    ·right
     have hr:=(h.mem s n).1 (by rw [hq];simp [h1]);have h2:s<s0:=(List.pairwise_append.1 hp).2.2 _ h1 (s0,n0) (by simp);refine ⟨hr,?_,by omega⟩;intro e;have:=(hr.back hr0 (by omega)).1;omega
    ·left
     have:=List.mem_singleton.1 h1;injection this with e1 e2
     omega
   ·rintro (⟨rfl,rfl⟩|⟨hr,h1,_⟩)
    ·exact List.mem_append.2 (.inr (by rw [show L+1-s=n0+1 by omega];simp))
    ·have hm:=(h.mem s n).2 hr;rw [hq] at hm;rcases List.mem_append.1 hm with h2 | h2
     ·exact List.mem_append.2 (.inl h2)
     ·have:=List.mem_singleton.1 h2;injection this with e1 e2
      omega
 ·rename_i hc
  have hfl:∀b,b+1=L→f b=false:=by
   intro b hb
   cases hv:f b with
   | false=>rfl
   | true=>exact absurd ⟨by omega,by rw [show L-1=b by omega];exact hv⟩ hc
  have hG:=fun s n=>Qrk (f:=f) (f':=f') (a:=L) (m:=1) (s0:=L) (e0:=L+1) NR (fun b h1 _=>h0 b h1)
   (fun b h1 h2=>by rw [show b=L by omega];exact hin) (fun b hb=>hout b (by omega)) (.inl ⟨rfl,hfl⟩) (.inl ⟨rfl,h0 _ (by omega)⟩) s n
  constructor
  ·exact List.pairwise_append.2 ⟨h.rising,by simp,fun y hy z hz=>by
    rw [List.mem_singleton.1 hz];exact hlt y.1 y.2 hy⟩
  ·intro s n;rw [hG s n];constructor
   ·intro hm;rcases List.mem_append.1 hm with h1 | h1
    ·right
     have hr:=(h.mem s n).1 h1;refine ⟨hr,?_,by have:=hlt s n h1;omega⟩;intro e;have hn:=hr.1;have:=hr.2.1 (L-1) (by omega) (by omega);rw [hfl (L-1) (by omega)] at this;cases this
    ·left
     have:=List.mem_singleton.1 h1;injection this with e1 e2
     omega
   ·rintro (⟨rfl,rfl⟩|⟨hr,_,_⟩)
    ·exact List.mem_append.2 (.inr (by rw [show s+1-s=1 by omega];simp))
    ·exact List.mem_append.2 (.inl ((h.mem s n).2 hr))
theorem Qtk (f : Nat → Bool) : ∀ L, Qpx (Qo4 f L) (Qia f L)
 | 0 => ⟨List.Pairwise.nil, fun s n => ⟨fun h => absurd h (by simp [Qia]), fun h => by
   have := h.2.1 s NR (by have := h.1; omega); simp [Qo4] at this⟩⟩
 | L + 1 => by
  have ih := Qtk f L;unfold Qia
  cases hf : f L with
  | false =>
   simp only [Bool.false_eq_true, if_false]
   refine Qly ih fun b => ?_
   unfold Qo4
   by_cases hb : b < L
   ·simp [hb, Nat.lt_succ_of_lt hb]
   ·by_cases he : b = L
    ·subst he; simp [hf]
    ·rw [decide_eq_false hb, decide_eq_false (by omega)]
  | true =>
   simp only [if_true]
   have hst := Que (f' := Qo4 f (L + 1)) (L := L) ih (fun b hb => by unfold Qo4; rw [decide_eq_false (by omega)]; rfl) (by unfold Qo4; simp [hf]) (fun b hb => by
    unfold Qo4
    by_cases h1 : b < L
    ·simp [h1, Nat.lt_succ_of_lt h1]
    ·rw [decide_eq_false h1, decide_eq_false (by omega)])
   have hc : (0 < L ∧ Qo4 f L (L - 1) = true) ↔ (0 < L ∧ f (L - 1) = true) := by
    unfold Qo4;constructor
    ·rintro ⟨h1, h2⟩; exact ⟨h1, by simpa [show L - 1 < L by omega] using h2⟩
    ·rintro ⟨h1, h2⟩; exact ⟨h1, by simpa [show L - 1 < L by omega] using h2⟩
   simp only [hc] at hst
   exact hst
theorem Qt3 {l:List (Nat × Nat)} (h:Qv5 l):l.Nodup :=
 List.Pairwise.imp (fun {x y} hxy e=>by rw [e] at hxy;omega) h
def Qfe (l:List (Nat × Nat)):Nat:=(l.map (·.2)).sum
theorem Qwi {a b:List (Nat × Nat)} (h:a.Perm b):Qfe a=Qfe b:=(h.map _).sum_nat
theorem Jci (l:List (Nat × Nat)) (x:Nat × Nat):Qfe (l ++ [x])=Qfe l+x.2:=by simp [Qfe]
def Ji5 (n:Nat) (A:Nat→Nat→Prop):Option (Nat × Nat)→Prop
 | none=>∀s k,A s k→k<n
 | some x=>A x.1 x.2∧n≤x.2∧∀s k,A s k→n≤k→x.2<k∨(x.2=k∧x.1≤s)
def Jfw (n:Nat) (o:Option (Nat × Nat)) (k:Nat):Bool :=
 decide (n≤k) && match o with
  | none=>true
  | some y=>decide (k<y.2)
def Jff (n:Nat):Option (Nat × Nat)→List (Nat × Nat)→Option (Nat × Nat)
 | o,[]=>o
 | o,x :: l=>Jff n (if Jfw n o x.2 then some x else o) l
def pick (n:Nat) (l:List (Nat × Nat)):Option (Nat × Nat):=Jff n none l
def fb (l:List Bool) (b:Nat):Bool:=l.getD b false
theorem Qsc (l:List Bool) (b:Nat) (h:l.length≤b):fb l b=false:=by
 unfold fb;rw [GD,List.getElem?_eq_none h];rfl
def Qk4 (l:List Bool) (a:Nat) (v:Bool):Nat→List Bool
 | 0=>l
 | m+1=>(Qk4 l a v m).set (a+m) v
theorem Qdp (l:List Bool) (a:Nat) (v:Bool):∀m,(Qk4 l a v m).length=l.length
 | 0=>rfl
 | m+1=>by rw [Qk4,List.length_set,Qdp l a v m]
theorem Qmr (l:List Bool) (a:Nat) (v:Bool):∀m,a+m≤l.length→∀b,fb (Qk4 l a v m) b=if a≤b∧b<a+m then v else fb l b
 | 0,_,b=>by rw [if_neg (by omega)];rfl
 | m+1,h,b=>by
  have ih:=Qmr l a v m (by omega) b;unfold fb at ih ⊢;rw [Qk4,GD,List.getElem?_set]
  by_cases hb:a+m=b
  ·rw [if_pos hb,if_pos (by rw [Qdp];omega),if_pos (by omega)];rfl
  ·rw [if_neg hb,← GD,ih]
   by_cases h1:a≤b∧b<a+m
   ·rw [if_pos h1,if_pos (by omega)]
   ·rw [if_neg h1,if_neg (by omega)]
def Qhv (l:List Bool):List (Nat × Nat):=Qia (fb l) l.length
theorem Qsy (l:List Bool):Qpx (fb l) (Qhv l) :=
 Qly (Qtk (fb l) l.length) fun b=>by
  unfold Qo4
  by_cases h:b<l.length
  ·simp [h]
  ·rw [decide_eq_false h,Qsc l b (by omega)];rfl
def Qby (l:List Bool) (a:Nat):Nat→Bool
 | 0=>false
 | m+1=>Qby l a m || fb l (a+m)
theorem Qdc {l:List Bool} {a:Nat} : ∀ {m:Nat},Qby l a m=false→∀b,a≤b→b<a+m→fb l b=false
 | 0,_,b,h1,h2=>by omega
 | m+1,h,b,h1,h2=>by
  rw [Qby,Bool.or_eq_false_iff] at h
  by_cases hb:b=a+m
  ·rw [hb];exact h.2
  ·exact Qdc h.1 b h1 (by omega)
theorem Qme {l:List Bool} {a:Nat} : ∀ {m:Nat},Qby l a m=true→∃b,a≤b∧b<a+m∧fb l b=true
 | 0,h=>by cases h
 | m+1,h=>by
  rw [Qby,Bool.or_eq_true_iff] at h;rcases h with h | h
  ·obtain ⟨b,h1,h2,h3⟩:=Qme h;exact ⟨b,h1,by omega,h3⟩
  ·exact ⟨a+m,by omega,by omega,h⟩
theorem Qom {l:List Bool} {a b:Nat} : ∀ {m:Nat},a≤b→b<a+m→fb l b=true→Qby l a m=true
 | 0,h1,h2,_=>by omega
 | m+1,h1,h2,h3=>by
  rw [Qby,Bool.or_eq_true_iff]
  by_cases hb:b=a+m
  ·right;rw [← hb];exact h3
  ·left;exact Qom h1 (by omega) h3
def Qep (l:List Bool) (a m:Int):List Bool × Int :=
 if a<1∨m<1∨(l.length:Int)≤a∨(l.length:Int)-a<m then (l,1)
 else if Qby l a.toNat m.toNat then (l,41)
 else (Qk4 l a.toNat true m.toNat,0)
theorem Jan {l:List Bool} {s n:Nat} (h:Qel (fb l) s n):s+n≤l.length:=by
 rcases Nat.lt_or_ge l.length (s+n) with h1 | h1
 ·have:=h.2.1 (s+n-1) (by have:=h.1;omega) (by have:=h.1;omega);rw [Qsc l _ (by omega)] at this;cases this
 ·exact h1
theorem Qsm {l:List Bool} {a m s0 e0:Nat} (hm:1≤m) (ha:a+m≤l.length) (h0:Qby l a m=false)
  (hs:s0=a∧(∀b,b+1=a→fb l b=false)∨s0<a∧Qel (fb l) s0 (a-s0))
  (he:e0=a+m∧fb l (a+m)=false∨a+m<e0∧Qel (fb l) (a+m) (e0-(a+m))) (s n:Nat) :
  Qel (fb (Qk4 l a true m)) s n↔(s=s0∧n=e0-s0)∨(Qel (fb l) s n∧s+n≠a∧s≠a+m) :=
 Qrk hm (Qdc h0) (fun b h1 h2=>by rw [Qmr l a true m ha,if_pos ⟨h1,h2⟩]) (fun b h1=>by rw [Qmr l a true m ha,if_neg (by omega)]) hs he s n
def MOf (l:List Bool) (M:Int→Option Int):Prop:=∀s c:Int,M s=some c↔0≤s∧0≤c∧Qel (fb l) s.toNat c.toNat
def EOf (l:List Bool) (E:Int→Option Int):Prop:=∀e s:Int,E e=some s↔0≤s∧s≤e∧Qel (fb l) s.toNat (e-s).toNat
theorem Jft {l:List Bool} (h:∀b,fb l b=false):MOf l fun _=>none:=fun s c=>⟨fun e=>(by cases e),fun ⟨_,h1,hr⟩=>by
 have:=hr.2.1 s.toNat NR (by have:=hr.1;omega);rw [h] at this;cases this⟩
theorem Jf3 {l:List Bool} (h:∀b,fb l b=false):EOf l fun _=>none:=fun e s=>⟨fun e=>(by cases e),fun ⟨_,h1,hr⟩=>by
 have:=hr.2.1 s.toNat NR (by have:=hr.1;omega);rw [h] at this;cases this⟩
section
variable {l:List Bool} {M E:Int→Option Int} {a m s0 e0:Nat}
theorem Jhu (hM:MOf l M) (hm:1≤m) (ha:a+m≤l.length) (h0:Qby l a m=false)
  (hs:s0=a∧(∀b,b+1=a→fb l b=false)∨s0<a∧Qel (fb l) s0 (a-s0))
  (he:e0=a+m∧fb l (a+m)=false∨a+m<e0∧Qel (fb l) (a+m) (e0-(a+m))) {M':Int→Option Int}
  (hnew:M' s0=some ((e0:Int)-s0)) (hgone:∀s,s≠(s0:Int)→(s=(a:Int)+m∨M s=some ((a:Int)-s))→M' s=none)
  (hold:∀s,s≠(s0:Int)→s≠(a:Int)+m→M s≠some ((a:Int)-s)→M' s=M s):MOf (Qk4 l a true m) M':=by
 have hs0:s0≤a:=by rcases hs with ⟨h,_⟩|⟨h,_⟩ <;> omega
 have he0:a+m≤e0:=by rcases he with ⟨h,_⟩|⟨h,_⟩ <;> omega
 intro s c;have hG:=Qsm hm ha h0 hs he s.toNat c.toNat
 by_cases h1:s=(s0:Int)
 ·rw [h1,hnew];constructor
  ·intro e;have e':(e0:Int)-s0=c:=by injection e
   refine ⟨by omega,by omega,?_⟩;rw [← h1,hG];left;constructor <;> omega
  ·rintro ⟨_,hc,hr⟩;rw [← h1,hG] at hr;rcases hr with ⟨_,h2⟩|⟨hr,h2,h3⟩
   ·congr 1;omega
   ·exfalso
    rcases hs with ⟨e,_⟩|⟨hlt,hr0⟩
    ·have:=hr.2.1 s.toNat NR (by have:=hr.1;omega);rw [Qdc h0 s.toNat (by omega) (by omega)] at this;cases this
    ·have:=hr.one (n':=a-s0) (by rw [show s.toNat=s0 by omega];exact hr0);omega
 ·by_cases h2:s=(a:Int)+m∨M s=some ((a:Int)-s)
  ·rw [hgone s h1 h2];refine ⟨fun e=>(by cases e),?_⟩;rintro ⟨hs1,hc,hr⟩;rw [hG] at hr;exfalso
   rcases hr with ⟨h3,_⟩|⟨hr,h3,h4⟩
   ·omega
   ·rcases h2 with h2 | h2
    ·omega
    ·obtain ⟨h5,h6,hr'⟩:=(hM _ _).1 h2;have:=hr.one hr';omega
  ·rw [hold s h1 (fun e=>h2 (.inl e)) (fun e=>h2 (.inr e)),hM s c];constructor
   ·rintro ⟨h3,h4,hr⟩;refine ⟨h3,h4,hG.2 (.inr ⟨hr,fun e=>h2 (.inr ((hM _ _).2 ⟨h3,by omega,?_⟩)),fun e=>h2 (.inl (by omega))⟩)⟩;rw [show ((a:Int)-s).toNat=c.toNat by omega];exact hr
   ·rintro ⟨h3,h4,hr⟩;rcases hG.1 hr with ⟨h5,_⟩|⟨hr',_⟩
    ·omega
    ·exact ⟨h3,h4,hr'⟩
theorem Jhw (hE:EOf l E) (hm:1≤m) (ha:a+m≤l.length) (h0:Qby l a m=false)
  (hs:s0=a∧(∀b,b+1=a→fb l b=false)∨s0<a∧Qel (fb l) s0 (a-s0))
  (he:e0=a+m∧fb l (a+m)=false∨a+m<e0∧Qel (fb l) (a+m) (e0-(a+m))) {E':Int→Option Int}
  (hnew:E' e0=some (s0:Int)) (hgone:∀e,e≠(e0:Int)→(e=(a:Int)∨E e=some ((a:Int)+m))→E' e=none)
  (hold:∀e,e≠(e0:Int)→e≠(a:Int)→E e≠some ((a:Int)+m)→E' e=E e):EOf (Qk4 l a true m) E':=by
 have hs0:s0≤a:=by rcases hs with ⟨h,_⟩|⟨h,_⟩ <;> omega
 have he0:a+m≤e0:=by rcases he with ⟨h,_⟩|⟨h,_⟩ <;> omega
 intro e s;have hG:=Qsm hm ha h0 hs he s.toNat (e-s).toNat
 by_cases h1:e=(e0:Int)
 ·rw [h1,hnew];constructor
  ·intro x;have x':(s0:Int)=s:=by injection x
   refine ⟨by omega,by omega,?_⟩;rw [← h1,hG];left;constructor <;> omega
  ·rintro ⟨hs1,hc,hr⟩;rw [← h1,hG] at hr;rcases hr with ⟨h2,_⟩|⟨hr,h2,h3⟩
   ·congr 1;omega
   ·exfalso
    rcases he with ⟨x,hf⟩|⟨hlt,hr0⟩
    ·have hx:=hr.2.1 (s.toNat+(e-s).toNat-1) (by have:=hr.1;omega) (by have:=hr.1;omega);rw [Qdc h0 _ (by have:=hr.1;omega) (by have:=hr.1;omega)] at hx;cases hx
    ·have:=(hr.back hr0 (by omega)).1;omega
 ·by_cases h2:e=(a:Int)∨E e=some ((a:Int)+m)
  ·rw [hgone e h1 h2];refine ⟨fun x=>(by cases x),?_⟩;rintro ⟨hs1,hc,hr⟩;rw [hG] at hr;exfalso
   rcases hr with ⟨h3,h4⟩|⟨hr,h3,h4⟩
   ·omega
   ·rcases h2 with h2 | h2
    ·omega
    ·obtain ⟨h5,h6,hr'⟩:=(hE _ _).1 h2;have:=(hr.back hr' (by omega)).1;omega
  ·rw [hold e h1 (fun x=>h2 (.inl x)) (fun x=>h2 (.inr x)),hE e s];constructor
   ·rintro ⟨h3,h4,hr⟩;refine ⟨h3,h4,hG.2 (.inr ⟨hr,fun x=>h2 (.inl (by omega)),fun x=>h2 (.inr ((hE _ _).2 ⟨by omega,by omega,?_⟩))⟩)⟩;rw [show ((a:Int)+m).toNat=s.toNat by omega,show (e-((a:Int)+m)).toNat=(e-s).toNat by omega];exact hr
   ·rintro ⟨h3,h4,hr⟩;rcases hG.1 hr with ⟨h5,h6⟩|⟨hr',_⟩
    ·omega
    ·exact ⟨h3,h4,hr'⟩
end
section
variable {l:List Bool} {M E:Int→Option Int} {a k m:Nat}
end
end
section
open Go.Maps Go.ChangeMaps
structure Qnv (D:DataW Unit) (M:Int→Option Int):Prop where
 isMap:IsMap D
 has:∀x,has D (.int .i64 x)=(M x).isSome
 val:∀x c,M x=some c→∀z,D.atKey (.int .i64 x) z=.lit (.int .i64 c)
theorem Qnv.get {D:DataW Unit} {M:Int→Option Int} (h:Qnv D M) (x:Int):D.atKey (.int .i64 x) (.lit (.int .i64 0))=.lit (.int .i64 ((M x).getD 0)):=by
 cases hm:M x with
 | none=>rw [atKey_of_not_has (by rw [h.has,hm];rfl)];rfl
 | some c=>rw [h.val x c hm];rfl
theorem Jcl {x:Int} (_hw:(Lit.int .i64 x).wf=true):WideAt.IsKeyLit (.int .i64 x):=by
 trivial
theorem Jct:Qnv (.map []) fun _=>none:=⟨isMap_empty,fun _=>rfl,fun _ _ h=>by cases h⟩
theorem Qnv.put {D:DataW Unit} {M:Int→Option Int} (h:Qnv D M) {x:Int} (hw:(Lit.int .i64 x).wf=true) (c:Int) :
  Qnv (D.put (.int .i64 x) (.lit (.int .i64 c))) fun y=>if y=x then some c else M y:=by
 refine ⟨h.isMap.put _ _,fun y=>?_,fun y d hy z=>?_⟩
 ·by_cases e:y=x
  ·subst e;rw [has_put_same h.isMap (Jcl hw),if_pos rfl];rfl
  ·rw [has_put_other (by simpa using e),if_neg e,h.has]
 ·by_cases e:y=x
  ·subst e;rw [if_pos rfl] at hy;cases hy;rw [atKey_put_same h.isMap (Jcl hw)]
  ·rw [if_neg e] at hy;rw [atKey_put_other (by simpa using e),h.val y d hy]
theorem Qnv.del {D:DataW Unit} {M:Int→Option Int} (h:Qnv D M) (x:Int):Qnv (D.del (.int .i64 x)) fun y=>if y=x then none else M y:=by
 refine ⟨h.isMap.del _,fun y=>?_,fun y d hy z=>?_⟩
 ·by_cases e:y=x
  ·subst e;rw [has_del_same,if_pos rfl];rfl
  ·rw [has_del_other (by simpa using e),if_neg e,h.has]
 ·by_cases e:y=x
  ·rw [if_pos e] at hy;cases hy
  ·rw [if_neg e] at hy;rw [atKey_del_other (by simpa using e),h.val y d hy]
def Qiz (P:Program) (k:TypeId) (w:World) (b n:Nat) (M:Int→Option Int):Prop :=
 ∃D:DataW Unit,w.ownsMap P k (plainElem P k) b n D∧Qnv D M
section
variable {P:Program} {k t:TypeId} {w:World} {b n:Nat} {M:Int→Option Int} {ops:Array Oper} {rest:List Oper} {o:Oper} {a:Act} {Q:Exit→Act→World→Prop}
theorem Qiz.kept {w':World} {row:Option Nat} (h:Qiz P k w b n M) (hg:w.grownBy w' row) (hne:some b≠row):Qiz P k w' b n M:=by
 obtain ⟨D,ho,ht⟩:=h;exact ⟨D,ho.kept hg hne,ht⟩
theorem Qiz.alloc (h:Qiz P k w b n M) (ob:Obj):Qiz P k (w.alloc ob) b n M:=by
 obtain ⟨D,ho,ht⟩:=h;exact ⟨D,ho.alloc ob,ht⟩
theorem Qiz.mono {n':Nat} (h:Qiz P k w b n M) (hn:n≤n'):Qiz P k w b n' M:=by
 obtain ⟨D,ho,ht⟩:=h;exact ⟨D,ho.mono hn,ht⟩
theorem Qiz.lt (h:Qiz P k w b n M):b<w.heap.size:=by obtain ⟨D,ho,_⟩:=h;exact ho.lt
theorem Qiz.made (w:World) (P:Program) (k:TypeId):Qiz P k (w.alloc (.map #[] 0)) w.heap.size 0 fun _=>none :=
 ⟨.map [],World.ownsMap_made w P k _,Jct⟩
theorem Qiz.block (h:Qiz P k w b n M) {w':World} (he:w'.heap[b]?=w.heap[b]?):Qiz P k w' b n M:=by
 obtain ⟨D,⟨es,clock,hb,F,hs,hD⟩,ht⟩:=h;exact ⟨D,⟨es,clock,he.trans hb,F,hs,hD⟩,ht⟩
theorem Qcj (hg:o.guard=none) (m x:Operand) (t:TypeId) (hop:o.op=Op.lookup t m x true)
  (k:TypeId) (hk:P.underlying k=some (.int .i64)) (ht:P.underlying t=some (.map k k)) (hz:(zeroValue k).run P w=.ok (.int .i64 0) w) (b n:Nat) (M:Int→Option Int)
  (hm:a.eval m=.map (some b)) (hown:Qiz P k w b n M) (y:Int) (hx:a.eval x=.int .i64 y) (hw:(Lit.int .i64 y).wf=true)
  (hK:wpList P ops Q rest (a.put o.dst (.tuple #[.int .i64 ((M y).getD 0),.bool (M y).isSome])) w) :
  wpList P ops Q (o :: rest) a w:=by
 obtain ⟨D,ho,hT⟩:=hown;refine wpList_lookup_own_ok_int w hg m x t hop k k .i64 (int_keyed hk) ht hk hz b n D hm ho _ _ hx (keyOf_int_mk hk hw) fun c hat _=>?_
 rw [hT.get y] at hat;have e:(M y).getD 0=c:=by injection hat with h1;injection h1
 rw [← e,hT.has y];exact hK
theorem Qlq (hg:o.guard=none) (m x:Operand) (t:TypeId) (hop:o.op=Op.lookup t m x false)
  (k:TypeId) (hk:P.underlying k=some (.int .i64)) (ht:P.underlying t=some (.map k k)) (hz:(zeroValue k).run P w=.ok (.int .i64 0) w) (b n:Nat) (M:Int→Option Int)
  (hm:a.eval m=.map (some b)) (hown:Qiz P k w b n M) (y:Int) (hx:a.eval x=.int .i64 y) (hw:(Lit.int .i64 y).wf=true)
  (hK:wpList P ops Q rest (a.put o.dst (.int .i64 ((M y).getD 0))) w) :
  wpList P ops Q (o :: rest) a w:=by
 obtain ⟨D,ho,hT⟩:=hown;refine wpList_lookup_own_int w hg m x t hop k k .i64 (int_keyed hk) ht hk hz b n D hm ho _ _ hx (keyOf_int_mk hk hw) fun c hat _=>?_
 rw [hT.get y] at hat;have e:(M y).getD 0=c:=by injection hat with h1;injection h1
 rw [← e];exact hK
theorem Qja (hg:o.guard=none) (m x:Operand) (t k:TypeId) (hop:o.op=Op.call { callee:=Callee.builtin Builtin.delete,args:=#[m,x],argTypes:=#[t,k] })
  (hk:P.underlying k=some (.int .i64)) (ht:P.underlying t=some (.map k k)) (b n:Nat) (M:Int→Option Int)
  (hm:a.eval m=.map (some b)) (hown:Qiz P k w b n M) (y:Int) (hx:a.eval x=.int .i64 y) (hw:(Lit.int .i64 y).wf=true)
  (hK:∀w',Qiz P k w' b n (fun z=>if z=y then none else M z)→w.grownBy w' (some b)→wpList P ops Q rest (a.put o.dst (.tuple #[])) w') :
  wpList P ops Q (o :: rest) a w:=by
 obtain ⟨D,ho,hT⟩:=hown;exact wpList_delete_own w hg m x t k hop k (int_keyed hk) ht (plainElem P k) b n D hm ho _ _ hx (keyOf_int_mk hk hw) fun w' h1 h2=>hK w' ⟨_,h1,hT.del y⟩ h2.grown
def Qn8 (P:Program) (k:TypeId) (w:World) (b r n:Nat) (M:Int→Option Int) (L:Int→Bool) (cnt:Nat):Prop :=
 ∃(D:DataW Unit) (left:Lit→Bool),w.ranges P k (plainElem P k) b r n D left cnt∧Qnv D M∧∀x,left (.int .i64 x)=L x
theorem Qn8.left_eq {L:Int→Bool} {cnt r:Nat} (h:Qn8 P k w b r n M L cnt):w.rangeLeft b r=cnt:=by
 obtain ⟨D,left,h1,_⟩:=h;exact h1.left_eq
theorem Qj0 (hg:o.guard=none) (m:Operand) (t:TypeId) (hop:o.op=Op.range t m) (k:TypeId) (hk:P.underlying k=some (.int .i64)) (ht:P.underlying t=some (.map k k)) (b n:Nat) (M:Int→Option Int)
  (hm:a.eval m=.map (some b)) (hown:Qiz P k w b n M)
  (hK:∀w' cnt,Qn8 P k w' b w.heap.size n M (fun x=>(M x).isSome) cnt→w.grownBy w' none→w'.heap.size=w.heap.size+1→wpList P ops Q rest (a.put o.dst (.pointer (some ⟨w.heap.size,0,none⟩))) w') :
  wpList P ops Q (o :: rest) a w:=by
 obtain ⟨D,ho,hT⟩:=hown;exact wpList_range_own w hg m t hop k k (int_keyed hk) ht (plainElem P k) b n D hm ho fun w' h1 h2 h3=>hK w' _ ⟨D,_,h1,hT,hT.has⟩ h2 h3
theorem Qlz (hg : o.guard = none) (it : Operand) (hop : o.op = Op.next it false) (k : TypeId) (hk : P.underlying k = some (.int .i64))
  (b r n : Nat) (M : Int → Option Int) (L : Int → Bool) (cnt : Nat) (hit : a.eval it = .pointer (some ⟨r, 0, none⟩)) (h : Qn8 P k w b r n M L cnt)
  (hDone : (∀ x, L x = false) → wpList P ops Q rest (a.put o.dst (.tuple #[.bool false])) w)
  (hMore : ∀ (x c : Int) (w' : World) (cnt' : Nat), (Lit.int .i64 x).wf = true → (Lit.int .i64 c).wf = true → L x = true → M x = some c → Qn8 P k w' b r n M (fun z => L z && !decide (z = x)) cnt' → cnt' < cnt →
   w.grownBy w' (some r) → w'.heap.size = w.heap.size → (Instr.entry (.pointer (some ⟨r, 0, none⟩))).run P w' = .ok (.tuple #[.int .i64 x, .int .i64 c]) w' → wpList P ops Q rest (a.put o.dst (.tuple #[.bool true, .int .i64 x, .int .i64 c])) w') :
  wpList P ops Q (o :: rest) a w := by
 obtain ⟨D, left, h1, hT, hL⟩ := h;refine wpList_next_ranges_ii w hg it hop k k .i64 .i64 (int_keyed hk) hk hk b r n D left cnt hit h1 (fun _ h0 => hDone fun x => by rw [← hL, h0]) ?_;intro x c w' cnt' hwx hwc hlx hat hrg hlt hgr hsz hen;have hhas : has D (.int .i64 x) = true := has_true_of_atKey hat;rw [hT.has] at hhas;have hM : M x = some c := by
  cases hm : M x with
  | none => rw [hm] at hhas; cases hhas
  | some c' =>
   have e := hat (.lit (.int .i64 0));rw [hT.val x c' hm] at e;have : c' = c := by injection e with h1; injection h1
   rw [this]
 refine hMore x c w' cnt' hwx hwc (by rw [← hL]; exact hlx) hM ⟨D, _, hrg, hT, fun z => ?_⟩ hlt hgr hsz hen;simp only [hL]
 congr 2
 by_cases e : z = x
 ·subst e; rw [WideAt.sameKey_self (Jcl hwx)]; simp
 ·rw [Maps.sameKey_ne (by simpa using e)]; simp [e]
end
end
section
open Go.Maps Go.ChangeMaps Go.MapKept Go.WideElems
section
variable {P:Program} {k t:TypeId} {w:World} {b n:Nat} {M:Int→Option Int}
theorem Qi6 {es:Array MapEntry} {clock j:Nat} {e0:MapEntry} (hb:w.heap[b]?=some (.map es clock)) (hn:(es.toList.map (·.born)).Nodup) (hj:es.toList[j]?=some e0) (val:Value) :
  (Instr.entryStore t (.map (some b)) (goInt e0.born) val).run P w=.ok () (setBlock w b (.map (es.modify j fun e=>{ e with val:=val }) clock)):=by
 have hidx:es.findIdx? (fun e=>((e.born:Nat):Int) == ((e0.born:Nat):Int))=some j:=by
  rw [findIdx_arr];exact findIdx_born hn hj
 simp [Instr.entryStore,MapKept.run_getObj_map hb,asInt,asIntOf,goInt,hidx,MapKept.run_setObj_map _ hb,Result.andThen,setBlock]
theorem Qyo (h:Qiz P k w b n M) (hk:P.underlying k=some (.int .i64)) (ht:P.underlying t=some (.map k k)) (hz:∀u:World,(zeroValue k).run P u=.ok (.int .i64 0) u) (hn:n<maxLen) {y:Int} (hw:(Lit.int .i64 y).wf=true) :
  ∃(v0:Value) (st:Nat) (es1:Array MapEntry) (clock1:Nat),(Instr.mapEntry t (.map (some b)) (.int .i64 y)).run P w=.ok (.tuple #[v0,goInt st]) (setBlock w b (.map es1 clock1))∧
   ∀(w2:World) (c:Int),(Lit.int .i64 c).wf=true→w2.heap[b]?=some (.map es1 clock1)→∃es' clock',(Instr.entryStore t (.map (some b)) (goInt st) (.int .i64 c)).run P w2=.ok () (setBlock w2 b (.map es' clock'))∧
    Qiz P k (setBlock w2 b (.map es' clock')) b (n+1) (fun z=>if z=y then some c else M z):=by
 have K:=int_keyed hk;obtain ⟨D,ho,hT⟩:=h;have hup:∀c:Int,(Lit.int .i64 c).wf=true→∃w',(Instr.mapUpdate t (.map (some b)) (.int .i64 y) (.int .i64 c)).run P w=.ok () w'∧Qiz P k w' b (n+1) (fun z=>if z=y then some c else M z):=fun c hc=>by
  obtain ⟨w',h1,h2,_⟩:=ho.update K ht hn (keyOf_int_mk hk hw) (plainElem_int hk hc);exact ⟨w',h1,_,h2,hT.put hw c⟩
 have hmove:∀(w2:World) (c:Int) (es':Array MapEntry) (clock':Nat) (e2:Array MapEntry) (c2:Nat),(Lit.int .i64 c).wf=true→w2.heap[b]?=some (.map e2 c2)→
   (Instr.mapUpdate t (.map (some b)) (.int .i64 y) (.int .i64 c)).run P w=.ok () (setBlock w b (.map es' clock'))→Qiz P k (setBlock w2 b (.map es' clock')) b (n+1) (fun z=>if z=y then some c else M z):=by
  intro w2 c es' clock' e2 c2 hc h2 hrun;obtain ⟨w',h3,h4⟩:=hup c hc;rw [hrun] at h3;injection h3 with _ h5
  rw [← h5] at h4;obtain ⟨es,clock,hb,_⟩:=ho;exact h4.block ((heap_setBlock_same h2 _).trans (heap_setBlock_same hb _).symm)
 obtain ⟨es,clock,hb,F,_,_⟩:=ho;obtain ⟨s1,s2,_⟩:=F.stamped;have hkey:=keyOf_int_mk (k:=k) hk hw;rcases K.find w hkey es.toList F.keys with ⟨h1,h2⟩|⟨j,e0,h1,h2,h3⟩
 ·have hlast:(es.push ⟨.int .i64 y,.int .i64 0,clock⟩).toList[es.size]?=some ⟨.int .i64 y,.int .i64 0,clock⟩:=by simp
  have hnd:((es.push ⟨.int .i64 y,.int .i64 0,clock⟩).toList.map (·.born)).Nodup:=by
   rw [Array.toList_push,List.map_append];refine List.nodup_append.2 ⟨s2,by simp,fun a ha c hc e=>?_⟩;obtain ⟨x,hx,rfl⟩:=List.mem_map.1 ha;have:=s1 x hx;simp at hc;omega
  refine ⟨.int .i64 0,clock,_,clock+1,?_,fun w2 c hc hw2=>⟨_,_,Qi6 hw2 hnd hlast _,hmove w2 c _ _ _ _ hc hw2 ?_⟩⟩
  ·simp [Instr.mapEntry,run_underlying ht,MapKept.run_getObj_map hb,K.check w false hkey,h1,hz,MapKept.run_setObj_map _ hb,Result.andThen,setBlock]
  ·have hmod:(es.push ⟨.int .i64 y,.int .i64 0,clock⟩).modify es.size (fun e=>{ e with val:=.int .i64 c })=es.push ⟨.int .i64 y,.int .i64 c,clock⟩:=by
    apply Array.ext'
    rw [Array.toList_modify,Array.toList_push,Array.toList_push,← Array.length_toList,modify_last]
   rw [hmod];simp [Instr.mapUpdate,run_underlying ht,MapKept.run_getObj_map hb,K.check w false hkey,h1,MapKept.run_setObj_map _ hb,Result.andThen,setBlock]
 ·have hj:es[j]?=some e0:=by simpa using h2
  have hsame:es.modify j (fun e=>{ e with key:=.int .i64 y })=es:=by
   apply Array.ext'
   rw [Array.toList_modify,modify_eq_set _ _ _ _ h2,show ({ e0 with key:=.int .i64 y } : MapEntry)=e0 by rw [← h3]];exact set_self _ _ _ h2
  refine ⟨e0.val,e0.born,es,clock,?_,fun w2 c hc hw2=>⟨_,_,Qi6 hw2 s2 h2 _,hmove w2 c _ _ _ _ hc hw2 ?_⟩⟩
  ·simp [Instr.mapEntry,run_underlying ht,MapKept.run_getObj_map hb,K.check w false hkey,h1,hj,h3,K.stays w hkey,hsame,MapKept.run_setObj_map _ hb,Result.andThen,setBlock]
  ·have hmod:es.modify j (fun e=>{ e with val:=.int .i64 c })=es.modify j (fun e'=>{ e' with key:=.int .i64 y,val:=.int .i64 c }):=by
    apply Array.ext'
    rw [Array.toList_modify,Array.toList_modify,modify_eq_set _ _ _ _ h2,modify_eq_set _ _ _ _ h2,← h3]
   rw [hmod];simp [Instr.mapUpdate,run_underlying ht,MapKept.run_getObj_map hb,K.check w false hkey,h1,hj,h3,K.stays w hkey,MapKept.run_setObj_map _ hb,Result.andThen,setBlock]
end
def Jis (P:Program) (k t:TypeId) (w:World) (b n:Nat) (M:Int→Option Int) (y:Int) (st:Nat):Prop :=
 ∃(es1:Array MapEntry) (clock1:Nat),w.heap[b]?=some (.map es1 clock1)∧
  ∀(w2:World) (c:Int),(Lit.int .i64 c).wf=true→w2.heap[b]?=some (.map es1 clock1)→∃es' clock',(Instr.entryStore t (.map (some b)) (goInt st) (.int .i64 c)).run P w2=.ok () (setBlock w2 b (.map es' clock'))∧
   Qiz P k (setBlock w2 b (.map es' clock')) b (n+1) (fun z=>if z=y then some c else M z)
section
variable {P:Program} {k t:TypeId} {w:World} {b n:Nat} {M:Int→Option Int} {ops:Array Oper} {rest:List Oper} {o:Oper} {a:Act} {Q:Exit→Act→World→Prop} {y:Int} {st:Nat}
theorem Qi3 (w : World) (b : Nat) (x : Obj) : w.grownBy (setBlock w b x) (some b) :=
 ⟨rfl, rfl, rfl, by simp [setBlock], fun i hi hne => by
  have : i ≠ b := fun e => hne (by rw [e])
  simp [setBlock, Ne.symm this]⟩
theorem Qkh (hg:o.guard=none) (m x:Operand) (t:TypeId) (hop:o.op=Op.mapEntry t m x)
  (k:TypeId) (hk:P.underlying k=some (.int .i64)) (ht:P.underlying t=some (.map k k)) (hz:∀u:World,(zeroValue k).run P u=.ok (.int .i64 0) u) (b n:Nat) (M:Int→Option Int)
  (hm:a.eval m=.map (some b)) (hown:Qiz P k w b n M) (hn:n<maxLen) (y:Int) (hx:a.eval x=.int .i64 y) (hw:(Lit.int .i64 y).wf=true)
  (hK:∀w' v0 st,Jis P k t w' b n M y st→w.grownBy w' (some b)→wpList P ops Q rest (a.put o.dst (.tuple #[v0,goInt st])) w') :
  wpList P ops Q (o :: rest) a w:=by
 refine wpList_plain hg fun K' hK'=>?_
 have hlt:=hown.lt;obtain ⟨v0,st,es1,clock1,h1,h2⟩:=Qyo hown hk ht hz hn hw;unfold Oper.wp;simp [execOp,hop,hm,hx,h1,Result.andThen]
 exact hK' _ _ (hK _ v0 st ⟨es1,clock1,by simp [setBlock,hlt],h2⟩ (Qi3 _ _ _))
theorem Qf3 (hg:o.guard=none) (m s x:Operand) (t:TypeId) (hop:o.op=Op.entryStore t m s x)
  (k:TypeId) (b n:Nat) (M:Int→Option Int) (y:Int) (st:Nat) (c:Int)
  (hm:a.eval m=.map (some b)) (hs:a.eval s=goInt st) (hx:a.eval x=.int .i64 c) (hp:Jis P k t w b n M y st) (hc:(Lit.int .i64 c).wf=true)
  (hK:∀w',Qiz P k w' b (n+1) (fun z=>if z=y then some c else M z)→w.grownBy w' (some b)→wpList P ops Q rest (a.put o.dst undef) w') :
  wpList P ops Q (o :: rest) a w:=by
 refine wpList_plain hg fun K' hK'=>?_
 obtain ⟨es1,clock1,h1,h2⟩:=hp;obtain ⟨es',clock',h3,h4⟩:=h2 w c hc h1;unfold Oper.wp;simp [execOp,hop,hm,hs,hx,h3,Result.andThen]
 exact hK' _ _ (hK _ h4 (Qi3 _ _ _))
end
end
section
open Go.Maps
structure Tri where
 p:Nat
 s:Nat
 e:Nat
def Tri.list (T:Tri):List Nat:=[T.p,T.s,T.e]
structure Qdm (w:World) (T:Tri) (n lim:Nat) (M E:Int→Option Int):Prop where
 head:w.heap[T.p]?=some (.cells #[.map (some T.s),.map (some T.e),.int .i64 (lim:Int)] 219 (0,0))
 byS:Qiz Tryz.prog 3 w T.s n M
 byE:Qiz Tryz.prog 3 w T.e n E
 ne1:T.p≠T.s
 ne2:T.p≠T.e
 ne3:T.s≠T.e
theorem Qdm.row {w:World} {T:Tri} {n lim:Nat} {M E:Int→Option Int} (h:Qdm w T n lim M E):Qa6 w T.p 219 [.map (some T.s),.map (some T.e),.int .i64 (lim:Int)]:=⟨_,h.head,[],rfl⟩
theorem Qdm.keep {w w':World} {T:Tri} {n lim:Nat} {M E:Int→Option Int} (h:Qdm w T n lim M E) (hk:∀k∈T.list,w'.heap[k]?=w.heap[k]?):Qdm w' T n lim M E:=by
 have h1:=hk T.p (by simp [Tri.list]);have h2:=hk T.s (by simp [Tri.list]);have h3:=hk T.e (by simp [Tri.list]);exact ⟨h1.trans h.head,h.byS.block h2,h.byE.block h3,h.ne1,h.ne2,h.ne3⟩
theorem Qdm.mem {w:World} {T:Tri} {n lim:Nat} {M E:Int→Option Int} (h:Qdm w T n lim M E):∀k∈T.list,k<w.heap.size:=by
 have h1:=h.row.lt;have h2:=h.byS.lt;have h3:=h.byE.lt;simp only [Tri.list,List.mem_cons,List.not_mem_nil,or_false,forall_eq_or_imp,forall_eq]
 exact ⟨h1,h2,h3⟩
theorem Qdm.below {w w':World} {T:Tri} {n lim:Nat} {M E:Int→Option Int} (h:Qdm w T n lim M E) (hb:Below w.heap.size w w'):Qdm w' T n lim M E:=h.keep (fun k hk=>hb.block k (h.mem k hk))
theorem Qdm.mono {w:World} {T:Tri} {n m lim:Nat} {M E:Int→Option Int} (h:Qdm w T n lim M E) (hn:n≤m):Qdm w T m lim M E:=⟨h.head,h.byS.mono hn,h.byE.mono hn,h.ne1,h.ne2,h.ne3⟩
def Qov (w:World) (T:Tri) (n:Nat) (l:List Bool):Prop:=∃M E,Qdm w T n l.length M E∧MOf l M∧EOf l E
theorem Qov.below {w w':World} {T:Tri} {n:Nat} {l:List Bool} (h:Qov w T n l) (hb:Below w.heap.size w w'):Qov w' T n l:=by
 obtain ⟨M,E,h1,h2⟩:=h;exact ⟨M,E,h1.below hb,h2⟩
theorem Qov.keep {w w':World} {T:Tri} {n:Nat} {l:List Bool} (h:Qov w T n l) (hk:∀k∈T.list,w'.heap[k]?=w.heap[k]?):Qov w' T n l:=by
 obtain ⟨M,E,h1,h2⟩:=h;exact ⟨M,E,h1.keep hk,h2⟩
theorem Qov.mem {w:World} {T:Tri} {n:Nat} {l:List Bool} (h:Qov w T n l):∀k∈T.list,k<w.heap.size:=by
 obtain ⟨M,E,h1,h2⟩:=h;exact h1.mem
theorem MOf.bounds {l:List Bool} {M:Int→Option Int} (h:MOf l M) {s c:Int} (hm:M s=some c):0≤s∧1≤c∧s+c≤l.length:=by
 obtain ⟨h1,h2,h3⟩:=(h s c).1 hm;have:=Jan h3;have:=h3.1;omega
def Jbb (l:List Bool) (b:Int):Bool:=decide (0≤b) && fb l b.toNat
theorem Jeu {l:List Bool} {M:Int→Option Int} (h:MOf l M) {s c b:Int} (hm:M s=some c) (h1:s≤b) (h2:b<s+c):Jbb l b=true:=by
 obtain ⟨h3,h4,h5⟩:=(h s c).1 hm;have:=h5.2.1 b.toNat (by omega) (by omega);unfold Jbb;rw [this];simp;omega
theorem Qzg {l:List Bool} {M:Int→Option Int} (h:MOf l M) {b:Int} (hn:∀s c,M s=some c→¬(s≤b∧b<s+c)):Jbb l b=false:=by
 unfold Jbb
 by_cases hb:0≤b
 ·cases hf:fb l b.toNat with
  | false=>simp
  | true =>
   obtain ⟨s,n,h1,h2,h3⟩:=Qq8 (f:=fb l) (L:=l.length) (fun x hx=>Qsc l x hx) hf;exact absurd ⟨by omega,by omega⟩ (hn s n ((h s n).2 ⟨by omega,by omega,by simpa using h1⟩))
 ·simp [hb]
theorem Qs0 {w w':World} {r B:Nat} (h:w.grownBy w' (some r)) (hr:B≤r) (hB:B≤w.heap.size):Below B w w' :=
 ⟨h.os,h.tape,h.output,h.size,fun k hk=>h.block k (by omega) (by simp;omega)⟩
theorem Qdd {w w':World} {r:Nat} {L:List Nat} (h:w.grownBy w' (some r)) (hr:r∈L):Qam L w w' :=
 ⟨h.os,h.tape,h.output,h.size,fun k hk hn=>h.block k hk (by simp;intro e;exact hn (by rw [e];exact hr))⟩
theorem Qlj {w w':World} (h:w.grownBy w' none):Below w.heap.size w w' :=
 ⟨h.os,h.tape,h.output,h.size,fun k hk=>h.block k hk (by simp)⟩
theorem Ja4 {w:World} {T:Tri} {n:Nat} {l:List Bool} (h:Qov w T n l) (hl:l.length≤1000000000000) (b:Int) :
  Calls Tryz.prog 177 #[.pointer (some ⟨T.p,0,none⟩),.int .i64 b] w fun e w'=>e=.returned (.bool (Jbb l b))∧Below w.heap.size w w':=by
 obtain ⟨M,E,hA,hMO,_⟩:=h;have e0:w.cell? ⟨T.p,0,none⟩=some (.map (some T.s)):=hA.row.cell rfl;have HS:=LH hA.byS;have HMO:=LH hMO;have HL:=LH hl;clear hA hMO hl;go_enter Tryz.func177,Tryz.ntmps177;go_wp2_with (at_range;refine Qj0 rfl _ 217 rfl 3 Tryz.underlying3 Tryz.underlying217 T.s n M rfl HS.out ?_;intro w0 cnt0 hr0 hg0 hs0)
 have HR0:=LH hr0;have HB0:=LH (Qlj hg0);clear hr0 hg0 hs0
 go_frame
 go_loopw [5] (fun _ wr=>∃(L:Int→Bool) (cnt:Nat),Qn8 Tryz.prog 3 wr T.s w.heap.size n M L cnt∧Below w.heap.size w wr∧∀s c,M s=some c→L s=false→¬(s≤b∧b<s+c)) (fun _ wr=>wr.rangeLeft T.s w.heap.size)
 case atStart=>exact ⟨_,_,HR0.out,HB0.out,fun s c h1 h2=>by rw [h1] at h2;cases h2⟩
 case round =>
  obtain ⟨L,cnt,hr,hb,hun⟩:=hrel;have HR:=LH hr;have HB:=LH hb;have HU:=LH hun;clear hr hb hun;go_wp2_with (at_next;refine Qlz rfl _ rfl 3 Tryz.underlying3 T.s w.heap.size n M _ _ rfl HR.out ?_ ?_)
  ·intro h0;have hres:Jbb l b=false:=Qzg HMO.out (fun s c hm=>HU.out s c hm (h0 s));clear h0;go_wp2_with fail
   go_ret
   rw [hres];exact ⟨rfl,HB.out⟩
  ·intro x c w1 cnt1 hwx hwc hL hMx hr1 hlt hg1 hs1 hen;obtain ⟨g1,g2,g3⟩:=HMO.out.bounds hMx;have g4:=HL.out;have HR1:=LH hr1;have HB1:Hid (Below w.heap.size w w1):=LH (HB.out.trans (Qs0 hg1 NR HB.out.size));have HMx:=LH hMx;have HLt:=LH hlt;clear hL hMx hr1 hlt hg1 hs1 hwx hwc
   by_cases hit:x≤b∧b<x+c
   ·obtain ⟨h1,h2⟩:=hit;have hres:Jbb l b=true:=Jeu HMO.out HMx.out h1 h2;have HRes:=LH hres;clear hres;go_wp2_with fail
    go_ret
    rw [HRes.out];exact ⟨rfl,HB1.out⟩
   ·have hit':b<x∨(x≤b∧x+c≤b):=by omega
    have HU1:Hid (∀s d,M s=some d→(L s && !decide (s=x))=false→¬(s≤b∧b<s+d)):=LH (by
     intro s d hm hls
     by_cases e:s=x
     ·subst e;rw [HMx.out] at hm
      cases hm
      exact hit
     ·simp [e] at hls
      exact HU.out s d hm hls)
    clear hit;rcases hit' with h1 | ⟨h1,h2⟩
    all_goals
     go_wp2_with fail
     go_roundw
     case rel=>exact ⟨_,_,HR1.out,HB1.out,HU1.out⟩
     case measure=>rw [HR1.out.left_eq,HR.out.left_eq];exact HLt.out
def Qrl (M:Int→Option Int) (y:Int):Int→Option Int:=fun z=>if z=y then none else M z
def Qua (M:Int→Option Int) (y c:Int):Int→Option Int:=fun z=>if z=y then some c else M z
theorem Qqy {x:Int} (h1:-9223372036854775808≤x) (h2:x<9223372036854775808):(Lit.int .i64 x).wf=true:=by
 simp [Lit.wf,IntKind.min,IntKind.max,IntKind.bits,IntKind.signed]
 omega
theorem Qqj {w:World} {T:Tri} {n lim:Nat} {M E:Int→Option Int} (h:Qdm w T n lim M E) {s c:Int} (hm:M s=some c) (h1:0≤s) (h2:0≤c) (h3:s+c≤1000000000000) :
  Calls Tryz.prog 178 #[.pointer (some ⟨T.p,0,none⟩),.int .i64 s] w fun e w'=>e=.returned (.tuple #[])∧Qdm w' T n lim (Qrl M s) (Qrl E (s+c))∧Qam [T.s,T.e] w w':=by
 have e0:w.cell? ⟨T.p,0,none⟩=some (.map (some T.s)):=h.row.cell rfl;have e1:w.cell? ⟨T.p,1,none⟩=some (.map (some T.e)):=h.row.cell rfl;have hnp:T.p∉[T.s,T.e]:=by have:=h.ne1;have:=h.ne2;simp;omega
 have r0:=fun x=>Qao (L:=[T.s,T.e]) e0 hnp x
 have r1:=fun x=>Qao (L:=[T.s,T.e]) e1 hnp x
 have HM:=LH hm;have HA:=LH h;have HNp:=LH hnp;have HN3:=LH h.ne3;have HW:=LH (Qqy (x:=s) (by omega) (by omega));have HW2:=LH (Qqy (x:=s+c) (by omega) (by omega));clear hm h e0 e1 hnp;go_enter Tryz.func178,Tryz.ntmps178;go_wp2_with fail;have HC0:∃x:Qjj [T.s,T.e] w,w.drew=x.val:=Qa0 (Qam.ofBelow (Qae (Qaj w)));refine Qai (C:=fun w'=>∃x:Qjj [T.s,T.e] w,w'=x.val) [.fl [0,1,2,3,4,5,6,7,8,9],.sq [10] true,.fl [11],.sq [12] false] (by kernel_rfl) (by kernel_rfl) (by intro c a d v w h;cases d <;> exact h) ?_;simp only [Qdj,Qa3,List.getElem?_cons_succ,List.getElem?_cons_zero]
 refine Qak HC0 ?_
 repeat (first|go_big_quiet_step (fail)|quiet_step (fail))
 refine wpQuiet_nil ?_;have HA0:=LH (HA.out.below (Qae (Qaj w)));have HT0:=LH (Qam.ofBelow (L:=[T.s,T.e]) (Qae (Qaj w)));generalize w.drew=w0 at *;refine Qah (fun K hK=>?_);go_wp2_with (refine Qlq rfl _ _ 217 rfl 3 Tryz.underlying3 Tryz.underlying217 (by kernel_rfl) T.s n M rfl HA0.out.byS s rfl HW.out ?_;rw [HM.out,Option.getD_some])
 go_wp2_with fail;refine hK _ _ (fun _=>HC0) ?_;clear hK K;refine Qak HC0 ?_
 repeat (first|go_big_quiet_step (fail)|quiet_step (fail))
 refine wpQuiet_nil ?_;refine Qal ?_;go_wp2_with (first | (refine Qja rfl _ _ 217 3 rfl Tryz.underlying3 Tryz.underlying217 T.e n E rfl HA0.out.byE (s+c) rfl HW2.out ?_;intro w2 hE2 hg2;have HE2:=LH hE2;have HG2:=LH hg2;have HT2:Hid (Qam [T.s,T.e] w w2):=LH (HT0.out.trans (Qdd hg2 (by simp)));have HS2:=LH (HA0.out.byS.kept hg2 (by simp;exact HN3.out));have e0:w2.cell? ⟨T.p,0,none⟩=some (.map (some T.s)):=cell_of_row _ _ 0 _ _ _ ((HT2.out.block T.p (HA.out.row.lt) HNp.out).trans HA.out.head);clear hE2 hg2 HC0 r0 r1) | (refine Qja rfl _ _ 217 3 rfl Tryz.underlying3 Tryz.underlying217 T.s n M rfl HS2.out s rfl HW.out ?_;intro w3 hS3 hg3;have HS3:=LH hS3;have HG3:=LH hg3;clear hS3 hg3))
 go_end0
 have ht:Qam [T.s] w2 w3:=Qdd HG3.out (by simp);refine ⟨rfl,⟨?_,HS3.out,HE2.out.kept HG3.out (by simp;exact fun e=>HN3.out e.symm),HA.out.ne1,HA.out.ne2,HA.out.ne3⟩,HT2.out.trans (Qdd HG3.out (by simp))⟩;exact (ht.block T.p (Nat.lt_of_lt_of_le HA.out.row.lt HT2.out.size) (by have:=HNp.out;simp at this ⊢;exact this.1)).trans ((HT2.out.block T.p (HA.out.row.lt) HNp.out).trans HA.out.head)
theorem Qqm {w:World} {T:Tri} {n lim:Nat} {M E:Int→Option Int} (h:Qdm w T n lim M E) (hn:n<1000000000000) {s c:Int} (h1:0≤s) (h2:0≤c) (h3:s+c≤1000000000000) :
  Calls Tryz.prog 179 #[.pointer (some ⟨T.p,0,none⟩),.int .i64 s,.int .i64 c] w fun e w'=>e=.returned (.tuple #[])∧Qdm w' T (n+1) lim (Qua M s c) (Qua E (s+c) s)∧Qam [T.s,T.e] w w':=by
 have e0:w.cell? ⟨T.p,0,none⟩=some (.map (some T.s)):=h.row.cell rfl;have e1:w.cell? ⟨T.p,1,none⟩=some (.map (some T.e)):=h.row.cell rfl;have hnp:T.p∉[T.s,T.e]:=by have:=h.ne1;have:=h.ne2;simp;omega
 have r0:=fun x=>Qao (L:=[T.s,T.e]) e0 hnp x
 have r1:=fun x=>Qao (L:=[T.s,T.e]) e1 hnp x
 have HA:=LH h;have HNp:=LH hnp;have HN3:=LH h.ne3;have HW:=LH (Qqy (x:=s) (by omega) (by omega));have HWc:=LH (Qqy (x:=c) (by omega) (by omega));have HW2:=LH (Qqy (x:=s+c) (by omega) (by omega));have HNm:Hid (n<maxLen):=LH (by unfold maxLen;omega);clear h e0 e1 hnp;go_enter Tryz.func179,Tryz.ntmps179;go_wp2_with fail;have HC0:∃x:Qjj [T.s,T.e] w,w.drew=x.val:=Qa0 (Qam.ofBelow (Qae (Qaj w)));refine Qai (C:=fun w'=>∃x:Qjj [T.s,T.e] w,w'=x.val) [.fl [0,1,2,3,4,5,6,7,8,9,10,11,12,13],.sq [14] true,.fl [15],.sq [16] true,.sq [17] true,.fl [18],.sq [19] false] (by kernel_rfl) (by kernel_rfl) (by intro c a d v w h;cases d <;> exact h) ?_;simp only [Qdj,Qa3,List.getElem?_cons_succ,List.getElem?_cons_zero]
 refine Qak HC0 ?_
 repeat (first|go_big_quiet_step (fail)|quiet_step (fail))
 refine wpQuiet_nil ?_;have HA0:=LH (HA.out.below (Qae (Qaj w)));have HT0:=LH (Qam.ofBelow (L:=[T.s,T.e]) (Qae (Qaj w)));generalize w.drew=w0 at *;refine Qah (fun K hK=>?_);go_wp2_with (refine Qkh rfl _ _ 217 rfl 3 Tryz.underlying3 Tryz.underlying217 (fun _=>by kernel_rfl) T.s n M rfl HA0.out.byS HNm.out s rfl HW.out ?_;intro w1 v1 st1 hp1 hg1;have HP1:=LH hp1;have HT1:Hid (Qam [T.s,T.e] w w1):=LH (HT0.out.trans (Qdd hg1 (by simp)));have HE1:=LH (HA0.out.byE.kept hg1 (by simp;exact fun e=>HN3.out e.symm));have hC1:=Qa0 HT1.out;clear hp1 hg1;unfold goInt)
 go_wp2_with fail;refine hK _ _ (fun _=>hC1) ?_;clear hK K;refine Qak hC1 ?_
 repeat (first|go_big_quiet_step (fail)|quiet_step (fail))
 refine wpQuiet_nil ?_;refine Qah (fun K hK=>?_);go_wp2_with (refine Qf3 rfl _ _ _ 217 rfl 3 T.s n M s st1 c rfl rfl rfl HP1.out HWc.out ?_;intro w2 hs2 hg2;have HS2:=LH hs2;have HT2:Hid (Qam [T.s,T.e] w w2):=LH (HT1.out.trans (Qdd hg2 (by simp)));have HE2:=LH (HE1.out.kept hg2 (by simp;exact fun e=>HN3.out e.symm));have hC2:=Qa0 HT2.out;clear hs2 hg2 hC1)
 go_wp2_with fail;refine hK _ _ (fun _=>hC2) ?_;clear hK K;refine Qah (fun K hK=>?_);go_wp2_with (refine Qkh rfl _ _ 217 rfl 3 Tryz.underlying3 Tryz.underlying217 (fun _=>by kernel_rfl) T.e n E rfl HE2.out HNm.out (s+c) rfl HW2.out ?_;intro w3 v3 st3 hp3 hg3;have HP3:=LH hp3;have HT3:Hid (Qam [T.s,T.e] w w3):=LH (HT2.out.trans (Qdd hg3 (by simp)));have HS3:=LH (HS2.out.kept hg3 (by simp;exact HN3.out));have hC3:=Qa0 HT3.out;clear hp3 hg3;unfold goInt)
 go_wp2_with fail;refine hK _ _ (fun _=>hC3) ?_;clear hK K;refine Qak hC3 ?_
 repeat (first|go_big_quiet_step (fail)|quiet_step (fail))
 refine wpQuiet_nil ?_;refine Qal ?_;go_wp2_with (refine Qf3 rfl _ _ _ 217 rfl 3 T.e n E (s+c) st3 s rfl rfl rfl HP3.out HW.out ?_;intro w4 he4 hg4;have HE4:=LH he4;have HT4:Hid (Qam [T.s,T.e] w w4):=LH (HT3.out.trans (Qdd hg4 (by simp)));have HS4:=LH (HS3.out.kept hg4 (by simp;exact HN3.out));clear he4 hg4)
 go_end0
 exact ⟨rfl,⟨(HT4.out.block T.p (HA.out.row.lt) HNp.out).trans HA.out.head,HS4.out,HE4.out,HA.out.ne1,HA.out.ne2,HA.out.ne3⟩,HT4.out⟩
theorem Qz9 (w:World) (m:Nat):Qov (((w.alloc (.map #[] 0)).alloc (.map #[] 0)).alloc (.cells #[.map (some w.heap.size),.map (some (w.heap.size+1)),.int .i64 (m:Int)] 219)) ⟨w.heap.size+1+1,w.heap.size,w.heap.size+1⟩ 0 (List.replicate m false)∧
  Below w.heap.size w (((w.alloc (.map #[] 0)).alloc (.map #[] 0)).alloc (.cells #[.map (some w.heap.size),.map (some (w.heap.size+1)),.int .i64 (m:Int)] 219)):=by
 have hfb:∀b,fb (List.replicate m false) b=false:=fun b=>by unfold fb;simp [GD,List.getElem?_replicate];split <;> rfl
 refine ⟨⟨fun _=>none,fun _=>none,⟨?_,((Qiz.made w Tryz.prog 3).alloc _).alloc _,?_,by simp;omega,by simp,by simp⟩,Jft hfb,Jf3 hfb⟩,((Below.refl _ _).alloc NR _).alloc (by simp) _ |>.alloc (by simp;omega) _⟩
 ·have:=heap_alloc_new ((w.alloc (.map #[] 0)).alloc (.map #[] 0)) (.cells #[.map (some w.heap.size),.map (some (w.heap.size+1)),.int .i64 (m:Int)] 219);rw [List.length_replicate];simpa using this
 ·have:=(Qiz.made (w.alloc (.map #[] 0)) Tryz.prog 3).alloc (.cells #[.map (some w.heap.size),.map (some (w.heap.size+1)),.int .i64 (m:Int)] 219);simpa using this
theorem Jdy (k:Int) (w:World) (hk:k≤1000000000000) :
  Calls Tryz.prog 156 #[.int .i64 k] w fun e w'=>∃T:Tri,e=.returned (.pointer (some ⟨T.p,0,none⟩))∧(∀b∈T.list,w.heap.size≤b)∧Qov w' T 0 (List.replicate k.toNat false)∧Below w.heap.size w w':=by
 have hmm:=@run_makeMap Tryz.prog
 by_cases h0:k<0
 ·have h1:=LH (Qz9 w 0);have h2:Hid (k.toNat=0):=LH (by omega);have hmx:max k 0=0:=by omega
  go_enter Tryz.func156,Tryz.ntmps156;go_wp2_with fail
  go_ret
  refine ⟨⟨w.heap.size+1+1,w.heap.size,w.heap.size+1⟩,rfl,by simp [Tri.list];omega,?_,h1.out.2⟩;rw [h2.out];exact h1.out.1
 ·obtain ⟨m,rfl⟩:=Int.eq_ofNat_of_zero_le (show 0≤k by omega);have h1:=LH (Qz9 w m);have hmx:max (m:Int) 0=(m:Int):=by omega
  go_enter Tryz.func156,Tryz.ntmps156;go_wp2_with fail
  go_ret
  refine ⟨⟨w.heap.size+1+1,w.heap.size,w.heap.size+1⟩,rfl,by simp [Tri.list];omega,?_,h1.out.2⟩;exact h1.out.1
structure Qzd (l:List Bool) (M:Int→Option Int) (L:Int→Bool) (done rest:List Sp):Prop where
 perm:(done ++ rest).Perm (Qhv l)
 left:∀s n:Nat,(s,n)∈rest↔L s=true∧M s=some (n:Int)
theorem Qzd.start {l:List Bool} {M:Int→Option Int} (h:MOf l M):Qzd l M (fun x=>(M x).isSome) [] (Qhv l):=by
 refine ⟨List.Perm.refl _,fun s n=>?_⟩;rw [(Qsy l).mem];constructor
 ·intro hr;have hm:=(h (s:Int) (n:Int)).2 ⟨by omega,by omega,by simpa using hr⟩;exact ⟨by rw [hm];rfl,hm⟩
 ·rintro ⟨_,h1⟩;simpa using ((h _ _).1 h1).2.2
theorem Qzd.step {l:List Bool} {M:Int→Option Int} {L:Int→Bool} {done rest:List Sp} (h:Qzd l M L done rest) (hM:MOf l M) {x c:Int} (hx:L x=true) (hm:M x=some c) :
  ∃s k:Nat,x=s∧c=k∧(s,k)∈rest∧Qzd l M (fun z=>L z && !decide (z=x)) (done ++ [(s,k)]) (rest.erase (s,k)):=by
 obtain ⟨h1,h2,h3⟩:=(hM _ _).1 hm;obtain ⟨s,rfl⟩:=Int.eq_ofNat_of_zero_le h1;obtain ⟨k,rfl⟩:=Int.eq_ofNat_of_zero_le h2;have hin:(s,k)∈rest:=(h.left s k).2 ⟨hx,hm⟩;have hnd:rest.Nodup:=by
  have:=(h.perm.nodup_iff).2 (Qt3 (Qsy l).rising);exact (List.nodup_append.1 this).2.1
 refine ⟨s,k,rfl,rfl,hin,?_,fun a n=>?_⟩
 ·refine List.Perm.trans ?_ h.perm;rw [List.append_assoc];exact List.Perm.append_left _ (List.perm_cons_erase hin).symm
 ·rw [hnd.mem_erase_iff,h.left];constructor
  ·rintro ⟨h4,h5,h6⟩;refine ⟨?_,h6⟩;rw [h5]
   by_cases e:(a:Int)=(s:Int)
   ·exfalso
    rw [e,hm] at h6;have:a=s:=by omega
    have:k=n:=by injection h6 with h7;omega
    exact h4 (by subst this;simp;omega)
   ·simp [e]
  ·rintro ⟨h4,h5⟩;simp at h4
   exact ⟨fun e=>h4.2 (by cases e;rfl),h4.1,h5⟩
theorem Qzd.finish {l:List Bool} {M:Int→Option Int} {L:Int→Bool} {done rest:List Sp} (h:Qzd l M L done rest) (h0:∀x,L x=false):done.Perm (Qhv l):=by
 have:rest=[]:=List.eq_nil_iff_forall_not_mem.2 fun x hx=>by
  have:=((h.left x.1 x.2).1 hx).1;rw [h0] at this;cases this
 have h1:=h.perm;rw [this,List.append_nil] at h1;exact h1
theorem Qqs (a b:List Sp):Qfe (a ++ b)=Qfe a+Qfe b:=by simp [Qfe]
theorem Qpm (f:Nat→Bool):∀L,Qfe (Qia f L)≤L
 | 0=>by simp [Qia,Qfe]
 | b+1=>by
  have ih:=Qpm f b;unfold Qia
  split
  ·split
   ·split
    ·simp [Qfe]
    ·rename_i x hx
     obtain ⟨ys,hy⟩:=List.getLast?_eq_some_iff.1 hx;rw [hy,Qqs] at ih;rw [hy,List.dropLast_concat,Qqs];simp [Qfe] at ih ⊢
     omega
   ·rw [Qqs];simp [Qfe];simp [Qfe] at ih;omega
  ·omega
theorem Qys (l:List Bool):Qfe (Qhv l)≤l.length:=Qpm _ _
theorem Qzd.sum_le {l:List Bool} {M:Int→Option Int} {L:Int→Bool} {done rest:List Sp} (h:Qzd l M L done rest):Qfe done≤l.length:=by
 have:=Qwi h.perm;rw [Qqs] at this;have:=Qys l;omega
theorem Jax {w:World} {T:Tri} {n:Nat} {l:List Bool} (h:Qov w T n l) (hl:l.length≤1000000000000) :
  Calls Tryz.prog 73 #[.pointer (some ⟨T.p,0,none⟩)] w fun e w'=>e=.returned (.int .i64 (Qfe (Qhv l):Nat))∧Below w.heap.size w w':=by
 obtain ⟨M,E,hA,hMO,_⟩:=h;have e0:w.cell? ⟨T.p,0,none⟩=some (.map (some T.s)):=hA.row.cell rfl;have HS:=LH hA.byS;have HMO:=LH hMO;clear hA hMO;go_enter Tryz.func73,Tryz.ntmps73;go_wp2_with (at_range;refine Qj0 rfl _ 217 rfl 3 Tryz.underlying3 Tryz.underlying217 T.s n M rfl HS.out ?_;intro w0 cnt0 hr0 hg0 hs0)
 have HR0:=LH hr0;have HB0:=LH (Qlj hg0);clear hr0 hg0 hs0
 go_frame
 go_loopw [3] (fun v wr=>∃(L:Int→Bool) (cnt:Nat) (done rest:List Sp) (t:Nat),v=.int .i64 (t:Int)∧t=Qfe done∧Qn8 Tryz.prog 3 wr T.s w.heap.size n M L cnt∧Below w.heap.size w wr∧Qzd l M L done rest) (fun _ wr=>wr.rangeLeft T.s w.heap.size)
 case atStart=>exact ⟨_,_,[],Qhv l,0,rfl,rfl,HR0.out,HB0.out,Qzd.start HMO.out⟩
 case round =>
  obtain ⟨L,cnt,done,rest,t,rfl,ht,hr,hb,hp⟩:=hrel;have HR:=LH hr;have HB:=LH hb;have HT:=LH ht;have HP:=LH hp;clear hr hb hp ht;go_wp2_with (at_next;refine Qlz rfl _ rfl 3 Tryz.underlying3 T.s w.heap.size n M _ _ rfl HR.out ?_ ?_)
  ·intro h0;have HE:=LH (Qwi (HP.out.finish h0));clear h0;go_wp2_with fail
   go_ret
   rw [← HE.out,← HT.out];exact ⟨rfl,HB.out⟩
  ·intro x c w1 cnt1 hwx hwc hL hMx hr1 hlt hg1 hs1 hen;obtain ⟨s,k,rfl,rfl,_,hp1⟩:=HP.out.step HMO.out hL hMx;have h9:=hp1.sum_le;rw [Jci,← HT.out] at h9;dsimp only at h9;have hP1:=LH hp1;have HR1:=LH hr1;have HB1:Hid (Below w.heap.size w w1):=LH (HB.out.trans (Qs0 hg1 NR HB.out.size));have HLt:=LH hlt;clear hL hMx hr1 hlt hg1 hs1 hwx hwc hp1;go_wp2_with fail
   go_roundw
   case rel=>exact ⟨_,_,_,_,t+k,Qb2 (by omega),by rw [Jci,HT.out],HR1.out,HB1.out,hP1.out⟩
   case measure=>rw [HR1.out.left_eq,HR.out.left_eq];exact HLt.out
end
end Go.Proofs.YtpohaahihdhleaaGreat
