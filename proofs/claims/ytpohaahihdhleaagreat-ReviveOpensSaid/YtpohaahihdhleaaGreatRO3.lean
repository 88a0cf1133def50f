/- Parts of the proof of one statement of the seat. -/
import Derived.Test.YtpohaahihdhleaaGreatRO2
import Derived.Laws.BitsAllLaws
import Derived.Deep.Cut
import Derived.Laws.OwnMore
import Derived.DeepKeys4
import Derived.Maps.RangeWalk
set_option linter.unusedVariables false
set_option maxHeartbeats 16000000
set_option maxRecDepth 100000
open Go.RowKit
namespace Go.Proofs.YtpohaahihdhleaaGreat
section
abbrev Qo5 (n:Nat):Value:=.int .u32 (n:Int)
def Je8:Array Value:=(Ql8.map Qo5).toArray
theorem Jbk (k:Nat) (h:k<16):Je8[k]?=some (Qo5 (Ql8.getD k 0)):=by
 have hj:k<Ql8.length:=h;simp only [Je8,List.getElem?_toArray,List.getElem?_map,GE hj,Option.map_some,GD,Option.getD_some]
theorem Qr1 (x:Nat) (hx:x<256) (w:World):Calls Tryz.prog 214 #[vu8 x] w fun e w'=>e=.returned (Qo5 (Jgw x))∧w=w':=by
 have HV:=LH (Jbk (x % 16) (Nat.mod_lt _ (by decide)));go_enter Tryz.func214,Tryz.ntmps214;go_wp2_with (refine Qb3 (x % 16) Tryz.underlying305 Tryz.underlying166 rfl (by kernel_rfl) (by omega) (by omega) HV.out rfl rfl rfl rfl ?_)
 go_ret
 exact ⟨Qau (by rw [Jgw,GD]),rfl⟩
theorem Jb9 (s:Nat) (h:s<2 ^ 32):bits BinOp.xor IntKind.u32 IntKind.u32.max (s:Int)=((4294967295-s:Nat):Int):=by
 have e:IntKind.u32.max=((4294967295:Nat):Int):=by decide
 rw [e,u32_xor_nat _ _ (by decide) h,Jif s h]
theorem Qwl (s b:Nat) (h:s<2 ^ 32) (hb:b<256):bits BinOp.xor IntKind.u8 ((s:Int) % 256) (b:Int)=((s % 256 ^^^ b:Nat):Int):=by
 rw [show (s:Int) % 256=((s % 256:Nat):Int) by omega,u8_xor_nat _ _ (Nat.mod_lt _ (by decide)) hb]
theorem Qwa (s b:Nat) (h:s<2 ^ 32):bits BinOp.xor IntKind.u32 ((Jgw (s % 256 ^^^ b):Nat):Int) ((s:Int)/16)=((nib s b:Nat):Int):=by
 rw [show (s:Int)/16=((s/16:Nat):Int) by omega,u32_xor_nat _ _ (show Jgw _<4294967296 from Qsg _) (by omega)];rfl
theorem Jc9 (s:Nat) (hs:s<2 ^ 32) (a:Option Addr) {n:Nat} (cap:Nat) (zs:List Nat) (hn:zs.length=n) (w:World) (hcs:Qaq w a (zs.map vu8)) (hz:∀z∈zs,z<256) (hl:zs.length≤1000000) :
  Calls Tryz.prog 199 #[Qo5 s,.slice a n cap] w fun e w'=>e=.returned (Qo5 (Qsu s zs))∧w=w':=by
 subst hn;have HZ:=LH hz;clear hz;go_enter Tryz.func199,Tryz.ntmps199;go_wp2_with fail;rw [Jb9 s hs];have hs0:4294967295-s<2 ^ 32:=by omega
 obtain ⟨q,hq⟩:∃q,q=4294967295-s:=⟨_,rfl⟩
 rw [← hq] at hs0 ⊢;have HQ:=LH hq;clear hq
 go_loop [0,11] (fun v i=>∃k:Nat,k≤zs.length∧i=.int .i64 k∧v=Qo5 (Qli q (zs.take k))) (fun _ i=>zs.length-(intOf i).toNat)
 case atStart=>exact ⟨0,Nat.zero_le _,rfl,rfl⟩
 case round =>
  obtain ⟨k,hk,rfl,rfl⟩:=hrel
  by_cases hlt:k<zs.length
  ·obtain ⟨b,off,rfl,hbs,hc⟩:=hcs.atMap 0 hlt;have hcell:w.cell? ⟨b,off+k,none⟩=some (.int .u8 (zs.getD k 0:Nat)):=hc k hlt;have hx:=HZ.out (zs.getD k 0) (by simp [hlt]);have hf:=Qmo (zs.take k) (fun z hz=>HZ.out z (List.mem_of_mem_take hz)) q hs0;have HS:=LH (Qp9 q zs k hlt);clear hc;generalize zs.getD k 0=x at *;generalize Qli q (zs.take k)=s1 at *;have HB:=LH (Jb7 s1 x hx);have hn1:=Jhs s1 x hf;go_wp2_with fail;rw [Qwl s1 x hf hx];refine (Qr1 _ (Nat.xor_lt_two_pow (n:=8) (Nat.mod_lt _ (by decide)) hx) _).mono ?_;rintro e w1 ⟨rfl,rfl⟩;go_wp2_with fail;rw [Qwa s1 x hf];generalize nib s1 x=s2 at *;have hx2:x/16<256:=by omega
   rw [show (x:Int)/16=((x/16:Nat):Int) by omega];generalize x/16=x2 at *;go_wp2_with fail;rw [Qwl s2 x2 hn1 hx2];refine (Qr1 _ (Nat.xor_lt_two_pow (n:=8) (Nat.mod_lt _ (by decide)) hx2) _).mono ?_;rintro e w1 ⟨rfl,rfl⟩;go_wp2_with fail;rw [Qwa s2 x2 hn1,HB.out,← HS.out];exact ⟨⟨k+1,by omega,Qb2 (by omega),rfl⟩,by simp [intOf];omega⟩
  ·obtain rfl:k=zs.length:=by omega
   rw [List.take_length];have hf:=Qmo zs HZ.out q hs0;have HM:Hid (Qsu s zs=4294967295-Qli q zs):=LH (by rw [HQ.out];rfl);generalize Qli q zs=s1 at *;go_wp2_with fail
   go_ret
   exact ⟨Qau (by rw [Jb9 s1 hf,HM.out]),rfl⟩
theorem Jf1 (a:Option Addr) {n:Nat} (cap:Nat) (zs:List Nat) (hn:zs.length=n) (w:World) (hcs:Qaq w a (zs.map vu8)) (hz:∀z∈zs,z<256) (hl:zs.length≤1000000) :
  Calls Tryz.prog 169 #[.slice a n cap] w fun e w'=>e=.returned (Qo5 (Qsu 0 zs))∧w=w':=by
 go_enter Tryz.func169,Tryz.ntmps169;go_wp2_with fail;refine (Jc9 0 (by decide) a cap zs hn w hcs hz hl).mono ?_;rintro e w2 ⟨rfl,rfl⟩;go_wp2_with fail
 go_ret
 exact ⟨rfl,rfl⟩
def Qbj (ws:List Nat):Nat:=Qsu 0 (Qew ws)
theorem Qdn (a:Option Addr) {n:Nat} (cap:Nat) (ws:List Nat) (hn:ws.length=n) (w:World) (h:Qaq w a (ws.map Qad)) (hz:∀z∈ws,z<18446744073709551616) (hl:ws.length≤1000) :
  Calls Tryz.prog 137 #[.slice a n cap] w fun e w'=>e=.returned (Qo5 (Qbj ws))∧Below w.heap.size w w':=by
 go_enter Tryz.func137,Tryz.ntmps137;go_wp2_with fail;refine (Ja1 a cap ws hn w h hz (by omega)).mono ?_;rintro e w1 ⟨v,rfl,ho,hb⟩;obtain ⟨a1,c1,rfl,_,_⟩:=Qbe ho;have hcs:=Qaq.owned ho;have hl1:(Qew ws).length≤1000000:=by rw [Qhe];omega
 have hz1:=Qtx ws;clear ho;go_wp2_with fail;refine (Jf1 a1 c1 (Qew ws) rfl w1 hcs hz1 hl1).mono ?_;rintro e w2 ⟨rfl,rfl⟩;go_wp2_with fail
 go_ret
 exact ⟨rfl,hb⟩
def Qgf (n place:Nat):Nat:=Qbj [n,place]*4294967296+n
theorem Qb6 (ws:List Nat):Qbj ws<4294967296:=Jeo _ _
def pl (p:Int):Nat:=(p % 18446744073709551616).toNat
theorem Jhg (p:Int):pl p<18446744073709551616:=by unfold pl;omega
theorem Jas (p:Int):IntKind.u64.wrap p=(pl p:Int):=by rw [IntKind.wrap_u64];unfold pl;omega
theorem Jep (n:Nat) (h:n<4294967296) (x:Nat) (hx:x<4294967296):bits BinOp.or IntKind.u64 ((x:Int)*4294967296) (n:Int)=((x*4294967296+n:Nat):Int):=by
 have e:((x:Int)*4294967296)=((x*4294967296:Nat):Int):=by omega
 rw [e,u64_or_nat _ _ (by omega) (by omega)];have:=Nat.two_pow_add_eq_or_of_lt (i:=32) (b:=n) h x
 congr 1
 rw [Nat.mul_comm x];exact this.symm
theorem Qq5 (n:Nat) (p:Int) (hn:n<4294967296) (w:World) :
  Calls Tryz.prog 152 #[Qo5 n,.int .i64 p] w fun e w'=>e=.returned (Qad (Qgf n (pl p)))∧Below w.heap.size w w':=by
 go_enter Tryz.func152,Tryz.ntmps152;go_wp2_with fail;rw [Jas p];have hp:=Jhg p;obtain ⟨q,hq⟩:∃q,q=pl p:=⟨_,rfl⟩
 rw [← hq] at hp ⊢;have HQ:=LH hq;clear hq;have HS:Hid (Qgf n q=Qbj [n,q]*4294967296+n):=LH rfl;have hb0:=Qaf w (Obj.cells #[Value.int IntKind.u64 (n:Int),Value.int IntKind.u64 (q:Int)] 40);have hc0:Qaq (w.alloc (Obj.cells #[Value.int IntKind.u64 (n:Int),Value.int IntKind.u64 (q:Int)] 40)) (some ⟨w.heap.size,0,none⟩) ([n,q].map Qad):=by
  refine .inr ⟨_,_,rfl,fun i v hi=>?_⟩;rw [Nat.zero_add];refine Qat _ _ _ _ _ ?_;simpa using hi
 generalize w.alloc (Obj.cells #[Value.int IntKind.u64 (n:Int),Value.int IntKind.u64 (q:Int)] 40)=w0 at *;refine (Qdn _ 2 [n,q] rfl w0 hc0 (by simp;omega) (by simp)).mono ?_;rintro e w1 ⟨rfl,hb1⟩;have hb:=hb0.trans (hb1.mono hb0.size);have hw:=Qb6 [n,q];generalize Qbj [n,q]=x at *;clear hb0 hb1 hc0;go_wp2_with fail
 go_ret
 exact ⟨Qau (by rw [Jep n hn x hw,← HQ.out,HS.out]),hb⟩
theorem Qmt (n q:Nat) (h:n<4294967296):Qgf n q<18446744073709551616:=by have:=Qb6 [n,q];unfold Qgf;omega
def Qeo (x q:Nat):Option Nat:=if Qgf (x % 4294967296) q=x then some (x % 4294967296) else none
def Qkb:Option Nat→Value
 | some n=>.tuple #[Qo5 n,.bool true]
 | none=>.tuple #[Qo5 0,.bool false]
theorem Qw2 (x:Nat) (p:Int) (hx:x<18446744073709551616) (w:World) :
  Calls Tryz.prog 138 #[Qad x,.int .i64 p] w fun e w'=>e=.returned (Qkb (Qeo x (pl p)))∧Below w.heap.size w w':=by
 go_enter Tryz.func138,Tryz.ntmps138;go_wp2_with fail;rw [show (x:Int) % 4294967296=((x % 4294967296:Nat):Int) by omega];have hn:x % 4294967296<4294967296:=Nat.mod_lt _ (by decide);have HO:Hid (Qeo x (pl p)=if Qgf (x % 4294967296) (pl p)=x then some (x % 4294967296) else none):=LH rfl;generalize x % 4294967296=n at *;refine (Qq5 n p hn w).mono ?_;rintro e w1 ⟨rfl,hb⟩;have hs:=Qmt n (pl p) hn;generalize Qgf n (pl p)=y at *
 by_cases he:y=x
 ·have HV:Hid (Qkb (Qeo x (pl p))=.tuple #[Qo5 n,.bool true]):=LH (by rw [HO.out,if_pos he];rfl);subst he;go_wp2_with fail
  go_ret2
  exact ⟨by rw [HV.out];rfl,hb⟩
 ·have HV:Hid (Qkb (Qeo x (pl p))=.tuple #[Qo5 0,.bool false]):=LH (by rw [HO.out,if_neg he];rfl);have he':¬((y:Int)=(x:Int)):=by omega
  clear he;go_wp2_with fail
  go_ret2
  exact ⟨by rw [HV.out];rfl,hb⟩
def itN:Nat→Nat→Nat
 | 0,x=>x
 | t+1,x=>Qrq (itN t x)
theorem Jap (s b:Nat):itN 8 (s ^^^ b)=Qx7 s b:=rfl
theorem Jhf (t x:Nat) (h:x<2 ^ 32):itN t x<2 ^ 32:=by
 induction t with
 | zero=>exact h
 | succ t ih=>exact Qnu _ ih
theorem Jf7 (s:Nat) (h:s<2 ^ 32):bits BinOp.xor IntKind.u32 ((s/2:Nat):Int) 3988292384=((s/2 ^^^ Qy8:Nat):Int) :=
 u32_xor_nat (s/2) 3988292384 (by omega) (by decide)
theorem Jbr (s:Nat) (hs:s<2 ^ 32) (a:Option Addr) {n:Nat} (cap:Nat) (zs:List Nat) (hn:zs.length=n) (w:World) (hcs:Qaq w a (zs.map vu8)) (hz:∀z∈zs,z<256) (hl:zs.length≤1000000) :
  Calls Tryz.prog 135 #[Qo5 s,.slice a n cap] w fun e w'=>e=.returned (Qo5 (Qsu s zs))∧w=w':=by
 subst hn;have HZ:=LH hz;clear hz;go_enter Tryz.func135,Tryz.ntmps135;go_wp2_with fail;have hs0:4294967295-s<2 ^ 32:=by omega
 rw [show (4294967295:Int)-(s:Int)=((4294967295-s:Nat):Int) by omega];obtain ⟨q,hq⟩:∃q,q=4294967295-s:=⟨_,rfl⟩
 rw [← hq] at hs0 ⊢;have HQ:=LH hq;clear hq
 go_loop [5,6] (fun v i=>∃k:Nat,k≤zs.length∧i=.int .i64 k∧v=Qo5 (Qli q (zs.take k))) (fun _ i=>zs.length-(intOf i).toNat)
 case atStart=>exact ⟨0,Nat.zero_le _,rfl,rfl⟩
 case round =>
  obtain ⟨k,hk,rfl,rfl⟩:=hrel
  by_cases hlt:k<zs.length
  ·obtain ⟨b,off,rfl,hbs,hc⟩:=hcs.atMap 0 hlt;have hcell:w.cell? ⟨b,off+k,none⟩=some (.int .u8 (zs.getD k 0:Nat)):=hc k hlt;have hx:=HZ.out (zs.getD k 0) (by simp [hlt]);have hf:=Qmo (zs.take k) (fun z hz=>HZ.out z (List.mem_of_mem_take hz)) q hs0;have HS:=LH (Qp9 q zs k hlt);clear hc;generalize zs.getD k 0=x at *;generalize Qli q (zs.take k)=s1 at *;have hy:s1 ^^^ x<2 ^ 32:=Nat.xor_lt_two_pow hf (by omega);have HE:=LH (Jap s1 x);go_wp2_with fail;rw [u32_xor_nat s1 x hf (by omega)];generalize s1 ^^^ x=y at *
   go_loop [5,7] (fun v i=>∃t:Nat,t≤8∧i=.int .i64 t∧v=Qo5 (itN t y)) (fun _ i=>8-(intOf i).toNat)
   case atStart=>exact ⟨0,Nat.zero_le _,rfl,rfl⟩
   case round =>
    obtain ⟨t,ht,rfl,rfl⟩:=hrel
    by_cases hlt8:t<8
    ·have hz:=Jhf t y hy;have HI:Hid (itN (t+1) y=Qrq (itN t y)):=LH rfl;generalize itN t y=z at *
     by_cases hm:z % 2=1
     ·have HB:Hid (Qrq z=(z/2) ^^^ Qy8):=LH (by unfold Qrq;rw [if_pos hm]);have HX:=LH (Jf7 z hz);have hm':(z:Int) % 2=1:=by omega
      clear hm;go_wp2_with fail;refine ⟨⟨t+1,by omega,Qb2 (by omega),?_⟩,by simp [intOf];omega⟩;rw [HI.out,HB.out];exact Qb2 HX.out
     ·have HB:Hid (Qrq z=z/2):=LH (by unfold Qrq;rw [if_neg hm]);have hm':(z:Int) % 2=0:=by omega
      clear hm;go_wp2_with fail;refine ⟨⟨t+1,by omega,Qb2 (by omega),?_⟩,by simp [intOf];omega⟩;rw [HI.out,HB.out];exact Qb2 (by omega)
    ·obtain rfl:t=8:=by omega
     go_wp2_with fail;refine ⟨⟨k+1,by omega,Qb2 (by omega),?_⟩,by simp [intOf];omega⟩;rw [HS.out,HE.out]
  ·obtain rfl:k=zs.length:=by omega
   rw [List.take_length];have hf:=Qmo zs HZ.out q hs0;have HM:Hid (Qsu s zs=4294967295-Qli q zs):=LH (by rw [HQ.out];rfl);generalize Qli q zs=s1 at *;go_wp2_with fail
   go_ret
   exact ⟨Qau (by rw [HM.out];omega),rfl⟩
theorem Qdz (a:Option Addr) {n:Nat} (cap:Nat) (ws:List Nat) (hn:ws.length=n) (w:World) (h:Qaq w a (ws.map Qad)) (hz:∀z∈ws,z<18446744073709551616) (hl:ws.length≤1000) :
  Calls Tryz.prog 82 #[.slice a n cap] w fun e w'=>e=.returned (Qo5 (Qbj ws))∧Below w.heap.size w w':=by
 go_enter Tryz.func82,Tryz.ntmps82;go_wp2_with fail;refine (Qxx a cap ws hn w h hz (by omega)).mono ?_;rintro e w1 ⟨v,rfl,ho,hb⟩;obtain ⟨a1,c1,rfl,_,_⟩:=Qbe ho;have hcs:=Qaq.owned ho;have hl1:(Qew ws).length≤1000000:=by rw [Qhe];omega
 have hz1:=Qtx ws;clear ho;go_wp2_with fail;refine (Jbr 0 (by decide) a1 c1 (Qew ws) rfl w1 hcs hz1 hl1).mono ?_;rintro e w2 ⟨rfl,rfl⟩;go_wp2_with fail
 go_ret
 exact ⟨rfl,hb⟩
theorem Qno (n:Nat) (p:Int) (hn:n<4294967296) (w:World) :
  Calls Tryz.prog 84 #[Qo5 n,.int .i64 p] w fun e w'=>e=.returned (Qad (Qgf n (pl p)))∧Below w.heap.size w w':=by
 go_enter Tryz.func84,Tryz.ntmps84;go_wp2_with fail;rw [Jas p];have hp:=Jhg p;obtain ⟨q,hq⟩:∃q,q=pl p:=⟨_,rfl⟩
 rw [← hq] at hp ⊢;have HQ:=LH hq;clear hq;have HS:Hid (Qgf n q=Qbj [n,q]*4294967296+n):=LH rfl;have hb0:=Qaf w (Obj.cells #[Value.int IntKind.u64 (n:Int),Value.int IntKind.u64 (q:Int)] 40);have hc0:Qaq (w.alloc (Obj.cells #[Value.int IntKind.u64 (n:Int),Value.int IntKind.u64 (q:Int)] 40)) (some ⟨w.heap.size,0,none⟩) ([n,q].map Qad):=by
  refine .inr ⟨_,_,rfl,fun i v hi=>?_⟩;rw [Nat.zero_add];refine Qat _ _ _ _ _ ?_;simpa using hi
 generalize w.alloc (Obj.cells #[Value.int IntKind.u64 (n:Int),Value.int IntKind.u64 (q:Int)] 40)=w0 at *;refine (Qdz _ 2 [n,q] rfl w0 hc0 (by simp;omega) (by simp)).mono ?_;rintro e w1 ⟨rfl,hb1⟩;have hb:=hb0.trans (hb1.mono hb0.size);have hw:=Qb6 [n,q];generalize Qbj [n,q]=x at *;clear hb0 hb1 hc0;go_wp2_with fail
 go_ret
 exact ⟨Qau (by rw [← HQ.out,HS.out];omega),hb⟩
theorem Qsl (x:Nat) (p:Int) (hx:x<18446744073709551616) (w:World) :
  Calls Tryz.prog 144 #[Qad x,.int .i64 p] w fun e w'=>e=.returned (Qkb (Qeo x (pl p)))∧Below w.heap.size w w':=by
 go_enter Tryz.func144,Tryz.ntmps144;go_wp2_with fail;rw [show (x:Int) % 4294967296=((x % 4294967296:Nat):Int) by omega];have hn:x % 4294967296<4294967296:=Nat.mod_lt _ (by decide);have HO:Hid (Qeo x (pl p)=if Qgf (x % 4294967296) (pl p)=x then some (x % 4294967296) else none):=LH rfl;generalize x % 4294967296=n at *;refine (Qno n p hn w).mono ?_;rintro e w1 ⟨rfl,hb⟩;have hs:=Qmt n (pl p) hn;generalize Qgf n (pl p)=y at *
 by_cases he:y=x
 ·have HV:Hid (Qkb (Qeo x (pl p))=.tuple #[Qo5 n,.bool true]):=LH (by rw [HO.out,if_pos he];rfl);subst he;go_wp2_with fail
  go_ret2
  exact ⟨by rw [HV.out];rfl,hb⟩
 ·have HV:Hid (Qkb (Qeo x (pl p))=.tuple #[Qo5 0,.bool false]):=LH (by rw [HO.out,if_neg he];rfl);have he':¬((y:Int)=(x:Int)):=by omega
  clear he;go_wp2_with fail
  go_ret2
  exact ⟨by rw [HV.out];rfl,hb⟩
def Qb5 (k c l:Int):Prop:=(k=0∧c=0∧l=0)∨(k=1∧(0≤c∧c<32)∧l=0)∨((k=2∨k=3)∧c=0∧1≤l∧l<256)
instance (k c l:Int):Decidable (Qb5 k c l):=by unfold Qb5;infer_instance
def Qcg (k c l:Int):Bool:=decide (Qb5 k c l)
abbrev vhd (k c l:Int):Value:=.agg #[.int .i64 k,.int .i64 c,.int .i64 l]
theorem Jao {k c l:Int} (h:Qb5 k c l):true=Qcg k c l:=(decide_eq_true h).symm
theorem Qz2 {k c l:Int} (h:¬Qb5 k c l):false=Qcg k c l:=(decide_eq_false h).symm
theorem Qxm (k c l : Int) (w : World) : Calls Tryz.prog 150 #[vhd k c l] w fun e w' => e = .returned (.bool (Qcg k c l)) ∧ Below w.heap.size w w' := by
  have HB := LH (Qaf w)
  by_cases h1 : k = 1
  · subst h1
    have HR : Hid (Qcg 1 c l = (decide (0 ≤ c ∧ c < 32) && decide (l = 0))) := LH (by unfold Qcg Qb5; simp);go_enter Tryz.func150, Tryz.ntmps150;go_wp2_with fail;refine (Qc2 _ _).mono ?_;rintro e w1 ⟨rfl, rfl⟩
    by_cases hc : 0 ≤ c ∧ c < 32
    · rw [decide_eq_true hc] at HR ⊢
      clear hc;go_wp2_with fail
      all_goals
        go_ret
        exact ⟨Qd0 (by rw [HR.out]; rw [Bool.eq_iff_iff]; simp [*]), HB.out _⟩
    · rw [decide_eq_false hc] at HR ⊢
      clear hc;go_wp2_with fail
      all_goals
        go_ret
        exact ⟨Qd0 (by rw [HR.out]; rw [Bool.eq_iff_iff]; simp [*]), HB.out _⟩
  go_enter Tryz.func150, Tryz.ntmps150;go_wp2_with fail
  all_goals
    go_ret
    refine ⟨Qd0 ?_, HB.out _⟩;clear HB;simp only [beq_iff_eq, beq_eq_false_iff_ne] at *
    first
      | exact Jao (by unfold Qb5; omega)
      | exact Qz2 (by unfold Qb5; omega)
      | (by_cases hl : l < 256
         · exact (decide_eq_true hl).trans (Jao (by unfold Qb5; omega))
         · exact (decide_eq_false hl).trans (Qz2 (by unfold Qb5; omega)))
def hdN (k c l:Int):Nat:=(k+4*c+256*l).toNat
def Qeq (b k c l:Int):Nat:=if Qcg k c l=true then Qgf (hdN k c l) (pl (256+b)) else 0
theorem Qq2 {k c l:Int} (h:Qcg k c l=true):(0≤k∧k<4)∧(0≤c∧c<64)∧(0≤l∧l<65536):=by
 have:=of_decide_eq_true h;unfold Qb5 at this;omega
theorem Qz3 {k c l:Int} (h:Qcg k c l=true):hdN k c l<4294967296:=by
 have:=Qq2 h;unfold hdN;omega
theorem Qfx (b k c l:Int):Qeq b k c l<18446744073709551616:=by
 unfold Qeq
 split
 ·rename_i h;exact Qmt _ _ (Qz3 h)
 ·decide
theorem Qjk (b k c l:Int) (hb0:0≤b) (hb1:b≤1000000) (w:World):Calls Tryz.prog 105 #[.int .i64 b,vhd k c l] w fun e w'=>e=.returned (Qad (Qeq b k c l))∧Below w.heap.size w w':=by
 have hb:=Qaf w (Obj.cells #[Value.int .i64 k,Value.int .i64 c,Value.int .i64 l] 107);have hg:=heap_alloc_new w (Obj.cells #[Value.int .i64 k,Value.int .i64 c,Value.int .i64 l] 107);go_enter Tryz.func105,Tryz.ntmps105;go_wp2_with fail;generalize w.alloc (Obj.cells #[Value.int .i64 k,Value.int .i64 c,Value.int .i64 l] 107)=w0 at *;refine (Qxm k c l w0).mono ?_;rintro e w1 ⟨rfl,hb1⟩;have hgl:w.heap.size<w0.heap.size:=(Array.getElem?_eq_some_iff.1 hg).1;have hbb:=hb.trans (hb1.mono hb.size);have hg1:w1.heap[w.heap.size]?=_:=(hb1.block _ hgl).trans hg;have c0:w1.cell? ⟨w.heap.size,0,none⟩=some (.int .i64 k):=cell_of_row _ _ 0 _ _ _ hg1;have c1:w1.cell? ⟨w.heap.size,1,none⟩=some (.int .i64 c):=cell_of_row _ _ 1 _ _ _ hg1;have c2:w1.cell? ⟨w.heap.size,2,none⟩=some (.int .i64 l):=cell_of_row _ _ 2 _ _ _ hg1;clear hb hb1 hg hgl hg1
 cases hr:Qcg k c l
 ·have HE:Hid (Qeq b k c l=0):=LH (by unfold Qeq;rw [hr];rfl);clear hr;go_wp2_with fail
  go_ret
  exact ⟨Qau (by rw [HE.out];rfl),hbb⟩
 ·have HE:Hid (Qeq b k c l=Qgf (hdN k c l) (pl (256+b))):=LH (by unfold Qeq;rw [hr];rfl);have hn:=Qz3 hr;obtain ⟨⟨k0,k1⟩,⟨c0',c1'⟩,l0,l1⟩:=Qq2 hr;have HN:Hid (hdN k c l=(k.toNat+c.toNat*4+l.toNat*256)):=LH (by unfold hdN;omega);clear hr;obtain ⟨k,rfl⟩:=Int.eq_ofNat_of_zero_le k0;obtain ⟨c,rfl⟩:=Int.eq_ofNat_of_zero_le c0';obtain ⟨l,rfl⟩:=Int.eq_ofNat_of_zero_le l0;simp only [Int.toNat_natCast] at HN
  have P0:Hid (Calls Tryz.prog 151 #[Qad 0,.int .i64 0,.int .i64 2,Qad k] w1 fun e w'=>e=.returned (Qad k)∧w1=w'):=LH (by have:=Qnf 0 0 2 k (by decide) (by omega) (by decide) (by decide) w1;simpa using this);have P1:Hid (Calls Tryz.prog 151 #[Qad k,.int .i64 2,.int .i64 6,Qad c] w1 fun e w'=>e=.returned (Qad (k+c*4))∧w1=w'):=LH (Qnf k 2 6 c (by omega) (by omega) (by decide) (by decide) w1);have P2:Hid (Calls Tryz.prog 151 #[Qad (k+c*4),.int .i64 8,.int .i64 16,Qad l] w1 fun e w'=>e=.returned (Qad (k+c*4+l*256))∧w1=w'):=LH (Qnf (k+c*4) 8 16 l (by omega) (by omega) (by decide) (by decide) w1);go_wp2_with fail;refine P0.out.mono ?_;rintro e w2 ⟨rfl,rfl⟩;go_wp2_with fail;refine P1.out.mono ?_;rintro e w2 ⟨rfl,rfl⟩;go_wp2_with fail;refine P2.out.mono ?_;rintro e w2 ⟨rfl,rfl⟩;rw [← HN.out];generalize hdN (k:Int) (c:Int) (l:Int)=n at *;clear P0 P1 P2;go_wp2_with fail;refine (Qq5 n _ hn _).mono ?_;rintro e w2 ⟨rfl,hb2⟩;rw [← HE.out];go_wp2_with fail
  go_ret
  exact ⟨rfl,hbb.trans (hb2.mono hbb.size)⟩
theorem Qac {P:Program} {fn:Func} {p u:Tmp} {ty:TypeId} (h:fn.results=#[.cell p ty,.tmp u]) (tmps:Array Value) (w:World) (g:Nat) (t:TypeId) (cs:Array Value) (fr:Nat × Nat) (d:TypeDesc)
  (hp:tmps.getD p undef=.pointer (some ⟨g,0,none⟩)) (hg:w.heap[g]?=some (.cells cs t fr))
  (hu:P.underlying ty=some d) (hd:(match d with | .struct _ | .array _ _=>true | _=>false)=true) (hi:(P.info? ty).map (·.size)=some cs.size) :
  (results fn tmps).run P w=.ok (.tuple #[.agg cs,tmps.getD u undef]) w:=by
 have hp':tmps[p]?.getD undef=.pointer (some ⟨g,0,none⟩):=by simpa using hp
 simp [results,h,hp',asAddr,run_loadVar_row w g t ty cs fr d hg hu hd hi]
theorem Jdl:Agg Tryz.prog 107 #[.int .i64 0,.int .i64 0,.int .i64 0]:=⟨⟨_,Tryz.underlying107,rfl⟩,by kernel_rfl⟩
theorem Qyw:Agg Tryz.prog 105 #[.int .i64 0,.int .i64 0,.int .i64 0]:=⟨⟨_,Tryz.underlying105,rfl⟩,by kernel_rfl⟩
structure Dec where
 k:Int
 c:Int
 l:Int
 code:Int
def Jgu (b:Int) (x n:Nat):Dec :=
 if Qeq b (n % 4:Nat) (n/4 % 64:Nat) (n/256 % 65536:Nat)=x then (if Qcg (n % 4:Nat) (n/4 % 64:Nat) (n/256 % 65536:Nat)=true then ⟨(n % 4:Nat),(n/4 % 64:Nat),(n/256 % 65536:Nat),0⟩ else ⟨0,0,0,26⟩) else ⟨0,0,0,26⟩
def Qge (b:Int) (x:Nat):Dec:=((Qeo x (pl (256+b))).map (Jgu b x)).getD ⟨0,0,0,25⟩
def Dec.val (d:Dec):Value:=.tuple #[vhd d.k d.c d.l,.int .i64 d.code]
theorem Qtt {b:Int} {x:Nat} (h:Qeo x (pl (256+b))=none):(Qge b x).val=.tuple #[vhd 0 0 0,.int .i64 25]:=by unfold Qge;rw [h];rfl
theorem Qkg {b:Int} {x n:Nat} (h:Qeo x (pl (256+b))=some n):Qge b x=Jgu b x n:=by unfold Qge;rw [h];rfl
theorem Qfk {x q n:Nat} (h:Qeo x q=some n):n<4294967296∧n=x % 4294967296:=by
 unfold Qeo at h
 split at h
 ·cases h;exact ⟨Nat.mod_lt _ (by decide),rfl⟩
 ·cases h
theorem Qgx:Qcg 0 0 0=true:=by decide
theorem Qn4 {b:Int} {x n:Nat} (h:Qeo x (pl (256+b))=some n) (he:Qeq b (n % 4:Nat) (n/4 % 64:Nat) (n/256 % 65536:Nat)=x):Qcg (n % 4:Nat) (n/4 % 64:Nat) (n/256 % 65536:Nat)=true:=by
 obtain ⟨h1,h2⟩:=Qfk h
 cases hr:Qcg (n % 4:Nat) (n/4 % 64:Nat) (n/256 % 65536:Nat)
 ·unfold Qeq at he;rw [hr] at he;simp at he
  subst he;subst h2;exact absurd Qgx (by simpa using hr)
 ·rfl
theorem Jau {b:Int} {x n:Nat} (h:Qeo x (pl (256+b))=some n) (he:Qeq b (n % 4:Nat) (n/4 % 64:Nat) (n/256 % 65536:Nat)=x) :
  (Qge b x).val=.tuple #[vhd (n % 4:Nat) (n/4 % 64:Nat) (n/256 % 65536:Nat),.int .i64 0]:=by
 have hr:=Qn4 h he;rw [Qkg h,Jgu,if_pos he,if_pos hr];rfl
theorem Qwp {b:Int} {x n:Nat} (h:Qeo x (pl (256+b))=some n) (he:Qeq b (n % 4:Nat) (n/4 % 64:Nat) (n/256 % 65536:Nat)≠x) :
  (Qge b x).val=.tuple #[vhd 0 0 0,.int .i64 26]:=by
 rw [Qkg h,Jgu,if_neg he];rfl
theorem Qwr (n:Nat):n % 4<4∧n/4 % 64<64∧n/256 % 65536<65536:=by omega
theorem Qvn (b:Int) (x:Nat) (hb0:0≤b) (hb1':b≤1000000) (hx:x<18446744073709551616) (w:World) :
  Calls Tryz.prog 89 #[.int .i64 b,Qad x] w fun e w'=>e=.returned (Qge b x).val∧Below w.heap.size w w':=by
 have hbA:=Qaf w (Obj.cells #[Value.int .i64 0,Value.int .i64 0,Value.int .i64 0] 107);have hg:=heap_alloc_new w (Obj.cells #[Value.int .i64 0,Value.int .i64 0,Value.int .i64 0] 107);go_enter Tryz.func89,Tryz.ntmps89;go_wp2_with fail;generalize w.alloc (Obj.cells #[Value.int .i64 0,Value.int .i64 0,Value.int .i64 0] 107)=w0 at *;refine (Qw2 x _ hx w0).mono ?_;rintro e w1 ⟨rfl,hbo⟩;have hgl:w.heap.size<w0.heap.size:=(Array.getElem?_eq_some_iff.1 hg).1;have hbb:=hbA.trans (hbo.mono hbA.size);have hg1:w1.heap[w.heap.size]?=_:=(hbo.block _ hgl).trans hg;clear hbA hbo hg hgl
 cases ho:Qeo x (pl (256+b)) with
 | none =>
  have HV:=LH (Qtt ho);clear ho;simp only [Qkb]
  go_wp2_with (refine Qa1 (cs:=#[.int .i64 0,.int .i64 0,.int .i64 0]) Jdl hg1 rfl rfl (by simp [Value.oneCell']) rfl rfl rfl rfl ?_;intro w2 hg2 hgr2 hs2)
  refine bodyPost_ret (Qac (p:=4) (u:=5) rfl _ _ _ _ _ _ _ rfl hg2 Tryz.underlying107 rfl (by kernel_rfl)) rfl ⟨by rw [HV.out];rfl,?_⟩;exact hbb.grown hgr2 hbb.size (fun k e=>by cases e;omega)
 | some n =>
  obtain ⟨hn,-⟩:=Qfk ho;have HK:=LH (Jau ho);have HL:=LH (Qwp ho);clear ho;simp only [Qkb]
  have G0:Hid (∀w,Calls Tryz.prog 139 #[Qad n,.int .i64 0,.int .i64 2] w fun e w'=>e=.returned (Qad (n % 4))∧w=w'):=LH (fun w=>by have:=Qnp n 0 2 (by omega) (by decide) (by decide) (by decide) w;simpa [Qzr] using this);have G1:Hid (∀w,Calls Tryz.prog 139 #[Qad n,.int .i64 2,.int .i64 6] w fun e w'=>e=.returned (Qad (n/4 % 64))∧w=w'):=LH (fun w=>Qnp n 2 6 (by omega) (by decide) (by decide) (by decide) w);have G2:Hid (∀w,Calls Tryz.prog 139 #[Qad n,.int .i64 8,.int .i64 16] w fun e w'=>e=.returned (Qad (n/256 % 65536))∧w=w'):=LH (fun w=>Qnp n 8 16 (by omega) (by decide) (by decide) (by decide) w);obtain ⟨h4,h64,h6⟩:=Qwr n;generalize n % 4=k at *;generalize n/4 % 64=c at *;generalize n/256 % 65536=l at *;go_wp2_with fail;refine (G0.out _).mono ?_;rintro e w2 ⟨rfl,rfl⟩;go_wp2_with fail;refine (G1.out _).mono ?_;rintro e w2 ⟨rfl,rfl⟩;go_wp2_with fail;refine (G2.out _).mono ?_;rintro e w2 ⟨rfl,rfl⟩;clear G0 G1 G2;go_wp2_with fail;have hb1:=Qaf w1 (Obj.cells #[Value.int .i64 (k:Int),Value.int .i64 (c:Int),Value.int .i64 (l:Int)] 107);have hg2:=heap_alloc_new w1 (Obj.cells #[Value.int .i64 (k:Int),Value.int .i64 (c:Int),Value.int .i64 (l:Int)] 107);generalize w1.alloc (Obj.cells #[Value.int .i64 (k:Int),Value.int .i64 (c:Int),Value.int .i64 (l:Int)] 107)=w2 at *;refine (Qjk b k c l hb0 hb1' w2).mono ?_;rintro e w3 ⟨rfl,hb3⟩;have hgl:w.heap.size<w1.heap.size:=(Array.getElem?_eq_some_iff.1 hg1).1;have hgl2:w1.heap.size<w2.heap.size:=(Array.getElem?_eq_some_iff.1 hg2).1;have hb3':=hbb.trans ((hb1.trans (hb3.mono hb1.size)).mono hbb.size)
  have hg3:w3.heap[w.heap.size]?=_:=(hb3.block _ (by omega)).trans ((hb1.block _ hgl).trans hg1);have hg4:w3.heap[w1.heap.size]?=_:=(hb3.block _ hgl2).trans hg2;have he:=Qfx b k c l;clear hb1 hb3 hg1 hg2 hbb;generalize Qeq b k c l=y at *
  by_cases hyx:y=x
  ·have HV:=LH (HK.out hyx);subst hyx;have d0:w3.cell? ⟨w1.heap.size,0,none⟩=some (.int .i64 k):=cell_of_row _ _ 0 _ _ _ hg4;have d1:w3.cell? ⟨w1.heap.size,1,none⟩=some (.int .i64 c):=cell_of_row _ _ 1 _ _ _ hg4;have d2:w3.cell? ⟨w1.heap.size,2,none⟩=some (.int .i64 l):=cell_of_row _ _ 2 _ _ _ hg4;go_wp2_with (refine Qa1 (cs:=#[.int .i64 k,.int .i64 c,.int .i64 l]) Jdl hg3 rfl rfl (by simp [Value.oneCell']) rfl rfl rfl rfl ?_;intro w4 hg5 hgr4 hs4)
   refine bodyPost_ret (Qac (p:=4) (u:=5) rfl _ _ _ _ _ _ _ rfl hg5 Tryz.underlying107 rfl (by kernel_rfl)) rfl ⟨by rw [HV.out];rfl,?_⟩;exact hb3'.grown hgr4 hb3'.size (fun k e=>by cases e;omega)
  ·have HV:=LH (HL.out hyx);have hne:¬((y:Int)=(x:Int)):=by omega
   clear hyx;go_wp2_with (refine Qa1 (cs:=#[.int .i64 0,.int .i64 0,.int .i64 0]) Jdl hg3 rfl rfl (by simp [Value.oneCell']) rfl rfl rfl rfl ?_;intro w4 hg5 hgr4 hs4)
   refine bodyPost_ret (Qac (p:=4) (u:=5) rfl _ _ _ _ _ _ _ rfl hg5 Tryz.underlying107 rfl (by kernel_rfl)) rfl ⟨by rw [HV.out];rfl,?_⟩;exact hb3'.grown hgr4 hb3'.size (fun k e=>by cases e;omega)
structure Hd where
 k:Int
 c:Int
 l:Int
deriving DecidableEq
instance:Inhabited Hd:=⟨⟨0,0,0⟩⟩
def Hd.cs (h:Hd):List Value:=[.int .i64 h.k,.int .i64 h.c,.int .i64 h.l]
def Qbt (l:List Hd):List Value:=l.flatMap Hd.cs
theorem Qca (l:List Hd):(Qbt l).length=3*l.length:=by
 induction l with
 | nil=>rfl
 | cons h l ih=>simp only [Qbt,List.flatMap_cons,List.length_append,List.length_cons] at *;rw [ih];simp [Hd.cs];omega
theorem Qcv (l m:List Hd):Qbt (l ++ m)=Qbt l ++ Qbt m:=by simp [Qbt]
theorem Qqp (l:List Hd) (i:Nat) (hi:i<l.length):∀j v,(l.getD i default).cs[j]?=some v→(Qbt l)[i*3+j]?=some v:=by
 intro j v hj;have e:l=l.take i ++ (l[i] :: l.drop (i+1)):=by simp
 have hl:(Qbt (l.take i)).length=i*3:=by rw [Qca,List.length_take,Nat.min_eq_left (by omega)];omega
 have hg:l.getD i default=l[i]:=by simp [hi]
 rw [hg] at hj;have hj3:j<(l[i]).cs.length:=(List.getElem?_eq_some_iff.1 hj).1;rw [e,Qcv,List.getElem?_append_right (by omega),hl,show i*3+j-i*3=j by omega];simp only [Qbt,List.flatMap_cons]
 rw [List.getElem?_append_left hj3];exact hj
theorem Qv3 (l:List Hd):∀u∈Qbt l,u.oneCell'=true:=by
 intro u hu;simp only [Qbt,List.mem_flatMap,Hd.cs,List.mem_cons,List.not_mem_nil,or_false] at hu
 obtain ⟨h,_,rfl | rfl | rfl⟩:=hu <;> rfl
def hdF (f:Nat→Nat) (b:Nat):Hd:=if b=0 then ⟨0,0,0⟩ else ⟨(Qge b (f b)).k,(Qge b (f b)).c,(Qge b (f b)).l⟩
def hds (f:Nat→Nat) (k:Nat):List Hd:=(List.range k).map (hdF f)
theorem Qbs (f:Nat→Nat) (k:Nat):(hds f k).length=k:=by simp [hds]
theorem Qwn (f:Nat→Nat) (k:Nat):hds f (k+1)=hds f k ++ [hdF f k]:=by simp [hds,List.range_succ]
def Qe3 (f:Nat→Nat) (k:Nat):Prop:=∀b,1≤b→b<k→(Qge b (f b)).code=0
def Qhl (t : Nat) (f : Nat → Nat) (B : Nat) (w : World) : Ending → World → Prop := fun en w' => Below w.heap.size w w' ∧
  ((Qe3 f B ∧ ∃ g c, en = .returned (.tuple #[.slice (some ⟨g, 0, none⟩) B c, .int .i64 0, .int .i64 0]) ∧ w.heap.size ≤ g ∧ B ≤ c ∧ Qa6 w' g t (Qbt (hds f B))) ∨
   (∃ b : Nat, 1 ≤ b ∧ b < B ∧ Qe3 f b ∧ (Qge b (f b)).code ≠ 0 ∧ en = .returned (.tuple #[.slice none 0 0, .int .i64 b, .int .i64 21])))
theorem Qe3.succ {f:Nat→Nat} {k:Nat} (h:Qe3 f k) (hk:(Qge k (f k)).code=0):Qe3 f (k+1):=by
 intro b h1 h2
 by_cases e:b=k
 ·subst e;exact hk
 ·exact h b h1 (by omega)
theorem Jho:Qgg Tryz.prog 22 107 (.agg #[.int .i64 0,.int .i64 0,.int .i64 0]) 3 24:=Qgg.mk' Tryz.underlying22 (by kernel_rfl) rfl (by decide)
theorem Je2 (f:Nat→Nat) (B k:Nat) (hk:k<B) (h:Hd) (he:h=hdF f k):splice (Qbt (hds f k) ++ List.replicate (3*(B-k)) (.int .i64 0)) (k*3) h.cs=Qbt (hds f (k+1)) ++ List.replicate (3*(B-(k+1))) (.int .i64 0):=by
 subst he;have hl:(Qbt (hds f k)).length=k*3:=by rw [Qca,Qbs];omega
 rw [Qwn,Qcv];unfold splice;rw [List.take_left' hl,← hl,List.drop_length_add_append];have:List.drop (hdF f k).cs.length (List.replicate (3*(B-k)) (Value.int .i64 0))=List.replicate (3*(B-(k+1))) (.int .i64 0):=by
  simp [Hd.cs];omega
 rw [this];simp [Qbt]
theorem Qql {l:List Nat} (h:∀z∈l,z<18446744073709551616) (i:Int):Qdr l i<18446744073709551616:=by
 unfold Qdr
 split
 ·by_cases hi:i.toNat<l.length
  ·simp only [GD,GE hi,Option.getD_some]
   exact h _ (List.getElem_mem hi)
  ·simp only [GD,List.getElem?_eq_none (by omega:l.length≤i.toNat),Option.getD_none]
   decide
 ·decide
theorem Qcd {L:List Nat} {w w':World} (h:Qam L w w') {p:Addr} {v:Value} (hp:p.block∉L) (hc:w.cell? p=some v):w'.cell? p=some v:=by
 rw [World.cell?_of_block (w:=w) (h.block p.block (World.block_lt_of_cell? _ _ hc) hp)];exact hc
theorem Quq {B:Nat} {L:List Nat} {w w1 w2:World} (h:Below B w w1) (ht:Qam L w1 w2) (hL:∀k∈L,B≤k) (hB:B≤w.heap.size):Below B w w2 :=
 h.trans (ht.below (Nat.le_trans hB h.size) hL)
def Qaw (S:Dev) (b:Nat):Nat:=Qdr S.cache (256+(b:Int))
theorem Qwe {w:World} {F:Qb0} {S:Dev} (h:Qa7 w F S) (B:Nat) (hB1:1≤B) (hB:B≤1000) :
  Calls Tryz.prog 45 #[Qei F,Qgk B] w (Qhl 107 (Qaw S) B w):=by
 have HD:=LH h;have HP:Hid (Qhl 107 (Qaw S) B w=Qhl 107 (Qaw S) B w):=LH rfl;generalize hP:Qhl 107 (Qaw S) B w=Post at HP ⊢;have HPE:=LH hP;clear h hP HP;go_enter Tryz.func45,Tryz.ntmps45;have hbx:Below w.heap.size w (w.alloc (.cells #[.int .i64 (B:Int)] 44)):=Qaf _ _;have hcx:(w.alloc (.cells #[.int .i64 (B:Int)] 44)).cell? ⟨w.heap.size,0,none⟩=some (.int .i64 (B:Int)):=Qat _ _ _ 0 _ rfl;have hsx:(w.alloc (.cells #[.int .i64 (B:Int)] 44)).heap.size=w.heap.size+1:=by simp
 have HSX:=LH hsx;clear hsx;go_wp2_with (first
  | (at_make;refine Qec Jho (w.heap.size+1) B (z:=.int .i64 0) (by intro i hi;simp at hi;rcases i with _ | _ | _ | i <;> first | rfl | omega) (by omega) (by omega) (by omega) (by decide) (by simp) rfl rfl rfl rfl ?_;intro w1 hown hgrow))
 try rw [HSX.out] at hown
 try rw [HSX.out]
 have hb1:Below w.heap.size w w1:=hbx.trans (Qbq hgrow (by rw [HSX.out];omega));have hc1:w1.cell? ⟨w.heap.size,0,none⟩=some (.int .i64 (B:Int)):=by
  rw [(Qbq hgrow NR).cell (p:=⟨w.heap.size,0,none⟩) (by rw [HSX.out];simp)];exact hcx
 have hr1:Qa6 w1 (w.heap.size+1) 107 (List.replicate (B*3) (.int .i64 0)):=Qd6 hown;have HR1:=LH hr1;have HB1:=LH hb1;clear hbx hcx hown hgrow hr1 hb1 HSX;obtain ⟨gx,hgx⟩:∃gx,gx=w.heap.size:=⟨_,rfl⟩
 obtain ⟨g,hg⟩:∃g,g=w.heap.size+1:=⟨_,rfl⟩
 have HG:Hid (gx=w.heap.size∧g=w.heap.size+1):=LH ⟨hgx,hg⟩;rw [← hg] at HR1 ⊢;rw [← hgx] at hc1 ⊢;have hgne:gx≠g:=by omega
 clear hgx hg
 go_loopw [8] (fun i wr=>∃k:Nat,1≤k∧k≤B∧i=.int .i64 k∧Qe3 (Qaw S) k∧Qa6 wr g 107 (Qbt (hds (Qaw S) k) ++ List.replicate (3*(B-k)) (.int .i64 0))∧wr.cell? ⟨gx,0,none⟩=some (.int .i64 (B:Int))∧Below w.heap.size w wr) (fun i _=>B-(intOf i).toNat)
 case atStart=>exact ⟨1,Nat.le_refl _,hB1,rfl,(fun b h1 h2=>by omega),by
   have e:Qbt (hds (Qaw S) 1) ++ List.replicate (3*(B-1)) (Value.int .i64 0)=List.replicate (B*3) (Value.int .i64 0):=by
    have:Qbt (hds (Qaw S) 1)=List.replicate 3 (Value.int .i64 0):=rfl;rw [this,List.replicate_append_replicate]
    congr 1
    omega
   rw [e];exact HR1.out,hc1,HB1.out⟩
 case round =>
  clear hc1 HR1 HB1;obtain ⟨k,hk1,hk2,rfl,hok,hr,hcx,hb⟩:=hrel;have HOK:=LH hok;have HR:=LH hr;have HB:=LH hb;have HDr:=LH (HD.out.below hb);clear hok hr hb
  by_cases hlt:k<B
  ·have hlt':(k:Int)<(B:Int):=by omega
   go_wp2_with fail;refine (Qfr _ _ _ (by omega)).mono ?_;rintro e w2 ⟨rfl,hb2⟩;have HH:Hid (Qsq (B:Int) (k:Int)=256+(k:Int)):=LH (by unfold Qsq;rw [if_neg (by omega)]);rw [HH.out];have HD2:=LH (HDr.out.below hb2);have HB2:=LH hb2;clear hb2;go_wp2_with fail;refine (Qio HD2.out _).mono ?_;rintro e w3 ⟨rfl,rfl⟩;have hx:Qaw S k<18446744073709551616:=Qql HD2.out.u64C _;have HX:Hid (Qdr S.cache (256+(k:Int))=Qaw S k):=LH rfl;rw [HX.out];go_wp2_with fail;refine (Qvn (k:Int) (Qaw S k) (by omega) (by omega) hx _).mono ?_;rintro e w4 ⟨rfl,hb4⟩;have HF:Hid (⟨(Qge k (Qaw S k)).k,(Qge k (Qaw S k)).c,(Qge k (Qaw S k)).l⟩=hdF (Qaw S) k):=LH (by unfold hdF;rw [if_neg (by omega)]);have HC:Hid ((Qge k (Qaw S k)).code=0∨(Qge k (Qaw S k)).code≠0):=LH (by omega);have HOK2:Hid ((Qge k (Qaw S k)).code=0→Qe3 (Qaw S) (k+1)):=LH (fun h=>HOK.out.succ h);have HBad:Hid ((Qge k (Qaw S k)).code≠0→∀w',Below w.heap.size w w'→Post (.returned (.tuple #[.slice none 0 0,.int .i64 k,.int .i64 21])) w'):=LH (fun h w' hw'=>by
    rw [← HPE.out];exact ⟨hw',.inr ⟨k,hk1,hlt,HOK.out,h,rfl⟩⟩)
   unfold Dec.val;generalize Qge k (Qaw S k)=dd at *;obtain ⟨dk,dc,dl,dcode⟩:=dd;dsimp only at *;have hb24:Below wr.heap.size wr w4:=HB2.out.trans (hb4.mono HB2.out.size);have HB4:=LH hb24;clear hb4 hb24 HB2 HD2;rcases HC.out with hz | hz
   ·subst hz;have hok2:=HOK2.out rfl;have HOK3:=LH hok2;have hr4:Qa6 w4 g 107 _:=HR.out.keep (HB4.out.block g HR.out.lt);have hcx4:w4.cell? ⟨gx,0,none⟩=some (.int .i64 (B:Int)):=Qaz HB4.out hcx NR;have hgl:g<w4.heap.size:=hr4.lt;have hgxl:gx<w4.heap.size:=World.block_lt_of_cell? _ _ hcx4;have HR4:=LH hr4;have HCX4:=LH hcx4;clear hok2 hr4 hcx hcx4;have hb5:=Qaf w4 (Obj.cells #[Value.int .i64 dk,Value.int .i64 dc,Value.int .i64 dl] 107);have HR5:Hid (Qa6 (w4.alloc (Obj.cells #[Value.int .i64 dk,Value.int .i64 dc,Value.int .i64 dl] 107)) g 107 (Qbt (hds (Qaw S) k) ++ List.replicate (3*(B-k)) (.int .i64 0))):=LH (HR4.out.keep (hb5.block g hgl));have HCX5:Hid ((w4.alloc (Obj.cells #[Value.int .i64 dk,Value.int .i64 dc,Value.int .i64 dl] 107)).cell? ⟨gx,0,none⟩=some (.int .i64 (B:Int))):=LH (Qaz hb5 HCX4.out NR);have HB5:Hid (Below w.heap.size w (w4.alloc (Obj.cells #[Value.int .i64 dk,Value.int .i64 dc,Value.int .i64 dl] 107))):=LH (HB.out.trans ((HB4.out.trans (hb5.mono HB4.out.size)).mono HB.out.size));have hlen:Hid (k*3+3≤(Qbt (hds (Qaw S) k) ++ List.replicate (3*(B-k)) (Value.int .i64 0)).length):=LH (by rw [List.length_append,Qca,Qbs,List.length_replicate];omega);have hone:Hid (∀u∈(#[Value.int .i64 dk,Value.int .i64 dc,Value.int .i64 dl]:Array Value).toList,u.oneCell'=true):=LH (by intro u hu;simp at hu;rcases hu with rfl | rfl | rfl <;> rfl);clear hb5 HR4 HCX4 HB4;go_wp2_with (refine Qex (off:=k*3) (cs:=#[.int .i64 dk,.int .i64 dc,.int .i64 dl]) Jdl HR5.out rfl hlen.out hone.out rfl rfl rfl rfl ?_;intro w6 hr6 ht6;have HR6:=LH hr6;have HT6:=LH ht6;clear hr6 ht6)
    refine ⟨⟨k+1,by omega,by omega,Qb2 (by omega),HOK3.out,?_,?_,?_⟩,by simp [intOf];omega⟩
    ·have:=HR6.out;rw [show #[Value.int .i64 dk,Value.int .i64 dc,Value.int .i64 dl].toList=(⟨dk,dc,dl⟩:Hd).cs from rfl,Je2 _ _ _ hlt _ HF.out] at this;exact this
    ·exact Qcd HT6.out (by simp;exact hgne) HCX5.out
    ·exact Quq HB5.out HT6.out (by have:=HG.out;simp;omega) NR
   ·have hz1:(dcode != 0)=true:=by simpa using hz
    have HZ:=LH (HBad.out hz);have HBE:Hid (Below w.heap.size w w4):=LH (HB.out.trans (HB4.out.mono HB.out.size));clear hz HBad HC HOK2;go_wp2_with fail
    go_ret3
    exact HZ.out _ (HBE.out.alloc (HBE.out.size) _)
  ·obtain rfl:k=B:=by omega
   have hlt':decide ((k:Int)<(k:Int))=false:=by simp
   go_wp2_with fail
   go_ret3
   rw [← HPE.out];refine ⟨HB.out,.inl ⟨HOK.out,g,k,rfl,by have:=HG.out;omega,Nat.le_refl _,?_⟩⟩;have:=HR.out;simpa using this
section
variable {P:Program} {ops:Array Oper} {md:Region.Mode} {C:World→Prop} {Q:Exit→Act→World→Prop}
theorem Qmc {loose:Nat→Bool} {i f:Nat} {oi:Oper} {v:Value} (hi:ops[i]?=some oi) (hsel:∀(j:Nat) (o:Oper) cs b,ops[j]?=some o→o.op≠.select cs b)
  (hQ:∀c a d v w,Q (.panic c) (a.put d v) w→Q (.panic c) a w) :
  ∀(fuel:Nat) (listed:Array Bool) (a:Act) (w:World),
   (∀j oj,ops[j]?=some oj→j≠i→listed.getD j true=false→Qct md ops f j i=true∨loose j=true)→
   (∀j oj,ops[j]?=some oj→j≠i→listed.getD j true=false→(∀e∈oj.after,Region.binds md e=true→e.on≠i)→oi.apart ops oj=true)→
   i∈Region.ready md ops listed→Qoi md ops listed→Qju P ops C oi v a→C w→
   Qdh P md ops Q C loose fuel (listed.setIfInBounds i true) (a.put oi.dst v) w→Qdh P md ops Q C loose (fuel+1) listed a w:=by
 intro fuel
 induction fuel with
 | zero =>
  intro listed a w _ _ hr _ hy hC H;refine ⟨fun h=>(by rw [h] at hr;cases hr),fun j hj=>?_⟩
  by_cases hji:j=i
  ·subst hji;exact hy.wpOp hi hC ⟨fun _=>hC,H⟩
  ·have:=ready_mono hj hji;rw [H.1] at this
   cases this
 | succ fuel ih =>
  intro listed a w hl hfree hr hsh hy hC H;refine ⟨fun h=>(by rw [h] at hr;cases hr),fun j hj=>?_⟩
  by_cases hji:j=i
  ·subst hji;exact hy.wpOp hi hC ⟨fun _=>hC,H⟩
  ·have h1:=H.2 j (ready_mono hj hji);obtain ⟨hjun,oj,hoj,hall⟩:=mem_ready.1 hj;have hiun:listed.getD i false=false:=by
    have h0:=(mem_ready.1 hr).1;rcases Nat.lt_or_ge i listed.size with h' | h'
    ·simp [h'] at h0 ⊢;exact h0
    ·simp [Array.getElem?_eq_none h']
   have hnot:∀e∈oj.after,Region.binds md e=true→e.on≠i:=fun e he hb heq=>by
    have h1:=hall e he hb;rw [heq,hiun] at h1
    cases h1
   have hlo:loose j=true:=by
    rcases hl j oj hoj hji hjun with h | h
    ·have:=Qh9 hsh f j i oj hoj hall h;rw [hiun] at this
     cases this
    ·exact h
   have h2:=Qtz (C:=C) hoj (hfree j oj hoj hji hjun hnot) (fun cs b=>hsel i oi cs b hi) (fun cs b=>hsel j oj cs b hoj) hQ hy h1;have hun':∀k,(listed.setIfInBounds j true).getD k true=false→listed.getD k true=false:=fun k hun=>by
    by_cases hjk:j=k
    ·subst hjk;exact hjun
    ·rw [getD_set_ne true hjk] at hun;exact hun
   refine wpOp_mono (fun a' w' h3=>⟨h3.2.1,ih (listed.setIfInBounds j true) a' w' (fun k ok hk hki hun=>hl k ok hk hki (hun' k hun)) (fun k ok hk hki hun hno=>hfree k ok hk hki (hun' k hun) hno) (ready_mono hr (Ne.symm hji)) (hsh.set hj) h3.1 (h3.2.1 hlo) ?_⟩) h2;rw [Array.setIfInBounds_comm _ _ hji];exact h3.2.2
def Qgj (md:Region.Mode) (ops:Array Oper) (j:Nat):Bool :=
 (List.range ops.size).any fun i=>i != j && (match ops[i]? with | some o=>calm o.op | none=>false) && !Qct md ops ops.size j i && !Qct md ops ops.size i j
end
theorem Qan {w v v':World} (h:∃x:Qbi w,v=x.val) (hb:Below v.heap.size v v'):∃x:Qbi w,v'=x.val:=by
 obtain ⟨x,rfl⟩:=h;exact ⟨⟨v',x.below.trans (hb.mono x.below.size)⟩,rfl⟩
theorem Qae {w v:World} (h:∃x:Qbi w,v=x.val):Below w.heap.size w v:=by
 obtain ⟨x,rfl⟩:=h;exact x.below
theorem Qaj (w:World):∃x:Qbi w,w.drew=x.val:=⟨⟨w.drew,(Below.refl _ _).drew⟩,rfl⟩
theorem Qne {w v:World} (h:∃x:Qbi w,v=x.val) (q:Nat):∃x:Qbi w,v.drewN q=x.val:=by
 obtain ⟨x,rfl⟩:=h;exact ⟨⟨_,by have:=x.below;exact ⟨this.os,this.tape,this.output,by simpa using this.size,by simpa using this.block⟩⟩,rfl⟩
structure Qjj (L:List Nat) (w:World) where
 val:World
 size:w.heap.size≤val.heap.size
 block:∀k,k<w.heap.size→k∉L→val.heap[k]?=w.heap[k]?
instance (L:List Nat) (w:World):Nonempty (Qjj L w):=⟨⟨w,Nat.le_refl _,fun _ _ _=>rfl⟩⟩
theorem Qao {L:List Nat} {w:World} {p:Addr} {v:Value} (h:w.cell? p=some v) (hL:p.block∉L) (x:Qjj L w):x.val.cell? p=some v:=by
 have:=x.block p.block (World.block_lt_of_cell? _ _ h) hL;unfold World.cell? at *;rw [this];exact h
inductive Seg where
 | fl (ks:List Nat)
 | sq (ks:List Nat) (lo:Bool)
inductive Jia where
 | fl (os:List Oper)
 | sq (os:List Oper) (lo:Bool)
section
variable {P:Program} {ops:Array Oper} {md:Region.Mode} {C:World→Prop} {Q:Exit→Act→World→Prop}
def Qa3 (l:List Oper):List Nat→List Oper
 | []=>[]
 | k :: ks=>match l[k]? with
  | some o=>o :: Qa3 l ks
  | none=>Qa3 l ks
def Qdj (l:List Oper):List Seg→List Jia
 | []=>[]
 | .fl ks :: r=>.fl (Qa3 l ks) :: Qdj l r
 | .sq ks lo :: r=>.sq (Qa3 l ks) lo :: Qdj l r
def Qot (md:Region.Mode) (ops:Array Oper):List Nat→Array Bool→Bool × Array Bool
 | [],listed=>(true,listed)
 | k :: ks,listed=>match ops[k]? with
  | none=>(false,listed)
  | some o=>let r:=Qot md ops ks (listed.setIfInBounds k true)
   (calm o.op && (Region.ready md ops listed).contains k && Region.free md ops listed k && ((List.range ops.size).all fun j=>j == k || listed.getD j true || Qct md ops ops.size j k || Qgj md ops j) && r.1,r.2)
def Qoc (md:Region.Mode) (ops:Array Oper) (lo:Bool):List Nat→Array Bool→Bool × Array Bool
 | [],listed=>(true,listed)
 | k :: ks,listed=>match ops[k]? with
  | none=>(false,listed)
  | some _=>let r:=Qoc md ops lo ks (listed.setIfInBounds k true)
   (Region.ready md ops listed == [k] && (!Qgj md ops k || (lo && ks.isEmpty)) && r.1,r.2)
def Qjo (md:Region.Mode) (ops:Array Oper):List Seg→Array Bool→Bool
 | [],listed=>(Region.ready md ops listed).isEmpty
 | .fl ks :: r,listed=>let x:=Qot md ops ks listed;x.1 && Qjo md ops r x.2
 | .sq ks lo :: r,listed=>let x:=Qoc md ops lo ks listed;x.1 && Qjo md ops r x.2
def Qw0:List Seg→Nat
 | []=>0
 | .fl ks :: r=>Qw0 r+ks.length
 | .sq ks _ :: r=>Qw0 r+ks.length
def Jir (md:Region.Mode) (ops:Array Oper) (is:List Seg):Bool:=Region.noSelect ops && Qw0 is == ops.size && Qjo md ops is (Array.replicate ops.size false)
def Qjs (P:Program) (ops:Array Oper) (C:World→Prop) (Q:Exit→Act→World→Prop):List Jia→Act→World→Prop
 | [],a,w=>Q .normal a w
 | .fl os :: r,a,w=>C w∧wpQuiet P ops C (fun a'=>Qjs P ops C Q r a' w) os a
 | .sq os lo :: r,a,w=>wpList P ops (Exit.then (fun a' w'=>(lo=true→C w')∧Qjs P ops C Q r a' w') Q) os a w
theorem Jio (hs:Region.noSelect ops=true) (hQ:∀c a d v w,Q (.panic c) (a.put d v) w→Q (.panic c) a w) {m:Nat} {R:Act→Prop} {w:World} (hC:C w):∀(ks:List Nat) (listed:Array Bool) (a:Act),Qoi md ops listed→(Qot md ops ks listed).1=true→
  (∀a',Qoi md ops (Qot md ops ks listed).2→R a'→Qdh P md ops Q C (Qgj md ops) m (Qot md ops ks listed).2 a' w)→
  wpQuiet P ops C R (Qa3 ops.toList ks) a→Qdh P md ops Q C (Qgj md ops) (m+ks.length) listed a w:=by
 intro ks
 induction ks with
 | nil =>
  intro listed a hsh _ hR h;exact hR a hsh (by simpa [Qa3,wpQuiet] using h)
 | cons k ks ih =>
  intro listed a hsh hB hR h
  cases hk:ops[k]? with
  | none=>simp [Qot,hk] at hB
  | some o =>
   have e:Qa3 ops.toList (k :: ks)=o :: Qa3 ops.toList ks:=by simp [Qa3,hk]
   rw [e] at h;simp only [Qot,hk,Bool.and_eq_true] at hB hR
   obtain ⟨⟨⟨⟨hc,hr⟩,hf⟩,hlo⟩,hB'⟩:=hB;have hrk:k∈Region.ready md ops listed:=by simpa using hr
   obtain ⟨v,hy,hK⟩:∃v,Qju P ops C o v a∧wpQuiet P ops C R (Qa3 ops.toList ks) (a.put o.dst v):=by
    unfold wpQuiet at h
    by_cases hw:Region.wanted o (yielded ops a.tmps)=true
    ·rw [if_pos hw] at h;obtain ⟨v,h1,h2⟩:=h;refine ⟨v,.inl ⟨hw,fun x hx=>?_⟩,h2⟩;have h3:=h1 x hx;unfold Oper.quietAt at h3
     cases hq:(execOp a.eval o).run P x with
     | ok nx w2 =>
      obtain ⟨u,rfl⟩:=Qkz hc hq;rw [hq] at h3;simp only [Oper.quietUpon] at h3
      rw [h3.1,h3.2]
     | halt x' w2=>rw [hq] at h3;simp only [Oper.quietUpon] at h3
    ·rw [if_neg hw] at h;exact ⟨undef,.inr ⟨by simpa using hw,rfl⟩,h⟩
   refine Qmc (f:=ops.size) hk (Region.noSelect_spec hs) hQ (m+ks.length) listed a w ?_ (Region.free_spec hk hf) hrk hsh hy hC (ih _ _ (hsh.set hrk) hB' hR hK);intro j oj hj hjk hun;simp only [List.all_eq_true,List.mem_range,Bool.or_eq_true,beq_iff_eq] at hlo
   rcases hlo j (Array.getElem?_eq_some_iff.1 hj).1 with ((h | h) | h) | h
   ·exact absurd h hjk
   ·rw [hun] at h;cases h
   ·exact .inl h
   ·exact .inr h
theorem Jim {m:Nat} {lo:Bool} {R:Act→World→Prop} : ∀(ks:List Nat) (listed:Array Bool) (a:Act) (w:World),Qoi md ops listed→(Qoc md ops lo ks listed).1=true→
  (∀a' w',Qoi md ops (Qoc md ops lo ks listed).2→(lo=true→C w')→R a' w'→Qdh P md ops Q C (Qgj md ops) m (Qoc md ops lo ks listed).2 a' w')→
  wpList P ops (Exit.then (fun a' w'=>(lo=true→C w')∧R a' w') Q) (Qa3 ops.toList ks) a w→Qdh P md ops Q C (Qgj md ops) (m+ks.length) listed a w:=by
 intro ks
 induction ks with
 | nil =>
  intro listed a w hsh _ hR h;have h:(lo=true→C w)∧R a w:=by simpa [Qa3,wpList,Exit.then] using h
  exact hR a w hsh h.1 h.2
 | cons k ks ih =>
  intro listed a w hsh hB hR h
  cases hk:ops[k]? with
  | none=>simp [Qoc,hk] at hB
  | some o =>
   have e:Qa3 ops.toList (k :: ks)=o :: Qa3 ops.toList ks:=by simp [Qa3,hk]
   rw [e] at h;simp only [Qoc,hk,Bool.and_eq_true,beq_iff_eq] at hB hR
   obtain ⟨⟨hr,hlo⟩,hB'⟩:=hB;have hrk:k∈Region.ready md ops listed:=by rw [hr];simp
   refine ⟨fun h'=>(by rw [hr] at h';cases h'),fun i hi=>?_⟩;rw [hr] at hi;obtain rfl:i=k:=by simpa using hi
   unfold wpOp;simp only [hk]
   unfold wpList at h;have hmono:∀a' w',wpList P ops (Exit.then (fun a' w'=>(lo=true→C w')∧R a' w') Q) (Qa3 ops.toList ks) a' w'→
     (Qgj md ops i=true→C w')∧Qdh P md ops Q C (Qgj md ops) (m+ks.length) (listed.setIfInBounds i true) a' w':=by
    intro a' w' h';refine ⟨fun hl=>?_,ih _ _ _ (hsh.set hrk) hB' hR h'⟩;simp only [hl,Bool.not_true,Bool.false_or,Bool.and_eq_true,List.isEmpty_iff] at hlo
    obtain ⟨hlo1,rfl⟩:=hlo;have h':(lo=true→C w')∧R a' w':=by simpa [Qa3,wpList,Exit.then] using h'
    exact h'.1 hlo1
   by_cases hw:Region.wanted o (yielded ops a.tmps)=true
   ·rw [if_pos hw] at h ⊢;rcases h with h | h
    ·refine .inl ?_;have h:=Oper.wp_mono hmono h;unfold Oper.wp at *;generalize (execOp a.eval o).run P w=r at *
     cases r with
     | ok n w'=>cases n <;> simp only [Oper.upon] at h ⊢ <;> exact h
     | halt x w'=>cases x <;> simp only [Oper.upon] at h ⊢ <;> exact h
    ·exact .inr h
   ·rw [if_neg hw] at h ⊢;exact hmono _ _ h
theorem Jhq (hs:Region.noSelect ops=true) (hQ:∀c a d v w,Q (.panic c) (a.put d v) w→Q (.panic c) a w):∀(is:List Seg) (listed:Array Bool) (a:Act) (w:World),Qoi md ops listed→
  Qjo md ops is listed=true→Qjs P ops C Q (Qdj ops.toList is) a w→Qdh P md ops Q C (Qgj md ops) (Qw0 is) listed a w:=by
 intro is
 induction is with
 | nil =>
  intro listed a w _ hB h;exact ⟨by simpa [Qjo] using hB,by simpa [Qjs,Qdj] using h⟩
 | cons s is ih =>
  intro listed a w hsh hB h
  cases s with
  | fl ks =>
   simp only [Qjo,Bool.and_eq_true] at hB
   simp only [Qdj,Qjs] at h
   exact Jio hs hQ h.1 ks listed a hsh hB.1 (fun a' hsh' hR=>ih _ a' w hsh' hB.2 hR) h.2
  | sq ks lo =>
   simp only [Qjo,Bool.and_eq_true] at hB
   simp only [Qdj,Qjs] at h
   exact Jim ks listed a w hsh hB.1 (fun a' w' hsh' _ hR=>ih _ a' w' hsh' hB.2 hR) h
theorem Qai {id:Nat} {a:Act} {w:World} {l:List Oper} (is:List Seg) (hm:P.follows .mixedOrders=true) (hB:Jir .any l.toArray is=true)
  (hQ:∀c a d v w,Q (.panic c) (a.put d v) w→Q (.panic c) a w)
  (h:Qjs P l.toArray C Q (Qdj l is) a w.drew):(Code.region id l.toArray true).wp P Q a w:=by
 simp only [Jir,Bool.and_eq_true,beq_iff_eq] at hB
 refine wp_region_any hm (Qgq (C:=C) (loose:=Qgj .any l.toArray) _ _ _ _ ?_);have:=Jhq (md:=.any) (C:=C) hB.1.1 hQ is (Array.replicate l.toArray.size false) a w.drew (Qkc _) hB.2 h;rw [hB.1.2] at this;exact this
theorem Qak {os:List Oper} {r:List Jia} {a:Act} {w:World} (hC:C w) (h:wpQuiet P ops C (fun a'=>Qjs P ops C Q r a' w) os a):Qjs P ops C Q (.fl os :: r) a w:=⟨hC,h⟩
theorem Qah {os:List Oper} {lo:Bool} {r:List Jia} {a:Act} {w:World}
  (h:∀K:Act→World→Prop,(∀a' w',(lo=true→C w')→Qjs P ops C Q r a' w'→K a' w')→wpList P ops (Exit.then K Q) os a w):Qjs P ops C Q (.sq os lo :: r) a w :=
 h _ (fun _ _ h1 h2=>⟨h1,h2⟩)
theorem Qi0 (Q:Exit→Act→World→Prop):Exit.then (Q .normal) Q=Q:=by
 funext e a w
 cases e <;> rfl
theorem Qal {os:List Oper} {a:Act} {w:World} (h:wpList P ops Q os a w):Qjs P ops C Q [.sq os false] a w:=by
 unfold Qjs;have e:(fun a' w'=>(false=true→C w')∧Qjs P ops C Q [] a' w')=Q .normal:=by
  funext a' w'
  simp [Qjs]
 rw [e,Qi0];exact h
end
theorem Jdg:Qgg Tryz.prog 47 3 (.int .i64 0) 1 8:=Qgg.mk' Tryz.underlying47 (by kernel_rfl) rfl (by decide)
abbrev vi (n:Nat):Value:=.int .i64 (n:Int)
def Qd3 (ds:List Bool):Nat→List Nat
 | 0=>[]
 | k+1=>Qd3 ds k ++ (if ds.getD k false then [k] else [])
theorem Qlk (ds:List Bool) (k:Nat):(Qd3 ds k).length≤k:=by
 induction k with
 | zero=>simp [Qd3]
 | succ k ih=>unfold Qd3;split <;> simp <;> omega
theorem Jb5 {w:World} {F:Qb0} {S:Dev} (h:Qa7 w F S) :
  Calls Tryz.prog 56 #[Qei F] w fun e w'=>∃v,e=.returned v∧w'.ownsRow w.heap.size 3 1 v (Qd3 S.dirty S.dirty.length).length ((Qd3 S.dirty S.dirty.length).map vi)∧Below w.heap.size w w':=by
 have c1:w.cell? ⟨F.d,3,none⟩=some (.slice (some ⟨F.t,0,none⟩) S.dirty.length F.ct):=cell_of_row _ _ 3 _ _ _ h.head;have hsm:=h.small;have hl:=h.lenD;have hn:S.dirty.length≤1000000:=by omega
 have HR:=LH h.dirty;clear hsm hl h;obtain ⟨n,hnn⟩:∃n,n=S.dirty.length:=⟨_,rfl⟩
 rw [← hnn] at hn c1 ⊢;have HN:=LH hnn;clear hnn;go_enter Tryz.func56,Tryz.ntmps56;go_wp2_with fail
 go_loopw [3,11] (fun v i wr=>∃k:Nat,k≤n∧i=.int .i64 k∧wr.ownsRow w.heap.size 3 1 v (Qd3 S.dirty k).length ((Qd3 S.dirty k).map vi)∧Below w.heap.size w wr) (fun _ i _=>n-(intOf i).toNat)
 case atStart=>exact ⟨0,Nat.zero_le _,rfl,⟨rfl,.inl ⟨rfl,rfl⟩⟩,Below.refl _ _⟩
 case round =>
  obtain ⟨k,hk,rfl,ho,hb⟩:=hrel;obtain ⟨a1,c1',rfl,hc1,hm1⟩:=Qbe ho;have hdl:=Qlk S.dirty k;have HO:=LH ho;have HB:=LH hb;clear ho hb
  by_cases hlt:k<n
  ·have hlt':(k:Int)<(n:Int):=by omega
   have HS:Hid (Qd3 S.dirty (k+1)=Qd3 S.dirty k ++ (if S.dirty.getD k false then [k] else [])):=LH rfl;have d0:wr.cell? ⟨F.t,k,none⟩=some (.bool (S.dirty.getD k false)):=Qaz HB.out (HR.out.cell (by have:=HN.out;simp [← this,hlt])) NR
   cases hq:S.dirty.getD k false
   ·rw [hq] at d0 HS;clear hq;go_wp2_with fail;refine ⟨⟨k+1,by omega,Qb2 (by omega),?_,HB.out⟩,by simp [intOf];omega⟩;rw [HS.out];simpa using HO.out
   ·rw [hq] at d0 HS;have hone:Hid (∀u∈(#[Value.int .i64 (k:Int)]:Array Value).toList,u.oneCell'=true):=LH (by intro u hu;simp at hu;subst hu;rfl);have hbase:Hid (w.heap.size≤wr.heap.size):=LH HB.out.size;have hk9:Hid ((Qd3 S.dirty k).length<1000000000000):=LH (by omega);clear hq hdl hc1 hm1;generalize hz:(Qd3 S.dirty k).length=z at *;have HZ:=LH hz;clear hz;go_wp2_with (at_builtin;refine Qbp (us:=#[.int .i64 (k:Int)]) Jdg HO.out rfl hone.out hk9.out (by decide) hbase.out rfl rfl rfl (by simp [Act.eval]) ?_;intro g6 c6 w6 ho6 hg6 hc6 hm6 hb6 hl6;have HO6:=LH ho6;have HG6:=LH hg6;clear ho6 hg6)
    refine ⟨⟨k+1,by omega,Qb2 (by omega),?_,Qav HB.out HO.out HG6.out NR NR⟩,by simp [intOf];omega⟩;rw [HS.out];simpa [HZ.out] using HO6.out
  ·obtain rfl:k=n:=by omega
   have hlt':decide ((k:Int)<(k:Int))=false:=by simp
   go_wp2_with fail
   go_ret
   exact ⟨_,rfl,HO.out,HB.out⟩
structure Dev.wf (S:Dev):Prop where
 lenL:S.lasting.length=S.cache.length
 lenF:S.flushed.length=S.cache.length
 lenP:S.pending.length=S.dirty.length
 lenD:S.cache.length=8*S.dirty.length
 small:S.cache.length≤1000000
 u64L:∀z∈S.lasting,z<18446744073709551616
 u64C:∀z∈S.cache,z<18446744073709551616
 u64F:∀z∈S.flushed,z<18446744073709551616
theorem Qa7.wf {w:World} {F:Qb0} {S:Dev} (h:Qa7 w F S):S.wf:=⟨h.lenL,h.lenF,h.lenP,h.lenD,h.small,h.u64L,h.u64C,h.u64F⟩
structure Ent where
 g:Nat
 e:Nat
 vs:List Value
 ex:Bool
def Qmk (W:World) (x:Ent):Prop:=∃xs:Array Value,W.heap[x.g]?=some (.cells xs x.e (0,0))∧∃more,xs.toList=x.vs ++ more∧(x.ex=true→more=[])
theorem Qmk.row {W:World} {x:Ent} (h:Qmk W x):Qa6 W x.g x.e x.vs:=by
 obtain ⟨xs,h1,more,h2,_⟩:=h;exact ⟨xs,h1,more,h2⟩
theorem Qmk.of {W:World} {g e:Nat} {vs:List Value} (h:Qa6 W g e vs):Qmk W ⟨g,e,vs,false⟩:=by
 obtain ⟨xs,h1,more,h2⟩:=h;exact ⟨xs,h1,more,h2,fun h=>by cases h⟩
theorem Qmk.lt {W:World} {x:Ent} (h:Qmk W x):x.g<W.heap.size:=h.row.lt
theorem Qmk.keep {W W':World} {x:Ent} (h:Qmk W x) (hk:W'.heap[x.g]?=W.heap[x.g]?):Qmk W' x:=by
 obtain ⟨xs,h1,r⟩:=h;exact ⟨xs,hk.trans h1,r⟩
theorem Qmk.exact {W:World} {g e:Nat} {vs:List Value} (h:Qmk W ⟨g,e,vs,true⟩):W.heap[g]?=some (.cells vs.toArray e (0,0)):=by
 obtain ⟨xs,h1,more,h2,h3⟩:=h;have:=h3 rfl;subst this;simp at h2
 subst h2;simpa using h1
structure Mem (w W:World) (L:List Ent):Prop where
 below:Below w.heap.size w W
 rows:∀x∈L,Qmk W x
 base:∀x∈L,w.heap.size≤x.g
 nd:(L.map Ent.g).Nodup
theorem Mem.start (w:World):Mem w w []:=⟨Below.refl _ _,by simp,by simp,by simp⟩
theorem Mem.lt {w W:World} {L:List Ent} (h:Mem w W L):∀x∈L,x.g<W.heap.size:=fun x hx=>(h.rows x hx).lt
theorem Mem.later {w W W':World} {L:List Ent} (h:Mem w W L) (hb:Below W.heap.size W W'):Mem w W' L :=
 ⟨h.below.trans (hb.mono h.below.size),fun x hx=>(h.rows x hx).keep (hb.block _ (h.lt x hx)),h.base,h.nd⟩
theorem Mem.add {w W W':World} {L:List Ent} (h:Mem w W L) (hb:Below W.heap.size W W') {x:Ent} (hx:Qmk W' x) (hg:W.heap.size≤x.g):Mem w W' (L ++ [x]):=by
 have h':=h.later hb;refine ⟨h'.below,fun y hy=>?_,fun y hy=>?_,?_⟩
 ·rcases List.mem_append.1 hy with hy | hy
  ·exact h'.rows y hy
  ·obtain rfl:y=x:=by simpa using hy
   exact hx
 ·rcases List.mem_append.1 hy with hy | hy
  ·exact h.base y hy
  ·obtain rfl:y=x:=by simpa using hy
   exact Nat.le_trans h.below.size hg
 ·rw [List.map_append,List.nodup_append];refine ⟨h.nd,by simp,?_⟩;intro a ha b hb' e;simp at hb'
  subst hb';subst e;obtain ⟨y,hy,rfl'⟩:=List.mem_map.1 ha;have:=h.lt y hy;omega
theorem Mem.alloc {w W:World} {L:List Ent} (h:Mem w W L) (cs:Array Value) (t:Nat):Mem w (W.alloc (.cells cs t)) (L ++ [⟨W.heap.size,t,cs.toList,true⟩]) :=
 h.add (Qaf W _) ⟨cs,heap_alloc_new W _,[],by simp,fun _=>rfl⟩ NR
theorem Mem.one (w:World) (cs:Array Value) (t:Nat):Mem w (w.alloc (.cells cs t)) [⟨w.heap.size,t,cs.toList,true⟩]:=(Mem.start w).alloc cs t
theorem Mem.two (w:World) (cs:Array Value) (t:Nat) (cs':Array Value) (t':Nat):Mem w ((w.alloc (.cells cs t)).alloc (.cells cs' t')) [⟨w.heap.size,t,cs.toList,true⟩,⟨w.heap.size+1,t',cs'.toList,true⟩]:=by
 have h:=(Mem.one w cs t).alloc cs' t';simpa using h
theorem Mem.row {w W W':World} {L:List Ent} (h:Mem w W L) (hb:Below W.heap.size W W') {g e:Nat} {vs:List Value} (hx:Qa6 W' g e vs) (hg:W.heap.size≤g):Mem w W' (L ++ [⟨g,e,vs,false⟩]) :=
 h.add hb (Qmk.of hx) hg
theorem Mem.at {w W:World} {L:List Ent} (h:Mem w W L) (k:Nat) {g e:Nat} {vs:List Value} {ex:Bool} (hk:L[k]?=some ⟨g,e,vs,ex⟩):Qa6 W g e vs:=(h.rows _ (List.mem_of_getElem? hk)).row
theorem Mem.exact {w W:World} {L:List Ent} (h:Mem w W L) (k:Nat) {g e:Nat} {vs:List Value} (hk:L[k]?=some ⟨g,e,vs,true⟩):W.heap[g]?=some (.cells vs.toArray e (0,0)):=(h.rows _ (List.mem_of_getElem? hk)).exact
theorem Mem.cell {w W:World} {L:List Ent} (h:Mem w W L) (k i:Nat) {g e:Nat} {vs:List Value} {ex:Bool} {v:Value} (hk:L[k]?=some ⟨g,e,vs,ex⟩) (hi:vs[i]?=some v):W.cell? ⟨g,i,none⟩=some v:=(h.at k hk).cell hi
theorem Mem.frozen {w W:World} {L:List Ent} (h:Mem w W L) (k i:Nat) {g e:Nat} {vs:List Value} {ex:Bool} (hk:L[k]?=some ⟨g,e,vs,ex⟩):W.frozen? ⟨g,i,none⟩=false:=(h.at k hk).frozen i
theorem Mem.glt {w W:World} {L:List Ent} (h:Mem w W L) (k:Nat) {g e:Nat} {vs:List Value} {ex:Bool} (hk:L[k]?=some ⟨g,e,vs,ex⟩):g<W.heap.size:=(h.at k hk).lt
theorem Mem.gbase {w W:World} {L:List Ent} (h:Mem w W L) (k:Nat) {g e:Nat} {vs:List Value} {ex:Bool} (hk:L[k]?=some ⟨g,e,vs,ex⟩):w.heap.size≤g:=h.base _ (List.mem_of_getElem? hk)
theorem Qj7 {B:Nat} {L:List Nat} {w w1 w2:World} (h:Below B w w1) (ht:Qam L w1 w2) (hL:∀k∈L,B≤k) (hB:B≤w.heap.size):Below B w w2 :=
 h.trans (ht.below (Nat.le_trans hB h.size) hL)
theorem Mem.upd {w W W':World} {L:List Ent} (h:Mem w W L) (k:Nat) {x y:Ent} (hk:L[k]?=some x) (hg:y.g=x.g) (ht:Qam [x.g] W W') (hy:Qmk W' y):Mem w W' (L.set k y):=by
 have hx:=List.mem_of_getElem? hk;have hkl:k<L.length:=(List.getElem?_eq_some_iff.1 hk).1;have hmap:(L.set k y).map Ent.g=L.map Ent.g:=by
  rw [List.map_set]
  apply List.ext_getElem?
  intro i;rw [List.getElem?_set]
  split
  ·rename_i e
   subst e;simp [hkl,hg]
   have:=(List.getElem?_eq_some_iff.1 hk).2;rw [this]
  ·rfl
 refine ⟨Qj7 h.below ht (by simpa using h.base x hx) NR,fun z hz=>?_,fun z hz=>?_,by rw [hmap];exact h.nd⟩
 ·obtain ⟨j,hj,rfl⟩:=List.mem_iff_getElem.1 hz;rw [List.getElem_set] at hz ⊢
  split
  ·exact hy
  ·rename_i hne
   have hj':j<L.length:=by simpa using hj
   refine (h.rows _ (List.getElem_mem hj')).keep (ht.block _ (h.lt _ (List.getElem_mem hj')) ?_);simp
   intro e;have e1:(L.map Ent.g)[j]'(by simpa using hj')=(L.map Ent.g)[k]'(by simpa using hkl):=by
    simp [e,(List.getElem?_eq_some_iff.1 hk).2]
   exact hne (((List.getElem_inj h.nd).1 e1).symm)
 ·obtain ⟨j,hj,rfl⟩:=List.mem_iff_getElem.1 hz;rw [List.getElem_set]
  split
  ·rw [hg];exact h.base x hx
  ·exact h.base _ (List.getElem_mem _)
theorem Mem.set {w W:World} {L:List Ent} (h:Mem w W L) (k i:Nat) (v:Value) {g e:Nat} {vs:List Value} {ex:Bool} (hk:L[k]?=some ⟨g,e,vs,ex⟩) (hi:i<vs.length):Mem w (W.setCell ⟨g,i,none⟩ v) (L.set k ⟨g,e,vs.set i v,ex⟩):=by
 refine h.upd k hk rfl (Qam.setCell _ (by simp) _) ?_;obtain ⟨xs,h1,more,h2,h3⟩:=h.rows _ (List.mem_of_getElem? hk);dsimp only at h1 h2 h3;refine ⟨_,heap_setCell_same W g i xs e v h1,more,?_,h3⟩;dsimp only;rw [Array.toList_setIfInBounds,h2,List.set_append_left _ _ hi]
section
variable {P:Program} {w W:World} {ops:Array Oper} {rest:List Oper} {o:Oper} {a:Act} {Q:Exit→Act→World→Prop} {L:List Ent}
theorem Qag {ty:TypeId} {zs:Array Value} (A:Agg P ty zs) (h:Mem w W L) (k:Nat) {p:Operand} {g e:Nat} {vs:List Value} {ex:Bool}
  (hgd:o.guard=none) (ho:o.op=.load ty p) (hp:a.eval p=.pointer (some ⟨g,0,none⟩)) (hk:L[k]?=some ⟨g,e,vs,ex⟩) (hs:vs.length=zs.size)
  (hK:wpList P ops Q rest (a.put o.dst (.agg vs.toArray)) W):wpList P ops Q (o :: rest) a W :=
 Qcf A vs (fun i v hi=>by rw [Nat.zero_add];exact h.cell k i hk hi) hs hgd ho hp hK
theorem Qaa {ty:TypeId} {zs:Array Value} (A:Agg P ty zs) (h:Mem w W L) (k:Nat) {p x:Operand} {g e:Nat} {vs:List Value} {cs:Array Value}
  (hgd:o.guard=none) (ho:o.op=.store ty p x) (hp:a.eval p=.pointer (some ⟨g,0,none⟩)) (hx:a.eval x=.agg cs) (hk:L[k]?=some ⟨g,e,vs,true⟩) (hs:cs.size=zs.size) (hv:vs.length=cs.size) (h1:cs.toList.all (·.oneCell')=true)
  (hK:∀W',Mem w W' (L.set k ⟨g,e,cs.toList,true⟩)→Qam [g] W W'→wpList P ops Q rest (a.put o.dst undef) W'):wpList P ops Q (o :: rest) a W:=by
 refine Qa1 A (h.exact k hk) hs (by simpa using hv) (by rw [← Array.all_toList];exact h1) hgd ho hp hx ?_;intro W' hg hgr hsz;have ht:Qam [g] W W':=⟨hgr.os,hgr.tape,hgr.output,hgr.size,fun j hj hn=>hgr.block j hj (fun e=>hn (by simp at e;simp [e]))⟩
 exact hK W' (h.upd k hk rfl ht ⟨cs,hg,[],by simp,fun _=>rfl⟩) ht
theorem Qe8 {ty:TypeId} {zs:Array Value} (A:Agg P ty zs) (h:Mem w W L) (k:Nat) {p x:Operand} {g e off:Nat} {vs:List Value} {ex:Bool} {cs:Array Value}
  (hgd:o.guard=none) (ho:o.op=.store ty p x) (hp:a.eval p=.pointer (some ⟨g,off,none⟩)) (hx:a.eval x=.agg cs) (hk:L[k]?=some ⟨g,e,vs,ex⟩) (hs:cs.size=zs.size) (hfit:off+cs.size≤vs.length) (h1:cs.toList.all (·.oneCell')=true)
  (hK:∀W',Mem w W' (L.set k ⟨g,e,splice vs off cs.toList,false⟩)→Qam [g] W W'→wpList P ops Q rest (a.put o.dst undef) W'):wpList P ops Q (o :: rest) a W :=
 Qex A (h.at k hk) hs hfit (fun u hu=>List.all_eq_true.1 h1 u hu) hgd ho hp hx (fun W' hr ht=>hK W' (h.upd k hk rfl ht (Qmk.of hr)) ht)
theorem Qet {base t ty e:Nat} {i:TypeInfo} {size c:Nat} (ht:P.underlying t=some (.slice e)) (hi:P.info? e=some i)
  {v:Value} {n:Nat} {xs:List Value} (hown:W.ownsRow base e size v n xs):(Builtin.append_ #[t,t] ty #[v,.slice none 0 c]).run P W=.ok v W:=by
 rcases hown.2 with ⟨rfl,rfl⟩|⟨g,cap,cur,rfl,_,_,hnc,_⟩
 ·simp [Builtin.append_,run_underlying ht,sizeOf,typeInfo,hi,Builtin.lenOf,Builtin.firstCells]
 ·simp [Builtin.append_,run_underlying ht,sizeOf,typeInfo,hi,Builtin.lenOf,Builtin.firstCells,hnc,storeCells]
theorem Qbb {s x:Operand} {t e:TypeId} {z:Value} {size bytes base n m c:Nat} {v:Value} {xs ys:List Value} {ad:Option Addr} (E:Qgg P t e z size bytes)
  (hown:W.ownsRow base e size v n xs) (hc:Qaq W ad ys) (hl:ys.length=m*size) (h1:∀u∈ys,u.oneCell'=true)
  (hn:n+m<1000000000000) (hby:bytes≤64) (hbase:base≤W.heap.size)
  (hgd:o.guard=none) (ho:o.op=.call { callee:=.builtin .append,args:=#[s,x],argTypes:=#[t,t] })
  (hs:a.eval s=v) (hx:a.eval x=.slice ad m c)
  (hK:∀v' w',w'.ownsRow base e size v' (n+m) (xs ++ ys)→W.grownBy w' v.ownBlock→(v'=.slice none 0 0→v=.slice none 0 0∧m=0)→wpList P ops Q rest (a.put o.dst v') w') :
  wpList P ops Q (o :: rest) a W:=by
 cases ad with
 | none =>
  have hy:ys=[]:=by rcases hc with h | ⟨b,off,h,_⟩;exact h;cases h
  subst hy;have hm:m=0:=by
   have:=E.pos;rcases Nat.mul_eq_zero.1 hl.symm with h | h
   ·exact h
   ·omega
  subst hm;obtain ⟨i,i1,_⟩:=E.info;refine wpList_plain hgd fun K hK'=>?_
  have hrun:=Qet (P:=P) (W:=W) (ty:=o.type) (c:=c) E.under i1 hown;unfold Oper.wp;simp [execOp,ho,resolve,invoke,builtin,hs,hx,hrun,Result.andThen]
  exact hK' _ _ (hK v W (by simpa using hown) ⟨rfl,rfl,rfl,Nat.le_refl _,fun _ _ _=>rfl⟩ (fun h=>⟨h,rfl⟩))
 | some d =>
  refine Qem E hown hl ?_ h1 hn hby hbase hgd ho hs hx (fun v' w' a b c=>hK v' w' a b c.1);intro j u hj;rcases hc with h | ⟨b,off,h,hc⟩
  ·rw [h] at hj;simp at hj
  ·cases h
   rw [Qe0];exact hc j u hj
theorem Qih {w w':World} {e size n:Nat} {v:Value} {xs:List Value} (h:w'.ownsRow w.heap.size e size v n xs) (hv:v≠.slice none 0 0) :
  ∃g c,v=.slice (some ⟨g,0,none⟩) n c∧w.heap.size≤g∧n≤c∧c≤maxLen∧Qa6 w' g e xs:=by
 rcases h.2 with ⟨h0,_⟩|⟨g,cap,cur,rfl,hb,hg,h1,h2,h3,h4⟩
 ·exact absurd h0 hv
 ·exact ⟨g,cap,rfl,hb,h1,h2,cur,hg,cur.toList.drop (n*size),by rw [← h4,List.take_append_drop]⟩
end
def Je6 (e n:Nat) (vs:List Value) (w:World):Ending→World→Prop:=fun r w'=>∃g c,r=.returned (.slice (some ⟨g,0,none⟩) n c)∧w.heap.size≤g∧n≤c∧c≤maxLen∧Qa6 w' g e vs∧Below w.heap.size w w'
structure Qjn (B:Nat) (W:World) (L:List Ent):Prop where
 rows:∀x∈L,Qmk W x
 base:∀x∈L,B≤x.g
 nd:(L.map Ent.g).Nodup
 size:B≤W.heap.size
theorem Mem.r {w W:World} {L:List Ent} (h:Mem w W L):Qjn w.heap.size W L:=⟨h.rows,h.base,h.nd,h.below.size⟩
theorem Qjn.lt {B:Nat} {W:World} {L:List Ent} (h:Qjn B W L):∀x∈L,x.g<W.heap.size:=fun x hx=>(h.rows x hx).lt
theorem Qjn.later {B:Nat} {W W':World} {L:List Ent} (h:Qjn B W L) (hb:Below W.heap.size W W'):Qjn B W' L :=
 ⟨fun x hx=>(h.rows x hx).keep (hb.block _ (h.lt x hx)),h.base,h.nd,Nat.le_trans h.size hb.size⟩
theorem Qjn.touch {B:Nat} {W W':World} {L:List Ent} (h:Qjn B W L) {X:List Nat} (ht:Qam X W W') (hX:∀k∈X,k<B):Qjn B W' L :=
 ⟨fun x hx=>(h.rows x hx).keep (ht.block _ (h.lt x hx) (fun hm=>by have:=hX _ hm;have:=h.base x hx;omega)),h.base,h.nd,Nat.le_trans h.size ht.size⟩
theorem Qa0 {X:List Nat} {w W:World} (h:Qam X w W):∃x:Qjj X w,W=x.val:=⟨⟨W,h.size,h.block⟩,rfl⟩
theorem Qjn.at {B:Nat} {W:World} {L:List Ent} (h:Qjn B W L) (k:Nat) {g e:Nat} {vs:List Value} {ex:Bool} (hk:L[k]?=some ⟨g,e,vs,ex⟩):Qa6 W g e vs:=(h.rows _ (List.mem_of_getElem? hk)).row
theorem Qjn.exact {B:Nat} {W:World} {L:List Ent} (h:Qjn B W L) (k:Nat) {g e:Nat} {vs:List Value} (hk:L[k]?=some ⟨g,e,vs,true⟩):W.heap[g]?=some (.cells vs.toArray e (0,0)):=(h.rows _ (List.mem_of_getElem? hk)).exact
theorem Qjn.cell {B:Nat} {W:World} {L:List Ent} (h:Qjn B W L) (k i:Nat) {g e:Nat} {vs:List Value} {ex:Bool} {v:Value} (hk:L[k]?=some ⟨g,e,vs,ex⟩) (hi:vs[i]?=some v):W.cell? ⟨g,i,none⟩=some v:=(h.at k hk).cell hi
theorem Qjn.frozen {B:Nat} {W:World} {L:List Ent} (h:Qjn B W L) (k i:Nat) {g e:Nat} {vs:List Value} {ex:Bool} (hk:L[k]?=some ⟨g,e,vs,ex⟩):W.frozen? ⟨g,i,none⟩=false:=(h.at k hk).frozen i
theorem Qjn.glt {B:Nat} {W:World} {L:List Ent} (h:Qjn B W L) (k:Nat) {g e:Nat} {vs:List Value} {ex:Bool} (hk:L[k]?=some ⟨g,e,vs,ex⟩):g<W.heap.size:=(h.at k hk).lt
theorem Qjn.gbase {B:Nat} {W:World} {L:List Ent} (h:Qjn B W L) (k:Nat) {g e:Nat} {vs:List Value} {ex:Bool} (hk:L[k]?=some ⟨g,e,vs,ex⟩):B≤g:=h.base _ (List.mem_of_getElem? hk)
theorem Qjn.upd {B:Nat} {W W':World} {L:List Ent} (h:Qjn B W L) (k:Nat) {x y:Ent} (hk:L[k]?=some x) (hg:y.g=x.g) (ht:Qam [x.g] W W') (hy:Qmk W' y):Qjn B W' (L.set k y):=by
 have hx:=List.mem_of_getElem? hk;have hkl:k<L.length:=(List.getElem?_eq_some_iff.1 hk).1;have hmap:(L.set k y).map Ent.g=L.map Ent.g:=by
  rw [List.map_set]
  apply List.ext_getElem?
  intro i;rw [List.getElem?_set]
  split
  ·rename_i e
   subst e;simp [hkl,hg]
   have:=(List.getElem?_eq_some_iff.1 hk).2;rw [this]
  ·rfl
 refine ⟨fun z hz=>?_,fun z hz=>?_,by rw [hmap];exact h.nd,Nat.le_trans h.size ht.size⟩
 ·obtain ⟨j,hj,rfl⟩:=List.mem_iff_getElem.1 hz;rw [List.getElem_set] at hz ⊢
  split
  ·exact hy
  ·rename_i hne
   have hj':j<L.length:=by simpa using hj
   refine (h.rows _ (List.getElem_mem hj')).keep (ht.block _ (h.lt _ (List.getElem_mem hj')) ?_);simp
   intro e;have e1:(L.map Ent.g)[j]'(by simpa using hj')=(L.map Ent.g)[k]'(by simpa using hkl):=by
    simp [e,(List.getElem?_eq_some_iff.1 hk).2]
   exact hne (((List.getElem_inj h.nd).1 e1).symm)
 ·obtain ⟨j,hj,rfl⟩:=List.mem_iff_getElem.1 hz;rw [List.getElem_set]
  split
  ·rw [hg];exact h.base x hx
  ·exact h.base _ (List.getElem_mem _)
theorem Qjn.set {B:Nat} {W:World} {L:List Ent} (h:Qjn B W L) (k i:Nat) (v:Value) {g e:Nat} {vs:List Value} {ex:Bool} (hk:L[k]?=some ⟨g,e,vs,ex⟩) (hi:i<vs.length):Qjn B (W.setCell ⟨g,i,none⟩ v) (L.set k ⟨g,e,vs.set i v,ex⟩):=by
 refine h.upd k hk rfl (Qam.setCell _ (by simp) _) ?_;obtain ⟨xs,h1,more,h2,h3⟩:=h.rows _ (List.mem_of_getElem? hk);dsimp only at h1 h2 h3;refine ⟨_,heap_setCell_same W g i xs e v h1,more,?_,h3⟩;dsimp only;rw [Array.toList_setIfInBounds,h2,List.set_append_left _ _ hi]
theorem Qam.own {X:List Nat} {w W W':World} (h:Qam X w W) {Y:List Nat} (ht:Qam Y W W') (hY:∀k∈Y,w.heap.size≤k∨k∈X):Qam X w W' :=
 ⟨ht.os.trans h.os,ht.tape.trans h.tape,ht.output.trans h.output,Nat.le_trans h.size ht.size,fun k hk hn=>(ht.block k (Nat.lt_of_lt_of_le hk h.size) (fun hm=>(hY k hm).elim (fun h=>by omega) hn)).trans (h.block k hk hn)⟩
theorem Qam.later {X:List Nat} {w W W':World} (h:Qam X w W) (hb:Below W.heap.size W W'):Qam X w W':=h.trans (Qam.ofBelow hb)
section
variable {P:Program} {B:Nat} {W:World} {ops:Array Oper} {rest:List Oper} {o:Oper} {a:Act} {Q:Exit→Act→World→Prop} {L:List Ent}
theorem Qra {ty:TypeId} {zs:Array Value} (A:Agg P ty zs) (h:Qjn B W L) (k:Nat) {p:Operand} {g e:Nat} {vs:List Value} {ex:Bool}
  (hgd:o.guard=none) (ho:o.op=.load ty p) (hp:a.eval p=.pointer (some ⟨g,0,none⟩)) (hk:L[k]?=some ⟨g,e,vs,ex⟩) (hs:vs.length=zs.size)
  (hK:wpList P ops Q rest (a.put o.dst (.agg vs.toArray)) W):wpList P ops Q (o :: rest) a W :=
 Qcf A vs (fun i v hi=>by rw [Nat.zero_add];exact h.cell k i hk hi) hs hgd ho hp hK
theorem Qgh {ty:TypeId} {zs:Array Value} (A:Agg P ty zs) (h:Qjn B W L) (k:Nat) {p x:Operand} {g e:Nat} {vs:List Value} {cs:Array Value}
  (hgd:o.guard=none) (ho:o.op=.store ty p x) (hp:a.eval p=.pointer (some ⟨g,0,none⟩)) (hx:a.eval x=.agg cs) (hk:L[k]?=some ⟨g,e,vs,true⟩) (hs:cs.size=zs.size) (hv:vs.length=cs.size) (h1:cs.toList.all (·.oneCell')=true)
  (hK:∀W',Qjn B W' (L.set k ⟨g,e,cs.toList,true⟩)→Qam [g] W W'→wpList P ops Q rest (a.put o.dst undef) W'):wpList P ops Q (o :: rest) a W:=by
 refine Qa1 A (h.exact k hk) hs (by simpa using hv) (by rw [← Array.all_toList];exact h1) hgd ho hp hx ?_;intro W' hg hgr hsz;have ht:Qam [g] W W':=⟨hgr.os,hgr.tape,hgr.output,hgr.size,fun j hj hn=>hgr.block j hj (fun e=>hn (by simp at e;simp [e]))⟩
 exact hK W' (h.upd k hk rfl ht ⟨cs,hg,[],by simp,fun _=>rfl⟩) ht
end
end
section
open Go.Maps
def Qcs (w:World) (v:Value) (xs:List Nat):Prop:=w.ownsRow 0 3 1 v xs.length (xs.map vi)∨(∃a,v=.slice (some a) 0 0∧xs=[])
def Qbc:Value→Option Nat
 | .slice (some a) _ c=>if c=0 then none else some a.block
 | _=>none
theorem Qcs.nil (w:World):Qcs w (.slice none 0 0) []:=.inl ⟨rfl,.inl ⟨rfl,rfl⟩⟩
theorem Qcs.cells {w:World} {v:Value} {xs:List Nat} (h:Qcs w v xs):∃a c,v=.slice a xs.length c∧Qaq w a (xs.map vi)∧xs.length≤c∧c≤maxLen:=by
 rcases h with h | ⟨a,rfl,rfl⟩
 ·rcases h.2 with ⟨rfl,h0⟩|⟨g,cap,cur,rfl,hb,hg,h1,h2,h3,h4⟩
  ·have:xs=[]:=List.length_eq_zero_iff.1 h0;subst this;exact ⟨none,0,rfl,.inl rfl,Nat.le_refl _,by unfold maxLen;omega⟩
  ·refine ⟨_,_,rfl,.inr ⟨g,0,rfl,fun i u hi=>?_⟩,h1,h2⟩;have hc:Qa6 w g 3 (xs.map vi):=⟨cur,hg,cur.toList.drop (xs.length*1),by rw [← h4,List.take_append_drop]⟩
   rw [Nat.zero_add];exact hc.cell hi
 ·exact ⟨some a,0,rfl,.inl rfl,Nat.le_refl _,by unfold maxLen;omega⟩
theorem Qcs.keep {w w':World} {v:Value} {xs:List Nat} (h:Qcs w v xs) (hk:∀b,Qbc v=some b→w'.heap[b]?=w.heap[b]?):Qcs w' v xs:=by
 rcases h with h | h
 ·rcases h.2 with ⟨rfl,h0⟩|⟨g,cap,cur,rfl,hb,hg,h1,h2,h3,h4⟩
  ·exact .inl ⟨h.1,.inl ⟨rfl,h0⟩⟩
  ·by_cases hc:cap=0
   ·subst hc;have:xs=[]:=List.length_eq_zero_iff.1 (by omega);subst this;exact .inr ⟨_,rfl,rfl⟩
   ·exact .inl ⟨h.1,.inr ⟨g,cap,cur,rfl,hb,(hk g (by show (if cap=0 then none else some g)=some g;rw [if_neg hc])).trans hg,h1,h2,h3,h4⟩⟩
 ·exact .inr h
theorem Qcs.lt {w:World} {v:Value} {xs:List Nat} (h:Qcs w v xs):∀b,Qbc v=some b→b<w.heap.size:=by
 intro b hb;rcases h with h | ⟨a,rfl,rfl⟩
 ·rcases h.2 with ⟨rfl,h0⟩|⟨g,cap,cur,rfl,hb',hg,h1,h2,h3,h4⟩
  ·cases hb
  ·have hb2:(if cap=0 then none else some g)=some b:=hb
   by_cases hc:cap=0
   ·rw [if_pos hc] at hb2;cases hb2
   ·rw [if_neg hc] at hb2;cases hb2;exact (Array.getElem?_eq_some_iff.1 hg).1
 ·have hb2:(if 0=0 then none else some a.block)=some b:=hb;rw [if_pos rfl] at hb2;cases hb2
def Qix (m k:Nat):Nat:=32+32*m+k
def FL.at (S:FL) (i:Nat):List Nat:=if i<32 then S.g i else S.c ((i-32)/32) ((i-32) % 32)
theorem FL.at_g (S:FL) {k:Nat} (h:k<32):S.at k=S.g k:=by unfold FL.at;rw [if_pos h]
theorem FL.at_c (S:FL) (m:Nat) {k:Nat} (h:k<32):S.at (Qix m k)=S.c m k:=by
 unfold FL.at Qix;rw [if_neg (by omega),show (32+32*m+k-32)/32=m by omega,show (32+32*m+k-32) % 32=k by omega]
theorem Qpr:Keyed Tryz.prog 237:=Keyed.of_law (deep_law_laid (by kernel_rfl) (m:=2) (by omega) (of_decide_eq_true (by kernel_rfl)) (by kernel_rfl) (by rw [Tryz.underlying237]))
abbrev Jg2 (m k:Int):Value:=.agg #[.int .i64 m,.int .i64 k]
theorem Jg0 : Tryz.prog.fieldsOf 237 = #[{ name := "Mutator", type := 3, offset := 0, embedded := false, tag := "", pkgPath := "", byteOffset := 0 }, { name := "Class", type := 3, offset := 1, embedded := false, tag := "", pkgPath := "", byteOffset := 8 }] := by kernel_rfl
theorem Jfc:Tryz.prog.underlying 237=some (.struct (Tryz.prog.fieldsOf 237)):=by kernel_rfl
theorem Jfe:Tryz.prog.cellsOf 237=2:=by kernel_rfl
theorem Jg1:Tryz.prog.cellsOf 3=1:=by kernel_rfl
theorem Jht:Tryz.prog.keyType 237=true:=by kernel_rfl
theorem Jg4:∃z,Tryz.prog.types.size=z+1:=⟨Tryz.prog.types.size-1,by kernel_rfl⟩
theorem Qww (m k:Int) (hm:(Lit.int .i64 m).wf=true) (hk:(Lit.int .i64 k).wf=true):keyOf Tryz.prog 237 (Jg2 m k)=some (Qk7 m k):=by
 have h3:(Jg2 m k).formed Tryz.prog 237=true:=by simp [Value.formed,Jfe]
 obtain ⟨z,hz⟩:=Jg4;unfold keyOf Qk7;rw [Jfc];simp only
 rw [Jht,h3,if_pos (by rfl),hz];unfold Program.keyLits;simp only [Jfc,Jg0,Jfe,Value.cells]
 rw [if_pos ⟨rfl,by decide +kernel⟩];simp [Program.keyLits,Tryz.underlying3,Jg1,hm,hk]
structure Qf6 (w:World) (f mb n:Nat) (V:Nat→Value) (S:FL):Prop where
 head:w.heap[f]?=some (.cells ((List.range 32).map V ++ [Value.map (some mb)]).toArray 235 (0,0))
 map:∃M,Qm1 Tryz.prog 237 w mb n M∧∀m k:Nat,m<4→k<32→(M (Qk7 m k)).getD (.slice none 0 0)=V (Qix m k)
 rows:∀i,i<160→Qcs w (V i) (S.at i)
 apart:∀i j,i<160→j<160→i≠j→∀b,Qbc (V i)=some b→Qbc (V j)≠some b
 neF:∀i,i<160→Qbc (V i)≠some f∧Qbc (V i)≠some mb
 ne:f≠mb
def Qd5 (w:World) (f mb n:Nat) (R:List Nat) (S:FL):Prop:=∃V,Qf6 w f mb n V S∧f∈R∧mb∈R∧(∀b∈R,b<w.heap.size)∧∀i,i<160→∀b,Qbc (V i)=some b→b∈R
theorem Qd5.keep {w w':World} {f mb n:Nat} {R:List Nat} {S:FL} (h:Qd5 w f mb n R S) (hk:∀k∈R,w'.heap[k]?=w.heap[k]?):Qd5 w' f mb n R S:=by
 obtain ⟨V,hi,h1,h2,h3,h4⟩:=h;obtain ⟨M,hm,hv⟩:=hi.map;refine ⟨V,⟨(hk f h1).trans hi.head,⟨M,hm.block (hk mb h2),hv⟩,fun i hi'=>(hi.rows i hi').keep fun b hb=>hk b (h4 i hi' b hb),hi.apart,hi.neF,hi.ne⟩,h1,h2,fun b hb=>?_,h4⟩;have hb3:=h3 b hb;have:w'.heap[b]?≠none:=by rw [hk b hb,Array.getElem?_eq_getElem hb3];simp
 apply Classical.byContradiction
 intro c;exact this (Array.getElem?_eq_none (by omega))
theorem Qd5.below {w w':World} {f mb n:Nat} {R:List Nat} {S:FL} (h:Qd5 w f mb n R S) (hb:Below w.heap.size w w'):Qd5 w' f mb n R S:=by
 obtain ⟨V,_,_,_,h3,_⟩:=id h;exact h.keep (fun k hk=>hb.block k (h3 k hk))
theorem Qd5.mem {w:World} {f mb n:Nat} {R:List Nat} {S:FL} (h:Qd5 w f mb n R S):∀b∈R,b<w.heap.size:=by
 obtain ⟨V,_,_,_,h3,_⟩:=h;exact h3
theorem Qd5.mono {w:World} {f mb n n':Nat} {R:List Nat} {S:FL} (h:Qd5 w f mb n R S) (hn:n≤n'):Qd5 w f mb n' R S:=by
 obtain ⟨V,hi,r⟩:=h;obtain ⟨M,hm,hv⟩:=hi.map;exact ⟨V,{ hi with map:=⟨M,hm.mono hn,hv⟩ },r⟩
def Qvg (w:World):Ending→World→Prop:=fun e w'=>∃f mb,e=.returned (.pointer (some ⟨f,0,none⟩))∧Qd5 w' f mb 0 [f,mb] FL.empty∧Below w.heap.size w w'∧w.heap.size≤f∧w.heap.size≤mb
theorem FL.at_empty (i:Nat):FL.empty.at i=[]:=by unfold FL.at FL.empty;split <;> rfl
theorem Jed (w:World):Calls Tryz.prog 117 #[] w (Qvg w):=by
 have HV:=LH (Qm1.made w Tryz.prog 237);have HB:=LH (Qaf w (.map #[] 0));have HP:Hid (∀f mb w',Qd5 w' f mb 0 [f,mb] FL.empty→Below w.heap.size w w'→w.heap.size≤f→w.heap.size≤mb→Qvg w (.returned (.pointer (some ⟨f,0,none⟩))) w'):=LH (fun f mb w' a b c d=>⟨f,mb,rfl,a,b,c,d⟩);generalize Qvg w=Post at *;have hmm:=@run_makeMap Tryz.prog;go_enter Tryz.func117,Tryz.ntmps117;go_wp2_with fail;have hs:(w.alloc (.map #[] 0)).heap.size=w.heap.size+1:=by simp
 generalize w.alloc _=w1 at *;have hb2:=Qaf w1 (Obj.cells ((List.range 32).map (fun _=>Value.slice none 0 0) ++ [Value.map (some w.heap.size)]).toArray 235);have hh:=heap_alloc_new w1 (Obj.cells ((List.range 32).map (fun _=>Value.slice none 0 0) ++ [Value.map (some w.heap.size)]).toArray 235);rw [hs] at hh;refine HP.out (w.heap.size+1) w.heap.size _ ⟨fun _=>.slice none 0 0,⟨hh,⟨_,HV.out.block (hb2.block _ (by omega)),fun _ _ _ _=>rfl⟩,fun i _=>(by rw [FL.at_empty];exact Qcs.nil _),fun i j _ _ _ b hb=>(by cases hb),fun i _=>⟨(by intro h;cases h),(by intro h;cases h)⟩,by omega⟩,by simp,by simp,?_,fun i _ b hb=>(by cases hb)⟩ ?_ (by omega) NR
 ·intro b hb;simp only [List.mem_cons,List.not_mem_nil,or_false] at hb
  rcases hb with rfl | rfl <;> simp <;> omega
 ·exact HB.out.trans (hb2.mono (by omega))
end
section
open Go.Maps Go.ChangeMaps
structure Trc (ok:Nat→Prop) (P:Nat→List Nat) (f seen opn rest:List Nat) (bad:Bool):Prop where
 nd:seen.Nodup
 in_:∀x∈seen,Rch ok P f x
 sub:∀x∈opn,x∈seen
 from_:∀x∈rest,x∈f∨∃y∈seen,x∈P y
 base:∀x∈f,ok x→x∈seen∨x∈rest
 next:∀y∈seen,y∈opn∨∀x∈P y,ok x→x∈seen∨x∈rest
 clean:bad=false→(∀x∈f,x≠0→ok x∨x∈rest)∧(∀y∈seen,y∈opn∨∀x∈P y,x≠0→ok x∨x∈rest)
 dirty:bad=true→∃x,x≠0∧¬ok x∧(x∈f∨∃y∈seen,x∈P y)
def Qmi (ok:Nat→Prop) (P:Nat→List Nat) (f:List Nat):Prop:=∀x,x≠0→(x∈f∨∃y,Rch ok P f y∧x∈P y)→ok x
section
variable {ok:Nat→Prop} {P:Nat→List Nat} {f seen opn rest:List Nat} {bad:Bool}
theorem Trc.start (ok:Nat→Prop) (P:Nat→List Nat) (f:List Nat):Trc ok P f [] [] f false :=
 ⟨List.nodup_nil,fun _ h=>by simp at h,fun _ h=>by simp at h,fun _ h=>.inl h,fun _ h _=>.inr h,fun _ h=>by simp at h,fun _=>⟨fun _ h _=>.inr h,fun _ h=>by simp at h⟩,fun h=>by cases h⟩
theorem Trc.skip {a:Nat} (h:Trc ok P f seen opn (a :: rest) bad) (h0:¬ok 0) (ha:a=0∨a∈seen):Trc ok P f seen opn rest bad:=by
 have go:∀x,ok x→x∈seen∨x∈a :: rest→x∈seen∨x∈rest:=fun x hx hm=>by
  rcases hm with hm | hm
  ·exact .inl hm
  ·rcases List.mem_cons.1 hm with rfl | hm
   ·rcases ha with rfl | ha
    ·exact absurd hx h0
    ·exact .inl ha
   ·exact .inr hm
 have go2:∀x,x≠0→ok x∨x∈a :: rest→ok x∨x∈rest:=fun x hx hm=>by
  rcases hm with hm | hm
  ·exact .inl hm
  ·rcases List.mem_cons.1 hm with rfl | hm
   ·rcases ha with rfl | ha
    ·exact absurd rfl hx
    ·exact .inl (h.in_ _ ha).ok'
   ·exact .inr hm
 refine ⟨h.nd,h.in_,h.sub,fun x hx=>h.from_ x (List.mem_cons_of_mem _ hx),fun x hm hx=>go x hx (h.base x hm hx),fun y hy=>?_,fun hb=>⟨fun x hm hx=>go2 x hx ((h.clean hb).1 x hm hx),fun y hy=>?_⟩,h.dirty⟩
 ·rcases h.next y hy with c | c
  ·exact .inl c
  ·exact .inr (fun x hm hx=>go x hx (c x hm hx))
 ·rcases (h.clean hb).2 y hy with c | c
  ·exact .inl c
  ·exact .inr (fun x hm hx=>go2 x hx (c x hm hx))
theorem Trc.fail {a:Nat} (h:Trc ok P f seen opn (a :: rest) bad) (ha:a≠0) (hn:¬ok a):Trc ok P f seen opn rest true:=by
 have go:∀x,ok x→x∈seen∨x∈a :: rest→x∈seen∨x∈rest:=fun x hx hm=>by
  rcases hm with hm | hm
  ·exact .inl hm
  ·rcases List.mem_cons.1 hm with rfl | hm
   ·exact absurd hx hn
   ·exact .inr hm
 refine ⟨h.nd,h.in_,h.sub,fun x hx=>h.from_ x (List.mem_cons_of_mem _ hx),fun x hm hx=>go x hx (h.base x hm hx),fun y hy=>?_,fun hb=>(by cases hb),fun _=>⟨a,ha,hn,h.from_ a List.mem_cons_self⟩⟩;rcases h.next y hy with c | c
 ·exact .inl c
 ·exact .inr (fun x hm hx=>go x hx (c x hm hx))
theorem Trc.take {a:Nat} (h:Trc ok P f seen opn (a :: rest) bad) (ha:ok a) (hs:a∉seen):Trc ok P f (seen ++ [a]) (opn ++ [a]) rest bad:=by
 have hr:Rch ok P f a:=by
  rcases h.from_ a List.mem_cons_self with c | ⟨y,hy,c⟩
  ·exact .base c ha
  ·exact .step (h.in_ y hy) c ha
 have go:∀x,x∈seen∨x∈a :: rest→x∈seen ++ [a]∨x∈rest:=fun x hm=>by
  rcases hm with hm | hm
  ·exact .inl (List.mem_append_left _ hm)
  ·rcases List.mem_cons.1 hm with rfl | hm
   ·exact .inl (by simp)
   ·exact .inr hm
 have go2:∀x,ok x∨x∈a :: rest→ok x∨x∈rest:=fun x hm=>by
  rcases hm with hm | hm
  ·exact .inl hm
  ·rcases List.mem_cons.1 hm with rfl | hm
   ·exact .inl ha
   ·exact .inr hm
 have ft:∀x,(x∈f∨∃y∈seen,x∈P y)→x∈f∨∃y∈seen ++ [a],x∈P y:=fun x hx=>hx.elim .inl (fun ⟨y,h1,h2⟩=>.inr ⟨y,List.mem_append_left _ h1,h2⟩)
 refine ⟨?_,fun x hm=>?_,fun x hm=>?_,fun x hx=>ft x (h.from_ x (List.mem_cons_of_mem _ hx)),fun x hm hx=>go x (h.base x hm hx),fun y hy=>?_,fun hb=>⟨fun x hm hx=>go2 x ((h.clean hb).1 x hm hx),fun y hy=>?_⟩,fun hb=>?_⟩
 ·rw [List.nodup_append];exact ⟨h.nd,by simp,fun x hx y hy=>by simp at hy;subst hy;exact fun e=>hs (e ▸ hx)⟩
 ·rcases List.mem_append.1 hm with hm | hm
  ·exact h.in_ x hm
  ·simp at hm;subst hm;exact hr
 ·rcases List.mem_append.1 hm with hm | hm
  ·exact List.mem_append_left _ (h.sub x hm)
  ·exact List.mem_append_right _ hm
 ·rcases List.mem_append.1 hy with hy | hy
  ·rcases h.next y hy with c | c
   ·exact .inl (List.mem_append_left _ c)
   ·exact .inr (fun x hm hx=>go x (c x hm hx))
  ·exact .inl (List.mem_append_right _ hy)
 ·rcases List.mem_append.1 hy with hy | hy
  ·rcases (h.clean hb).2 y hy with c | c
   ·exact .inl (List.mem_append_left _ c)
   ·exact .inr (fun x hm hx=>go2 x (c x hm hx))
  ·exact .inl (List.mem_append_right _ hy)
 ·obtain ⟨x,h1,h2,h3⟩:=h.dirty hb;exact ⟨x,h1,h2,ft x h3⟩
theorem Trc.pop {a:Nat} (h:Trc ok P f seen (opn ++ [a]) [] bad):Trc ok P f seen opn (P a) bad:=by
 have ha:a∈seen:=h.sub a (by simp);refine ⟨h.nd,h.in_,fun x hx=>h.sub x (List.mem_append_left _ hx),fun x hx=>.inr ⟨a,ha,hx⟩,fun x hm hx=>?_,fun y hy=>?_,fun hb=>⟨fun x hm hx=>?_,fun y hy=>?_⟩,h.dirty⟩
 ·rcases h.base x hm hx with c | c
  ·exact .inl c
  ·cases c
 ·rcases h.next y hy with c | c
  ·rcases List.mem_append.1 c with c | c
   ·exact .inl c
   ·simp at c;subst c;exact .inr (fun x hm _=>.inr hm)
  ·refine .inr (fun x hm hx=>?_);rcases c x hm hx with c | c
   ·exact .inl c
   ·cases c
 ·rcases (h.clean hb).1 x hm hx with c | c
  ·exact .inl c
  ·cases c
 ·rcases (h.clean hb).2 y hy with c | c
  ·rcases List.mem_append.1 c with c | c
   ·exact .inl c
   ·simp at c;subst c;exact .inr (fun x hm _=>.inr hm)
  ·refine .inr (fun x hm hx=>?_);rcases c x hm hx with c | c
   ·exact .inl c
   ·cases c
theorem Trc.done (h:Trc ok P f seen [] [] bad) (x:Nat):x∈seen↔Rch ok P f x:=by
 refine ⟨h.in_ x,fun hr=>?_⟩
 induction hr with
 | base hm hx=>exact (h.base _ hm hx).elim id (fun h=>by simp at h)
 | step _ hm hx ih =>
  rcases h.next _ ih with c | c
  ·cases c
  ·exact (c _ hm hx).elim id (fun h=>by simp at h)
theorem Trc.verdict (h:Trc ok P f seen [] [] bad):bad=false↔Qmi ok P f:=by
 constructor
 ·intro hb x hx hm;rcases hm with hm | ⟨y,hy,hm⟩
  ·rcases (h.clean hb).1 x hm hx with c | c
   ·exact c
   ·cases c
  ·rcases (h.clean hb).2 y ((h.done y).2 hy) with c | c
   ·cases c
   ·rcases c x hm hx with c | c
    ·exact c
    ·cases c
 ·intro hc
  cases hb:bad with
  | false=>rfl
  | true =>
   obtain ⟨x,h1,h2,h3⟩:=h.dirty hb;exact absurd (hc x h1 (h3.elim .inl (fun ⟨y,hy,hm⟩=>.inr ⟨y,h.in_ y hy,hm⟩))) h2
end
def Qj1 (seen:List Nat):Lit→Option Value
 | .int .i64 x=>if 0≤x∧x.toNat∈seen then some (.bool true) else none
 | _=>none
theorem Qn7 (seen:List Nat) (a:Nat):Qj1 seen (.int .i64 (a:Int))=if a∈seen then some (.bool true) else none:=by
 show (if 0≤(a:Int)∧(a:Int).toNat∈seen then some (Value.bool true) else none)=_;simp
theorem Qxv {seen:List Nat} {l:Lit} {v:Value} (h:Qj1 seen l=some v):v=.bool true∧∃a:Nat,a∈seen∧l=.int .i64 (a:Int):=by
 unfold Qj1 at h
 split at h
 ·rename_i x
  split at h
  ·rename_i hx
   injection h with h
   exact ⟨h.symm,x.toNat,hx.2,by rw [Int.toNat_of_nonneg hx.1]⟩
  ·cases h
 ·cases h
theorem Jb8 (seen:List Nat) (a:Nat):Jfs (Qj1 seen) (.int .i64 (a:Int)) (some (.bool true))=Qj1 (seen ++ [a]):=by
 funext y
 by_cases e:y=.int .i64 (a:Int)
 ·subst e;rw [Qoj,Qn7,if_pos (by simp)]
 ·rw [Qk8 _ e];unfold Qj1
  split
  ·rename_i x
   have hne:x≠(a:Int):=fun h=>e (by rw [h])
   have:(0≤x∧x.toNat∈seen ++ [a])↔(0≤x∧x.toNat∈seen):=by
    constructor
    ·rintro ⟨h1,h2⟩;refine ⟨h1,?_⟩;rcases List.mem_append.1 h2 with h2 | h2
     ·exact h2
     ·simp at h2;omega
    ·rintro ⟨h1,h2⟩;exact ⟨h1,List.mem_append_left _ h2⟩
   simp only [this]
  ·rfl
section
variable {P:Program} {k t:TypeId} {w:World} {b n:Nat} {ops:Array Oper} {rest:List Oper} {o:Oper} {a:Act} {Q:Exit→Act→World→Prop}
def Qi8 (P:Program) (k:TypeId) (w:World) (b r n:Nat) (seen left:List Nat) (cnt:Nat):Prop :=
 ∃(D:DataW Value) (lf:Lit→Bool),w.ranges P k Qgi b r n D lf cnt∧Qma D (Qj1 seen)∧∀x:Nat,lf (.int .i64 (x:Int))=decide (x∈left)
theorem Qi8.kept {w':World} {row:Option Nat} {seen left:List Nat} {cnt r:Nat} (h:Qi8 P k w b r n seen left cnt) (hg:w.grownBy w' row) (h1:some b≠row) (h2:some r≠row):Qi8 P k w' b r n seen left cnt:=by
 obtain ⟨D,lf,h3,h4,h5⟩:=h;exact ⟨D,lf,h3.kept hg h1 h2,h4,h5⟩
theorem Qi8.left_eq {seen left:List Nat} {cnt r:Nat} (h:Qi8 P k w b r n seen left cnt):w.rangeLeft b r=cnt:=by obtain ⟨D,lf,h3,_⟩:=h;exact h3.left_eq
theorem Qrg (hg:o.guard=none) (m:Operand) (t:TypeId) (hop:o.op=Op.range t m) (k e:TypeId) (hk:P.underlying k=some (.int .i64)) (ht:P.underlying t=some (.map k e)) (b n:Nat) (seen:List Nat)
  (hm:a.eval m=.map (some b)) (hown:Qm1 P k w b n (Qj1 seen))
  (hK:∀w' cnt,Qi8 P k w' b w.heap.size n seen seen cnt→w.grownBy w' none→w'.heap.size=w.heap.size+1→wpList P ops Q rest (a.put o.dst (.pointer (some ⟨w.heap.size,0,none⟩))) w') :
  wpList P ops Q (o :: rest) a w:=by
 obtain ⟨D,ho,hT⟩:=hown;refine wpList_range_own w hg m t hop k e (int_keyed hk) ht Qgi b n D hm ho fun w' h1 h2 h3=>hK w' _ ⟨D,_,h1,hT,fun x=>?_⟩ h2 h3
 rw [hT.has _ (by trivial),Qn7]
 by_cases c:x∈seen <;> simp [c]
theorem Qr2 (hg : o.guard = none) (it : Operand) (hop : o.op = Op.next it false) (k : TypeId) (hk : P.underlying k = some (.int .i64))
  (b r n : Nat) (seen left : List Nat) (cnt : Nat) (hnd : left.Nodup) (hsub : ∀ x ∈ left, x ∈ seen) (hit : a.eval it = .pointer (some ⟨r, 0, none⟩)) (h : Qi8 P k w b r n seen left cnt)
  (hDone : left = [] → wpList P ops Q rest (a.put o.dst (.tuple #[.bool false])) w)
  (hMore : ∀ (x : Nat) (w' : World) (cnt' : Nat), x ∈ left → Qi8 P k w' b r n seen (left.erase x) cnt' → cnt' < cnt →
   w.grownBy w' (some r) → w'.heap.size = w.heap.size → (Instr.entry (.pointer (some ⟨r, 0, none⟩))).run P w' = .ok (.tuple #[.int .i64 (x : Int), .bool true]) w' → wpList P ops Q rest (a.put o.dst (.tuple #[.bool true, .int .i64 (x : Int), .bool true])) w') :
  wpList P ops Q (o :: rest) a w := by
 obtain ⟨D, lf, h1, hT, hL⟩ := h;refine wpList_next_ranges w hg it hop k (int_keyed hk) Qgi (Value.int .i64) (fun v : Value => v) (fun key kl hkey => by obtain ⟨x, rfl, _⟩ := Maps.keyOf_int_inv hk hkey; exact ⟨x, rfl⟩) (fun v _ _ => ⟨v, rfl⟩) b r n D lf cnt hit h1 (fun _ h0 => hDone ?_) ?_
 ·cases hl : left with
  | nil => rfl
  | cons x l =>
   have := hL x;rw [h0, hl] at this;simp at this
 ·intro z v kl y w' cnt' hkey hlf hv hat hrg hlt hgr hsz hen;obtain ⟨z', hz1, rfl, hwf⟩ := Maps.keyOf_int_inv hk hkey;injection hz1 with _ hz1
  subst hz1;have hhas : has D (.int .i64 z) = true := has_true_of_atKey hat;rw [hT.has _ (by trivial)] at hhas;obtain ⟨u, hu⟩ := Option.isSome_iff_exists.1 hhas;obtain ⟨rfl, x, hxs, hx⟩ := Qxv hu;injection hx with _ hx
  subst hx;have hvt : v = .bool true := by
   have e := hat (.held (.bool true));rw [hT.val _ _ (by trivial) hu] at e;unfold Qgi at hv;injection hv with hv
   rw [← hv] at e;injection e with e
   exact e.symm
  subst hvt;have hxl : x ∈ left := by
   have := hL x;rw [hlf] at this;simpa using this.symm
  refine hMore x w' cnt' hxl ⟨D, _, hrg, hT, fun q => ?_⟩ hlt hgr hsz hen;show (lf (.int .i64 (q : Int)) && !Lit.sameKey (.int .i64 (q : Int)) (.int .i64 (x : Int))) = _;rw [hL]
  by_cases e : q = x
  ·subst e;rw [WideAt.sameKey_self (by trivial)];have : q ∉ left.erase q := fun hm => by rw [hnd.mem_erase_iff] at hm; exact hm.1 rfl
   simp [this]
  ·rw [Maps.sameKey_ne (by intro hh; injection hh with _ hh; exact e (by omega))];have : q ∈ left.erase x ↔ q ∈ left := by rw [hnd.mem_erase_iff]; exact ⟨fun h => h.2, fun h => ⟨e, h⟩⟩
   simp [this]
theorem Jd5 {H:Type} {D:DataW H} {x:Lit} (h:has D x=true):0<Maps.size D:=by
 cases D with
 | map es =>
  cases es with
  | nil=>simp [has] at h
  | cons p l=>simp [Maps.size]
 | _=>simp [has] at h
def Qho (P:Program) (k:TypeId) (w:World) (b n:Nat) (bad:Bool):Prop:=∃D:DataW Value,w.ownsMap P k Qgi b n D∧IsMap D∧(bad=false→Maps.size D=0)∧(bad=true→0<Maps.size D)
theorem Qho.made (w:World) (P:Program) (k:TypeId):Qho P k (w.alloc (.map #[] 0)) w.heap.size 0 false:=⟨.map [],World.ownsMap_made w P k _,isMap_empty,fun _=>rfl,fun h=>by cases h⟩
theorem Qho.lt {bad:Bool} (h:Qho P k w b n bad):b<w.heap.size:=by obtain ⟨D,ho,_⟩:=h;exact ho.lt
theorem Qho.mono {bad:Bool} {n':Nat} (h:Qho P k w b n bad) (hn:n≤n'):Qho P k w b n' bad:=by obtain ⟨D,ho,h2⟩:=h;exact ⟨D,ho.mono hn,h2⟩
theorem Qho.block {bad:Bool} (h:Qho P k w b n bad) {w':World} (he:w'.heap[b]?=w.heap[b]?):Qho P k w' b n bad:=by
 obtain ⟨D,⟨es,clock,hb,hr⟩,h2⟩:=h;exact ⟨D,⟨es,clock,he.trans hb,hr⟩,h2⟩
theorem Qqq (hg:o.guard=none) (m x v:Operand) (t:TypeId) (hop:o.op=Op.mapUpdate t m x v)
  (k e:TypeId) (K:Keyed P k) (ht:P.underlying t=some (.map k e)) (b n:Nat) (bad:Bool)
  (hm:a.eval m=.map (some b)) (hown:Qho P k w b n bad) (hn:n<maxLen) (key val:Value) (kl:Lit) (hx:a.eval x=key) (hv:a.eval v=val) (hkey:keyOf P k key=some kl)
  (hK:∀w',Qho P k w' b (n+1) true→w.grownBy w' (some b)→wpList P ops Q rest (a.put o.dst undef) w') :
  wpList P ops Q (o :: rest) a w:=by
 obtain ⟨D,ho,hI,_⟩:=hown;exact wpList_mapUpdate_own w hg m x v t hop k e K ht Qgi b n D hm ho hn _ _ _ hx hv hkey _ [] rfl fun w' h1 h2=>hK w' ⟨_,h1,hI.put _ _,fun h=>(by cases h),fun _=>Jd5 (has_put_same hI (K.key hkey) _)⟩ h2
theorem Qor (hg:o.guard=none) (m:Operand) (t:TypeId) (hop:o.op=Op.call { callee:=Callee.builtin Builtin.len,args:=#[m],argTypes:=#[t] })
  (k e:TypeId) (ht:P.underlying t=some (.map k e)) (b n:Nat) (bad:Bool) (hm:a.eval m=.map (some b)) (hown:Qho P k w b n bad)
  (hK:∀s:Nat,s≤n→(bad=false→s=0)→(bad=true→0<s)→wpList P ops Q rest (a.put o.dst (.int .i64 (s:Int))) w) :
  wpList P ops Q (o :: rest) a w:=by
 obtain ⟨D,ho,_,h1,h2⟩:=hown;exact wpList_len_own w hg m t hop k e ht Qgi b n D hm ho (hK _ ho.size_le h1 h2)
end
theorem Qyl:Keyed Tryz.prog 252:=Keyed.of_law (deep_law_laid (by kernel_rfl) (m:=2) (by omega) (of_decide_eq_true (by kernel_rfl)) (by kernel_rfl) (by rw [Tryz.underlying252]))
theorem Jhp : Tryz.prog.fieldsOf 252 = #[{ name := "From", type := 3, offset := 0, embedded := false, tag := "", pkgPath := "", byteOffset := 0 }, { name := "Ptr", type := 3, offset := 1, embedded := false, tag := "", pkgPath := "", byteOffset := 8 }] := by kernel_rfl
theorem Jfb:Tryz.prog.underlying 252=some (.struct (Tryz.prog.fieldsOf 252)):=by kernel_rfl
theorem Jfh:Tryz.prog.cellsOf 252=2:=by kernel_rfl
theorem Jhx:Tryz.prog.cellsOf 3=1:=by kernel_rfl
theorem Jg3:Tryz.prog.keyType 252=true:=by kernel_rfl
theorem Jhv:∃z,Tryz.prog.types.size=z+1:=⟨Tryz.prog.types.size-1,by kernel_rfl⟩
theorem Jd3 (m k:Int) (hm:(Lit.int .i64 m).wf=true) (hk:(Lit.int .i64 k).wf=true):keyOf Tryz.prog 252 (.agg #[.int .i64 m,.int .i64 k])=some (Qk7 m k):=by
 have h3:(Value.agg #[.int .i64 m,.int .i64 k]).formed Tryz.prog 252=true:=by simp [Value.formed,Jfh]
 obtain ⟨z,hz⟩:=Jhv;unfold keyOf Qk7;rw [Jfb];simp only
 rw [Jg3,h3,if_pos (by rfl),hz];unfold Program.keyLits;simp only [Jfb,Jhp,Jfh,Value.cells]
 rw [if_pos ⟨rfl,by decide +kernel⟩];simp [Program.keyLits,Tryz.underlying3,Jhx,hm,hk]
end
section
def FL.cnt (S:FL) (k a:Nat):Nat:=(S.g k).count a+(S.c 0 k).count a+(S.c 1 k).count a+(S.c 2 k).count a+(S.c 3 k).count a
def FL.all (S:FL) (k:Nat):List Nat:=S.g k ++ S.c 0 k ++ S.c 1 k ++ S.c 2 k ++ S.c 3 k
theorem FL.all_count (S:FL) (k a:Nat):(S.all k).count a=S.cnt k a:=by unfold FL.all FL.cnt;simp only [List.count_append]
theorem FL.has_iff (S:FL) (k a:Nat):S.has k a=true↔0<S.cnt k a:=by
 unfold FL.has FL.cnt;simp only [Bool.or_eq_true,List.contains_iff_mem]
 have h:∀l:List Nat,a∈l↔0<l.count a:=fun l=>List.count_pos_iff.symm
 rw [h,h,h,h,h];omega
theorem FL.has_not (S:FL) (k a:Nat):S.has k a=false↔S.cnt k a=0:=by
 rw [← Bool.not_eq_true,FL.has_iff];omega
theorem Ji3 {m:Nat} (h:m<4):m=0∨m=1∨m=2∨m=3:=by omega
theorem FL.pushed_cnt (S:FL) (k x j a:Nat):(S.pushed k x).cnt j a=S.cnt j a+if j=k∧a=x∧S.cnt k x=0 then 1 else 0:=by
 unfold FL.pushed
 cases hh:S.has k x with
 | true =>
  have:=(S.has_iff k x).1 hh;rw [if_pos rfl,if_neg (by omega)];rfl
 | false =>
  have h0:=(S.has_not k x).1 hh;rw [if_neg (by simp)];simp only [h0,and_true]
  unfold FL.cnt;simp only [FL.setG_g,FL.setG_c]
  by_cases e:j=k
  ·subst e;rw [if_pos rfl,List.count_append,List.count_singleton]
   by_cases e2:a=x
   ·subst e2;simp;omega
   ·have:¬x=a:=fun c=>e2 c.symm
    simp [e2,this]
  ·simp [e]
theorem FL.carve_cnt {used:Nat→Bool} {at_:Nat→Nat} {k:Nat} (hinj:∀i j,at_ i=at_ j→i=j):∀ {n:Nat} {S:FL},(∀i,i<n→S.cnt k (at_ i)=0)→∀j a,(S.carve used at_ k n).cnt j a=S.cnt j a+if j=k∧used a=false∧∃i,i<n∧a=at_ i then 1 else 0
 | 0,S,_,j,a=>by
  unfold FL.carve;rw [if_neg (by rintro ⟨_,_,i,hi,_⟩;omega)];rfl
 | n+1,S,h0,j,a=>by
  unfold FL.carve;have hz:=h0 n (by omega)
  cases hu:used (at_ n) with
  | true =>
   rw [if_pos rfl,FL.carve_cnt hinj (fun i hi=>h0 i (by omega)) j a]
   congr 1
   by_cases c:j=k∧used a=false∧∃i,i<n∧a=at_ i
   ·obtain ⟨c1,c2,i,c3,c4⟩:=c;rw [if_pos ⟨c1,c2,i,c3,c4⟩,if_pos ⟨c1,c2,i,by omega,c4⟩]
   ·rw [if_neg c,if_neg];rintro ⟨c1,c2,i,c3,c4⟩
    by_cases e:i=n
    ·subst e;rw [c4,hu] at c2;cases c2
    ·exact c ⟨c1,c2,i,by omega,c4⟩
  | false =>
   rw [if_neg (by simp)];have hp:=S.pushed_cnt k (at_ n);rw [FL.carve_cnt hinj (fun i hi=>by
    rw [hp,h0 i (by omega),if_neg];rintro ⟨_,e,_⟩;have:=hinj _ _ e
    omega) j a,hp]
   by_cases c:j=k∧used a=false∧∃i,i<n+1∧a=at_ i
   ·rw [if_pos c];obtain ⟨c1,c2,i,c3,c4⟩:=c
    by_cases e:i=n
    ·subst e;rw [if_pos ⟨c1,c4,hz⟩,if_neg];rintro ⟨_,_,i',h1,h2⟩;have:=hinj i i' (by rw [← c4,h2]);omega
    ·rw [if_neg,if_pos ⟨c1,c2,i,by omega,c4⟩];rintro ⟨_,h2,_⟩;have:=hinj i n (by rw [← c4,h2]);omega
   ·rw [if_neg c,if_neg,if_neg]
    ·rintro ⟨c1,c2,i,c3,c4⟩;exact c ⟨c1,c2,i,by omega,c4⟩
    ·rintro ⟨c1,c2,_⟩;exact c ⟨c1,by rw [c2];exact hu,n,by omega,c2⟩
theorem Qnh:∀ {x y:List Nat},x.Pairwise (·≤·)→y.Pairwise (·≤·)→(∀a,x.count a=y.count a)→x=y:=by
 intro x y hx hy h;have hp:x.Perm y:=List.perm_iff_count.2 h;exact hp.eq_of_pairwise (fun a b _ _ h1 h2=>Nat.le_antisymm h1 h2) hx hy
end
end Go.Proofs.YtpohaahihdhleaaGreat
