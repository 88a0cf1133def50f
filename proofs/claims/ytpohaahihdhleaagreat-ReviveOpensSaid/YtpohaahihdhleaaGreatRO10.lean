/- Parts of the proof of one statement of the seat. -/
import Derived.Test.YtpohaahihdhleaaGreatRO9
import Derived.WideKeyEntry
import Derived.Shelf.Sort.Plain
import Derived.Shelf.Slices.In.SortNone
import Derived.Test.YtpohaahihdhleaaGreatProg
import Derived.Laws.CopyOwn
import Derived.BigQuiet
set_option linter.unusedVariables false
set_option maxHeartbeats 16000000
set_option maxRecDepth 100000
open Go.RowKit
namespace Go.Proofs.YtpohaahihdhleaaGreat
section
open Go.Maps Go.ChangeMaps
theorem Jbf {w0 w:World} {F:Qb0} {S:Dev} (h0:Qa7 w0 F S) {a:Option Addr} {B cap:Nat} {L:List Hd} (hlen:L.length=B) (hc:Qaq w0 a (Qbt L)) (hB:B≤1000)
  {T:TF} {n:Nat} {seen opn:List Nat} {bad:Bool} {v:Value} (h:Qf4 w0 w F B a cap T n seen opn bad v) (hn:n≤1000000000) (ho:opn.length≤1000000000) (x:Nat) (hx:x≤4611686018427387904) :
  Calls Tryz.prog 94 #[.pointer (some ⟨T.g,0,none⟩),.int .i64 (x:Int)] w (Qgl S L w0 F B a cap T n seen opn bad v w x):=by
 have HR:=LH (Qp6 h0 hlen hc hB h hn ho x hx (-1) 0 (WalkArith.wf_i64 (by omega)) (WalkArith.wf_i64 (by omega)));clear h h0 hc;have HP:Hid (∀e w',Qgl S L w0 F B a cap T n seen opn bad v w x e w'→∃er,e=.returned (.int .i64 er)):=LH (fun e w' ⟨_,_,_,_,er,h,_⟩=>⟨er,h⟩);generalize Qgl S L w0 F B a cap T n seen opn bad v w x=Post at *;go_enter Tryz.func94,Tryz.ntmps94;go_wp2_with fail;refine HR.out.mono ?_;intro e w1 hp;obtain ⟨er,rfl⟩:=HP.out _ _ hp;have HPp:=LH hp;clear hp;go_wp2_with fail;exact HPp.out
def Qxb (S : Dev) (L : List Hd) (w0 : World) (F : Qb0) (B : Nat) (a : Option Addr) (cap : Nat) (T : TF) (n : Nat) (seen opn : List Nat) (bad : Bool) (v : Value) : Ending → World → Prop := fun e w' =>
 (opn = [] ∧ e = .returned (.bool false) ∧ Qf4 w0 w' F B a cap T n seen opn bad v) ∨
 (∃ seen' opn' bad' v', opn ≠ [] ∧ e = .returned (.bool true) ∧ Qf4 w0 w' F B a cap T (n + 64) seen' opn' bad' v' ∧ (∀ f, Trc (okN S L) (Qcn S) f seen opn [] bad → Trc (okN S L) (Qcn S) f seen' opn' [] bad') ∧
  seen'.length + opn.length = seen.length + opn'.length + 1 ∧ seen.length ≤ seen'.length ∧ (bad = true → bad' = true))
theorem Ja9 {w0 w:World} {F:Qb0} {S:Dev} (h0:Qa7 w0 F S) {a:Option Addr} {B cap:Nat} {L:List Hd} (hlen:L.length=B) (hc:Qaq w0 a (Qbt L)) (hB:B≤1000)
  {T:TF} {n:Nat} {seen opn:List Nat} {bad:Bool} {v:Value} (h:Qf4 w0 w F B a cap T n seen opn bad v) (hn:n≤900000000) (ho:opn.length≤900000000) (hop:∀x∈opn,x≤1000000000) :
  Calls Tryz.prog 143 #[.pointer (some ⟨T.g,0,none⟩)] w (Qxb S L w0 F B a cap T n seen opn bad v):=by
 obtain ⟨av,cv,hv,hcv,hle,hmx⟩:=h.own.cells;obtain ⟨l,hl⟩:∃l,l=opn.length:=⟨_,rfl⟩
 obtain ⟨g,hg⟩:∃g,g=T.g:=⟨_,rfl⟩
 rw [← hg];rw [← hl] at hv hle ho;subst hv;have H:=LH h
 by_cases h0l:l=0
 ·have HP:Hid (∀w',Qf4 w0 w' F B a cap T n seen opn bad (.slice av l cv)→Qxb S L w0 F B a cap T n seen opn bad (.slice av l cv) (.returned (.bool false)) w'):=LH (fun w' h=>.inl ⟨List.length_eq_zero_iff.1 (by omega),rfl,h⟩);generalize Qxb S L w0 F B a cap T n seen opn bad (.slice av l cv)=Post at *;have c4:w.cell? ⟨g,4,none⟩=some (.slice av l cv):=by rw [hg];exact H.out.cell 4 rfl
  subst h0l;clear hg hl h h0 hc hcv;go_enter Tryz.func143,Tryz.ntmps143;go_wp2_with fail;exact HP.out _ H.out
 obtain ⟨o,y,rfl⟩:∃o y,opn=o ++ [y]:=by
  rcases List.eq_nil_or_concat opn with e | ⟨o,y,e⟩
  ·rw [e] at hl;simp at hl;omega
  ·exact ⟨o,y,by rw [e,List.concat_eq_append]⟩
 have hyb:=hop y (by simp);clear hop;have HPtr:Hid (∀w',Below w0.heap.size w0 w'→Calls Tryz.prog 173 #[Qei F,.int .i64 (y:Int)] w' (Qjx S (y:Int) w')):=LH (fun w' hb=>Qzj (h0.below hb) (y:Int));have HP:Hid (∀w' seen' opn' bad' v',Qf4 w0 w' F B a cap T (n+64) seen' opn' bad' v'→(∀f,Trc (okN S L) (Qcn S) f seen o (Qcn S y) bad→Trc (okN S L) (Qcn S) f seen' opn' [] bad')→seen'.length+o.length=seen.length+opn'.length→seen.length≤seen'.length→(bad=true→bad'=true)→
   Qxb S L w0 F B a cap T n seen (o ++ [y]) bad (.slice av l cv) (.returned (.bool true)) w'):=LH (fun w' seen' opn' bad' v' h1 h2 h3 h4 h5 =>
  .inr ⟨seen',opn',bad',v',by simp,rfl,h1,fun f ht=>h2 f ht.pop,by simp;omega,h4,h5⟩)
 generalize Qxb S L w0 F B a cap T n seen (o ++ [y]) bad (.slice av l cv)=Post at *;have hlo:l=o.length+1:=by rw [hl];simp
 have HOl:=LH hlo;have HG:=LH hg;have c4:w.cell? ⟨g,4,none⟩=some (.slice av l cv):=by rw [hg];exact H.out.cell 4 rfl
 have c0:w.cell? ⟨g,0,none⟩=some (Qei F):=by rw [hg];exact H.out.cell 0 rfl
 have k4:w.frozen? ⟨g,4,none⟩=false:=by rw [hg];exact H.out.frozen 4
 obtain ⟨b,off,e,_,hcell⟩:=hcv.at (i:=l-1) (by simp;omega);have cy:w.cell? ⟨b,off+(l-1),none⟩=some (.int .i64 (y:Int)):=hcell (l-1) (vi y) (by rw [hlo,List.map_append];simp [vi]);subst e;have HRe:Hid (∀(w1:World) (n':Nat) (seen' opn':List Nat) (bad':Bool) (v':Value),Qf4 w0 w1 F B a cap T n' seen' opn' bad' v'→n'≤1000000000→opn'.length≤1000000000→∀x:Nat,x≤4611686018427387904→∀i:Nat,i≤4611686018427387904→
   Calls Tryz.prog 142 #[.pointer (some ⟨g,0,none⟩),.agg #[.int .i64 (y:Int),.int .i64 (i:Int)],.int .i64 (x:Int)] w1 (Qgl S L w0 F B a cap T n' seen' opn' bad' v' w1 x)):=LH (fun w1 n' seen' opn' bad' v' h h1 h2 x hx i hi=>by
  have hy2:y≤4611686018427387904:=Nat.le_trans hyb (by decide);have hr:=Qp6 h0 hlen hc hB h h1 h2 x hx (y:Int) (i:Int) (Jck hy2) (Jck hi);rw [← hg] at hr
  exact hr)
 have HSm:=LH h0.small;have hcut:=H.out.own.cutN hl (n:=l-1) (by omega);rw [show (o ++ [y]).take (l-1)=o from by rw [hlo];simp] at hcut;have HCut:=LH hcut;obtain ⟨j,hj⟩:∃j,j=l-1:=⟨_,rfl⟩
 have hlj:(l:Int)-1=(j:Int):=by omega
 have hjl:j<l:=by omega
 rw [← hj] at cy HCut;clear hcut hj hlo hl hg h h0 hc hcv hcell;have h0l':((l:Int) == 0)=false:=by rw [beq_eq_false_iff_ne];omega
 clear h0l;go_enter Tryz.func143,Tryz.ntmps143;go_upto_region 3 with fail;have r4:=fun x=>Qab c4 x
 have ry:=fun x=>Qab cy x
 refine Qbh (by kernel_rfl) (by kernel_rfl) ?_
 repeat (first|go_big_quiet_step (fail)|quiet_step (fail))
 refine wpQuiet_nil ?_;rintro w1 ⟨x1,hx1⟩;have HB1:Hid (Below w.heap.size w w1):=LH (by rw [hx1];exact x1.below);clear hx1 r4 ry;have H1:=LH (H.out.later HB1.out);have c4':=Qaz HB1.out c4 NR;have c0':=Qaz HB1.out c0 NR;clear c4 c0 cy k4;go_upto_region 4 with fail;have r4:=fun x=>Qab c4' x
 refine Qai (C:=fun w'=>∃x:Qbi (w1),w'=x.val) [.fl [0,1,2,3,4,5,6,7,8,9,10,11],.sq [12,13,14] false] (by kernel_rfl) (by kernel_rfl) (by intro c a d v w h;cases d <;> exact h) ?_;simp only [Qdj,Qa3,List.getElem?_cons_succ,List.getElem?_cons_zero]
 have hC1:=Qaj (w1);refine Qak hC1 ?_
 repeat (first|go_big_quiet_step (fail)|quiet_step (fail))
 refine wpQuiet_nil ?_;have HB2:Hid (Below w.heap.size w w1.drew):=LH (HB1.out.trans ((Qae hC1).mono HB1.out.size));have H2:=LH (H1.out.later (Qae hC1));generalize w1.drew=w2 at *;have c4:w2.cell? ⟨g,4,none⟩=some (.slice (some ⟨b,off,none⟩) l cv):=by rw [HG.out];exact H2.out.cell 4 rfl
 have k4:w2.frozen? ⟨g,4,none⟩=false:=by rw [HG.out];exact H2.out.frozen 4
 have c02:w2.cell? ⟨g,0,none⟩=some (Qei F):=by rw [HG.out];exact H2.out.cell 0 rfl
 have HC2:=LH (HCut.out.keep (fun b' hb'=>HB2.out.block b' (HCut.out.lt b' hb')));have h3:=H2.out.openPut (Qk0 _ _) HC2.out (fun b hb=>.inl hb);rw [← HG.out] at h3;have H3:=LH h3;clear r4 c4' hC1 h3;refine Qal ?_;go_wp2_with fail;generalize w2.setCell _ _=w3 at *;clear c4 k4 c0' c02 HC2 H1 HB1 H2 HB2 HCut H;obtain ⟨v3,hv3⟩:∃v3,v3=Value.slice (some ⟨b,off,none⟩) j cv:=⟨_,rfl⟩
 rw [← hv3] at H3;refine (HPtr.out w3 H3.out.org).mono ?_;intro e w4 hp;obtain ⟨ap,cp,ec,rfl,_,hcp,hnew,hb4⟩:=hp.out;have H4:=LH (H3.out.later hb4);have HCp:=LH hcp;have hkl:=Qs7 HSm.out (y:Int);obtain ⟨P,hP⟩:∃P,P=Qjr S (y:Int):=⟨_,rfl⟩
 rw [← hP] at HCp hkl ⊢;have HPe:Hid (Qcn S y=P):=LH hP.symm;have HPb:Hid (∀x∈P,x≤4611686018427387904):=LH (fun x hx=>by
  rw [hP] at hx;unfold Qjr at hx
  split at hx
  ·obtain ⟨i,_,rfl⟩:=List.mem_map.1 hx;exact Nat.le_trans (Jbu _) (by decide)
  ·cases hx)
 obtain ⟨kl,hkle⟩:∃kl,kl=P.length:=⟨_,rfl⟩
 have HKl:=LH hkle;have HNew:Hid (0<kl→∀x,ap=some x→x.block<w4.heap.size∧x.block∉T.hot v3):=LH (fun hk x hx=>by
  have h1:=hnew x hx;have hlt:=H3.out;refine ⟨?_,?_⟩
  ·obtain ⟨b1,o1,q1,hq,_⟩:=hcp.at (i:=0) (by rw [← hP];simp;omega);rw [hx] at q1;injection q1 with q1
   rw [q1];exact hq
  ·intro hm;simp only [TF.hot,List.mem_cons,Option.mem_toList] at hm
   rcases hm with hm | hm | hm | hm
   ·have:=Qbu hlt.head;omega
   ·have:=hlt.seen.lt;omega
   ·have:=hlt.bad.lt;omega
   ·have:=hlt.own.lt _ hm;omega)
 rw [← hkle] at hkl ⊢;clear hp hcp hnew hb4 hP hkle HPtr;go_wp2_with fail
 go_loopw [51] (fun iv wr=>∃(k:Nat) (seen' opn':List Nat) (bad':Bool) (v':Value),k≤kl∧iv=.int .i64 (k:Int)∧Hid (Qf4 w0 wr F B a cap T (n+k) seen' opn' bad' v')∧
  Hid (∀f,Trc (okN S L) (Qcn S) f seen o (Qcn S y) bad→Trc (okN S L) (Qcn S) f seen' opn' (P.drop k) bad')∧Hid (seen'.length+o.length=seen.length+opn'.length∧seen.length≤seen'.length∧(bad=true→bad'=true)∧opn'.length≤o.length+k)∧
  Hid (Qaq wr ap (P.map vi))∧Hid (0<kl→∀x,ap=some x→x.block<wr.heap.size∧x.block∉T.hot v')) (fun iv _=>kl-(intOf iv).toNat)
 case atStart=>exact ⟨0,seen,o,bad,v3,by omega,rfl,H4,LH (fun f h=>by rw [HPe.out] at h;exact h),LH ⟨rfl,Nat.le_refl _,id,by omega⟩,HCp,HNew⟩
 case round =>
  obtain ⟨k,seen',opn',bad',v',hk,rfl,HTr,HTc,HLe,HCr,HNr⟩:=hrel
  by_cases hlt:k<kl
  ·have hlt':(k:Int)<(kl:Int):=by omega
   obtain ⟨x,hx⟩:∃x,P[k]?=some x:=⟨_,GE (by rw [← HKl.out];exact hlt)⟩
   obtain ⟨b1,o1,q1,_,hc1⟩:=HCr.out.at (i:=k) (by rw [List.length_map,← HKl.out];exact hlt);have cx:wr.cell? ⟨b1,o1+k,none⟩=some (.int .i64 (x:Int)):=hc1 k (vi x) (by rw [List.getElem?_map,hx];rfl);have HXb:=LH (HPb.out x (List.mem_of_getElem? hx));have HDr:Hid (P.drop k=x :: P.drop (k+1)):=LH (by
    have hk2:k<P.length:=by rw [← HKl.out];exact hlt
    rw [List.drop_eq_getElem_cons hk2]
    congr 1
    rw [GE hk2] at hx
    injection hx)
   subst q1;clear hc1 hx;have hlen9:=HLe.out.2.2.2;have hol:=HOl.out;have HBo:Hid (opn'.length≤1000000000):=LH (by omega);clear hlen9 hol;go_wp2_with fail;refine (HRe.out wr (n+k) seen' opn' bad' v' HTr.out (by omega) HBo.out x HXb.out k (by omega)).mono ?_;rintro e w5 ⟨seen2,opn2,bad2,v2,er,rfl,ht2,_,_,hbb,htc,hl1,hl2,hto,hro,hl3⟩;have HT2:=LH ht2;have HTc2:Hid (∀f,Trc (okN S L) (Qcn S) f seen o (Qcn S y) bad→Trc (okN S L) (Qcn S) f seen2 opn2 (P.drop (k+1)) bad2):=LH (fun f h=>htc f _ (by rw [← HDr.out];exact HTc.out f h));have HLe2:Hid (seen2.length+o.length=seen.length+opn2.length∧seen.length≤seen2.length∧(bad=true→bad2=true)∧opn2.length≤o.length+(k+1)):=LH (by
    obtain ⟨z1,z2,z3,z4⟩:=HLe.out
    exact ⟨by omega,by omega,fun h=>hbb (z3 h),by omega⟩)
   have hnr:=HNr.out (by omega) _ rfl;have HC5:Hid (Qaq w5 (some ⟨b1,o1,none⟩) (P.map vi)):=LH (HCr.out.touchL hto (fun x hx _=>by injection hx with hx;rw [← hx];exact hnr.2));have HN5:Hid (0<kl→∀x,some (⟨b1,o1,none⟩:Addr)=some x→x.block<w5.heap.size∧x.block∉T.hot v2):=LH (fun _ x hx=>by
    injection hx with hx
    subst hx;refine ⟨Nat.lt_of_lt_of_le hnr.1 hto.size,fun hm=>?_⟩;simp only [TF.hot,List.mem_cons,Option.mem_toList] at hm
    rcases hm with hm | hm | hm | hm
    ·exact hnr.2 (by simp [TF.hot,hm])
    ·exact hnr.2 (by simp [TF.hot,hm])
    ·exact hnr.2 (by simp [TF.hot,hm])
    ·rcases hro _ hm with c | c
     ·exact hnr.2 (by simp [TF.hot,c])
     ·have:=hnr.1;omega)
   clear ht2 hbb htc hl1 hl2 hto hro hl3 hnr cx;go_wp2_with fail;exact ⟨⟨k+1,seen2,opn2,bad2,v2,by omega,Qb2 (by omega),HT2,HTc2,HLe2,HC5,HN5⟩,by simp [intOf];omega⟩
  ·have hltd:decide ((k:Int)<(kl:Int))=false:=by simp;omega
   have hke:k=kl:=by omega
   have HEnd:Hid (P.drop k=[]):=LH (by rw [hke,HKl.out];exact List.drop_length);have HTf:=LH (fun f h=>(by have:=HTc.out f h;rw [HEnd.out] at this;exact this:Trc (okN S L) (Qcn S) f seen' opn' [] bad'));have HTm:=LH (HTr.out.mono (n':=n+64) (by omega));clear hke;go_wp2_with fail;exact HP.out _ seen' opn' bad' v' HTm.out HTf.out HLe.out.1 HLe.out.2.1 HLe.out.2.2.1
end
section
open Go.Maps Go.ChangeMaps Go.MapKept Go.WideElems
section
variable {P:Program} {k e t:TypeId} {w:World} {b n:Nat} {M:Lit→Option Value}
variable {ops:Array Oper} {rest:List Oper} {o:Oper} {a:Act} {Q:Exit→Act→World→Prop}
end
end
section
open Go.Maps
end
end Go.Proofs.YtpohaahihdhleaaGreat
namespace Go.Proofs
open Go.Shelf
def Tryz.lays189_ren:Go.Shelf.Ren:=⟨fun | 189=>133 | 125=>168 | 257=>167 | 128=>197 | 129=>198 | 294=>188 | 295=>189 | 296=>190 | 297=>191 | 298=>192 | 299=>193 | 216=>194 | 300=>195 | 301=>196 | 328=>208 | 329=>209 | 330=>210 | 331=>211 | 332=>212 | 215=>213 | 343=>220 | n=>n,fun | 28=>47 | 3=>3 | 46=>115 | 0=>0 | 51=>166 | 53=>40 | 4=>4 | 183=>281 | 182=>280 | 131=>199 | 5=>5 | 9=>9 | 218=>293 | 222=>296 | 228=>302 | 229=>303 | n=>n,fun | n=>n⟩
theorem Tryz.lays189:Go.Proofs.Lays.n189 Tryz.prog Tryz.lays189_ren:={
 mixed:=by kernel_rfl
 f125:=Tryz.func168.trans (congrArg some (by kernel_rfl))
 f128:=Tryz.func197.trans (congrArg some (by kernel_rfl))
 f129:=Tryz.func198.trans (congrArg some (by kernel_rfl))
 f189:=Tryz.func133.trans (congrArg some (by kernel_rfl))
 f215:=Tryz.func213.trans (congrArg some (by kernel_rfl))
 f216:=Tryz.func194.trans (congrArg some (by kernel_rfl))
 f257:=Tryz.func167.trans (congrArg some (by kernel_rfl))
 f294:=Tryz.func188.trans (congrArg some (by kernel_rfl))
 f295:=Tryz.func189.trans (congrArg some (by kernel_rfl))
 f296:=Tryz.func190.trans (congrArg some (by kernel_rfl))
 f297:=Tryz.func191.trans (congrArg some (by kernel_rfl))
 f298:=Tryz.func192.trans (congrArg some (by kernel_rfl))
 f299:=Tryz.func193.trans (congrArg some (by kernel_rfl))
 f300:=Tryz.func195.trans (congrArg some (by kernel_rfl))
 f301:=Tryz.func196.trans (congrArg some (by kernel_rfl))
 f328:=Tryz.func208.trans (congrArg some (by kernel_rfl))
 f329:=Tryz.func209.trans (congrArg some (by kernel_rfl))
 f330:=Tryz.func210.trans (congrArg some (by kernel_rfl))
 f331:=Tryz.func211.trans (congrArg some (by kernel_rfl))
 f332:=Tryz.func212.trans (congrArg some (by kernel_rfl))
 f343:=Tryz.func220.trans (congrArg some (by kernel_rfl))
 t0:=Tryz.underlying0
 a0:=Tryz.isAgg0
 z0:=Tryz.sizeOf0
 v0:=Tryz.zeroValue0
 t3:=Tryz.underlying3
 a3:=Tryz.isAgg3
 z3:=Tryz.sizeOf3
 v3:=Tryz.zeroValue3
 t4:=Tryz.underlying4
 a4:=Tryz.isAgg4
 z4:=Tryz.sizeOf4
 v4:=Tryz.zeroValue4
 t5:=Tryz.underlying5
 a5:=Tryz.isAgg5
 z5:=Tryz.sizeOf5
 v5:=Tryz.zeroValue5
 t9:=Tryz.underlying9
 a9:=Tryz.isAgg9
 z9:=Tryz.sizeOf9
 v9:=Tryz.zeroValue9
 t28:=Tryz.underlying47
 a28:=Tryz.isAgg47
 z28:=Tryz.sizeOf47
 v28:=Tryz.zeroValue47
 t46:=Tryz.underlying115
 a46:=Tryz.isAgg115
 z46:=Tryz.sizeOf115
 v46:=Tryz.zeroValue115
 t51:=Tryz.underlying166
 a51:=Tryz.isAgg166
 z51:=Tryz.sizeOf166
 v51:=Tryz.zeroValue166
 t53:=Tryz.underlying40
 a53:=Tryz.isAgg40
 z53:=Tryz.sizeOf40
 v53:=Tryz.zeroValue40
 t131:=Tryz.underlying199
 a131:=Tryz.isAgg199
 z131:=Tryz.sizeOf199
 v131:=Tryz.zeroValue199
 t182:=Tryz.underlying280
 a182:=Tryz.isAgg280
 z182:=Tryz.sizeOf280
 v182:=Tryz.zeroValue280
 t183:=Tryz.underlying281
 a183:=Tryz.isAgg281
 z183:=Tryz.sizeOf281
 v183:=Tryz.zeroValue281
 t218:=Tryz.underlying293
 a218:=Tryz.isAgg293
 z218:=Tryz.sizeOf293
 v218:=Tryz.zeroValue293
 t222:=Tryz.underlying296
 a222:=Tryz.isAgg296
 z222:=Tryz.sizeOf296
 v222:=Tryz.zeroValue296
 t228:=Tryz.underlying302
 a228:=Tryz.isAgg302
 z228:=Tryz.sizeOf302
 v228:=Tryz.zeroValue302
 t229:=Tryz.underlying303
 a229:=Tryz.isAgg303
 z229:=Tryz.sizeOf303
 v229:=Tryz.zeroValue303 }
end Go.Proofs
namespace Go.Proofs.YtpohaahihdhleaaGreat
section
open Go.Maps Go.Shelf Go.Sort
theorem Qo7 (cur:Array Value) (d:Array Int) (h:d.size≤cur.size):(putCells (Value.int .i64) 0 d cur).toList=d.toList.map (Value.int .i64) ++ cur.toList.drop d.size:=by
 apply List.ext_getElem?
 intro k;unfold putCells;rw [Array.getElem?_toList,Array.getElem?_mapIdx]
 by_cases hk:k<d.size
 ·rw [List.getElem?_append_left (by simpa using hk),List.getElem?_map,Array.getElem?_toList,Array.getElem?_eq_getElem hk,Array.getElem?_eq_getElem (show k<cur.size by omega)];simp [hk]
 ·rw [List.getElem?_append_right (by simpa using hk),List.getElem?_drop];have e:d.size+(k-(d.toList.map (Value.int .i64)).length)=k:=by simp;omega
  rw [e,Array.getElem?_toList]
  cases cur[k]? with
  | none=>rfl
  | some x=>simp [hk]
theorem Qu6 {w:World} {g:Nat} {cur:Array Value} {e:TypeId} {fr:Nat × Nat} (hg:w.heap[g]?=some (.cells cur e fr)) (d:Array Int) (q:Nat) :
  (putRow (Value.int .i64) (Sort.ahead w q) g 0 d).heap[g]?=some (.cells (putCells (Value.int .i64) 0 d cur) e fr):=by
 unfold putRow mapBlock;simp [Array.getElem?_modify,hg,onCells]
theorem Qr3 (w:World) (g:Nat) (d:Array Int) (q:Nat):w.grownBy (putRow (Value.int .i64) (Sort.ahead w q) g 0 d) (some g):=by
 refine ⟨rfl,rfl,rfl,by simp [putRow,mapBlock],fun k hk hne=>?_⟩;have:¬g=k:=fun e=>hne (by rw [e])
 simp [putRow,mapBlock,Array.getElem?_modify,this]
theorem Qy6 (w:World) (os:Array Obj):w.grownBy (grow w os) none :=
 ⟨rfl,rfl,rfl,by simp [grow],fun k hk _=>heap_grow_old w os hk⟩
theorem Jfo {w:World} {g cap:Nat} {cur:Array Value} (hg:w.heap[g]?=some (.cells cur 3 (0,0))) (hc:cur.size=cap) (h2:cap≤maxLen) (d:Array Int) (hd:d.size≤cap) (q:Nat) (ys:List Nat) (hy:d.toList.take ys.length=ys.map (fun x:Nat=>(x:Int))) (hl:ys.length≤d.size) :
  Qcs (putRow (Value.int .i64) (Sort.ahead w q) g 0 d) (.slice (some ⟨g,0,none⟩) ys.length cap) ys:=by
 refine .inl ⟨by simp,.inr ⟨g,cap,_,rfl,Nat.zero_le _,Qu6 hg d q,by omega,h2,by unfold putCells;simp [hc],?_⟩⟩;rw [Qo7 _ _ (by omega),Nat.mul_one,List.take_append_of_le_length (by simpa using hl),← List.map_take,hy,List.map_map]
 rfl
theorem Qcs.row {w:World} {v:Value} {xs:List Nat} (h:Qcs w v xs) (hx:xs≠[]):∃g cap cur,v=.slice (some ⟨g,0,none⟩) xs.length cap∧w.heap[g]?=some (.cells cur 3 (0,0))∧xs.length≤cap∧cap≤maxLen∧cur.size=cap∧Qbc v=some g∧
  Go.Sort.Holds (Value.int .i64) w g 0 (xs.map (fun x:Nat=>(x:Int))).toArray:=by
 rcases h with h | ⟨a,_,h⟩
 ·rcases h.2 with ⟨_,h0⟩|⟨g,cap,cur,rfl,hb,hg,h1,h2,h3,h4⟩
  ·exact absurd (List.length_eq_zero_iff.1 h0) hx
  ·have hpos:0<xs.length:=List.length_pos_iff.2 hx;refine ⟨g,cap,cur,rfl,hg,h1,h2,by omega,?_,fun j hj=>⟨?_,frozen_of_row _ _ _ _ _ hg⟩⟩
   ·show (if cap=0 then none else some g)=some g;rw [if_neg (by omega)]
   ·have hj':j<xs.length:=by simpa using hj
    rw [Nat.zero_add,cell_of_row _ _ j _ _ _ hg];have h5:=congrArg (fun l=>l[j]?) h4;rw [Nat.mul_one] at h5;simp only [List.getElem?_take,if_pos hj',List.getElem?_map,GE hj',Option.map_some] at h5
    rw [← Array.getElem?_toList,h5];simp [vi,hj']
 ·exact absurd h hx
theorem Qcs.none_val {w:World} {v:Value} (h:Qcs w v []):∃p c,v=.slice p 0 c:=by
 obtain ⟨a,c,e,_⟩:=h.cells;exact ⟨a,c,e⟩
def Jf8 (w:World) (v:Value) (xs:List Nat):Ending→World→Prop:=fun e w'=>e=.returned (.tuple #[])∧∃ys:List Nat,Qcs w' v ys∧ys.Pairwise (·≤·)∧ys.Perm xs∧w.grownBy w' (Qbc v)
theorem Qtv {w:World} {v:Value} {xs:List Nat} (h:Qcs w v xs) (hl:xs.length≤1000000000):Calls Tryz.prog 133 #[v] w (Jf8 w v xs):=by
 by_cases hx:xs=[]
 ·subst hx;obtain ⟨p,c,rfl⟩:=h.none_val;refine (Any.slices_Sort_int_none Tryz.lays189 p c w).mono ?_;rintro e w' ⟨rfl,rfl⟩;exact ⟨rfl,[],h,List.Pairwise.nil,List.Perm.refl _,Qk0 _ _⟩
 ·obtain ⟨g,cap,cur,rfl,hg,h1,h2,h3,h4,hH⟩:=h.row hx;have hc:=Any.slices_Sort_int Tryz.lays189 g 0 cap (xs.map (fun x:Nat=>(x:Int))) w hH (Array.getElem?_eq_some_iff.1 hg).1 (by rw [List.length_map];omega);rw [List.length_map] at hc;refine hc.mono ?_;rintro e w' ⟨rfl,q,os,rfl⟩;have hm:(xs.map (fun x:Nat=>(x:Int))).mergeSort (fun x y=>decide (x≤y))=(xs.mergeSort (fun x y=>decide (x≤y))).map (fun x:Nat=>(x:Int)):=by
   rw [List.map_mergeSort (s:=fun x y:Int=>decide (x≤y)) (fun a _ b _=>by simp)]
  rw [hm];have hpm:=List.mergeSort_perm xs (fun x y=>decide (x≤y));have hlm:(xs.mergeSort (fun x y=>decide (x≤y))).length=xs.length:=hpm.length_eq;have hso:(xs.mergeSort (fun x y=>decide (x≤y))).Pairwise (·≤·):=by
   have:=List.pairwise_mergeSort (le:=fun x y:Nat=>decide (x≤y)) (fun a b c h1 h2=>by simp at *;omega) (fun a b=>by simp;omega) xs;exact this.imp (fun h=>by simpa using h)
  have ho:=Jfo hg h3 h2 ((xs.mergeSort (fun x y=>decide (x≤y))).map (fun x:Nat=>(x:Int))).toArray (by rw [List.size_toArray,List.length_map,hlm];exact h1) q (xs.mergeSort (fun x y=>decide (x≤y))) (by rw [List.take_of_length_le (by simp)]) (by simp);rw [hlm] at ho;have hgr:=Qr3 w g ((xs.mergeSort (fun x y=>decide (x≤y))).map (fun x:Nat=>(x:Int))).toArray q;refine ⟨rfl,_,?_,hso,hpm,?_⟩
  ·exact ho.keep (fun b hb=>heap_grow_old _ _ (ho.lt b hb))
  ·have hg2:=Qy6 (putRow (Value.int .i64) (Sort.ahead w q) g 0 ((xs.mergeSort (fun x y=>decide (x≤y))).map (fun x:Nat=>(x:Int))).toArray) os;rw [h4];exact ⟨hg2.os.trans hgr.os,hg2.tape.trans hgr.tape,hg2.output.trans hgr.output,Nat.le_trans hgr.size hg2.size,fun k hk hne=>(hg2.block k (Nat.lt_of_lt_of_le hk hgr.size) (by simp)).trans (hgr.block k hk hne)⟩
end
section
open Go.Maps Go.ChangeMaps
theorem Qqx {p:Nat→Prop} (h:∃m,p m):∃m,p m∧∀k,p k→m≤k:=by
 have go:∀n m,m≤n→p m→∃m,p m∧∀k,p k→m≤k:=by
  intro n
  induction n with
  | zero=>intro m hm hp;exact ⟨m,hp,fun k _=>by omega⟩
  | succ n ih =>
   intro m hm hp
   by_cases hq:∃k,k≤n∧p k
   ·obtain ⟨k,hk,hpk⟩:=hq;exact ih k hk hpk
   ·refine ⟨m,hp,fun k hk=>?_⟩;rcases Nat.lt_or_ge n k with c | c
    ·omega
    ·exact absurd ⟨k,c,hk⟩ hq
 obtain ⟨m,hm⟩:=h;exact go m m NR hm
open Classical in
noncomputable def Qqb (p:Nat→Prop):Nat:=if h:∃m,p m then Classical.choose (Qqx h) else 0
theorem Qv2 {p:Nat→Prop} (h:∃m,p m):p (Qqb p):=by
 unfold Qqb;rw [dif_pos h];exact (Classical.choose_spec (Qqx h)).1
theorem Jcj {p:Nat→Prop} {m:Nat} (h:p m):Qqb p≤m:=by
 unfold Qqb;rw [dif_pos ⟨m,h⟩];exact (Classical.choose_spec (Qqx ⟨m,h⟩)).2 m h
theorem Trc.len {S:Dev} {L:List Hd} {f seen opn rest:List Nat} {bad:Bool} (h:Trc (okN S L) (Qcn S) f seen opn rest bad):seen.length≤512*L.length :=
 Qgr _ _ (fun x hx=>(Ql9 (h.in_ x hx).ok').2) (Qhr h.nd)
theorem Trc.opn_lt {S:Dev} {L:List Hd} {f seen opn rest:List Nat} {bad:Bool} (h:Trc (okN S L) (Qcn S) f seen opn rest bad):∀x∈opn,x<512*L.length :=
 fun x hx=>(Ql9 (h.in_ x (h.sub x hx)).ok').2
def Qyu (S:Dev) (L:List Hd) (w0:World) (F:Qb0) (B:Nat) (a:Option Addr) (cap:Nat) (T:TF) (f:List Nat) (w:World) (m:Nat):Prop :=
 ∃n seen opn bad v,Qf4 w0 w F B a cap T n seen opn bad v∧Trc (okN S L) (Qcn S) f seen opn [] bad∧(512*B-seen.length)+opn.length=m∧n+64*m≤800000000
def Qsk (S:Dev) (L:List Hd) (w0:World) (F:Qb0) (B:Nat) (a:Option Addr) (cap:Nat) (T:TF) (f:List Nat):Ending→World→Prop:=fun e w' =>
 ∃n seen bad v,e=.returned (.int .i64 (if bad=true then 22 else 0))∧Qf4 w0 w' F B a cap T n seen [] bad v∧Trc (okN S L) (Qcn S) f seen [] [] bad
theorem Jd4 {w0 w:World} {F:Qb0} {S:Dev} (h0:Qa7 w0 F S) {a:Option Addr} {B cap:Nat} {L:List Hd} (hlen:L.length=B) (hc:Qaq w0 a (Qbt L)) (hB:B≤1000)
  {T:TF} {f:List Nat} {m0:Nat} (h:Qyu S L w0 F B a cap T f w m0) :
  Calls Tryz.prog 95 #[.pointer (some ⟨T.g,0,none⟩)] w (Qsk S L w0 F B a cap T f):=by
 have HP:Hid (∀w' n seen v,Qf4 w0 w' F B a cap T n seen [] false v→Trc (okN S L) (Qcn S) f seen [] [] false→Qsk S L w0 F B a cap T f (.returned (.int .i64 0)) w'):=LH (fun w' n seen v h1 h2=>⟨n,seen,false,v,rfl,h1,h2⟩);have HQ:Hid (∀w' n seen v,Qf4 w0 w' F B a cap T n seen [] true v→Trc (okN S L) (Qcn S) f seen [] [] true→Qsk S L w0 F B a cap T f (.returned (.int .i64 22)) w'):=LH (fun w' n seen v h1 h2=>⟨n,seen,true,v,rfl,h1,h2⟩);generalize Qsk S L w0 F B a cap T f=Post at *;obtain ⟨g,hg⟩:∃g,g=T.g:=⟨_,rfl⟩
 have HG:=LH hg;have HStep:Hid (∀(w1:World) (n:Nat) (seen opn:List Nat) (bad:Bool) (v:Value),Qf4 w0 w1 F B a cap T n seen opn bad v→n≤900000000→opn.length≤900000000→(∀x∈opn,x≤1000000000)→
   Calls Tryz.prog 143 #[.pointer (some ⟨g,0,none⟩)] w1 (Qxb S L w0 F B a cap T n seen opn bad v)):=LH (fun w1 n seen opn bad v h h1 h2 h3=>by
  have:=Ja9 h0 hlen hc hB h h1 h2 h3;rw [← hg] at this
  exact this)
 rw [← hg];have HS:=LH h;have HL:=LH hlen;clear h0 hc hg h hlen;go_enter Tryz.func95,Tryz.ntmps95;go_wp2_with fail
 go_loopw [] (fun wr=>∃m,Qyu S L w0 F B a cap T f wr m) (fun wr=>Qqb (Qyu S L w0 F B a cap T f wr))
 case atStart=>exact ⟨m0,HS.out⟩
 case round =>
  obtain ⟨m,hm⟩:∃m,m=Qqb (Qyu S L w0 F B a cap T f wr):=⟨_,rfl⟩
  have hsp:=Qv2 hrel;rw [← hm] at hsp;have HM:=LH hm;obtain ⟨n,seen,opn,bad,v,ht,htc,hmm,hnm⟩:=hsp;clear hrel hm;have htl:=htc.len;rw [HL.out] at htl;have hop:∀x∈opn,x≤1000000000:=fun x hx=>by
   have h1:=htc.opn_lt x hx;rw [HL.out] at h1;omega
  have HSt:=LH (HStep.out wr n seen opn bad v ht (by omega) (by omega) hop);have HTc:=LH htc;have HNm:Hid (n+64*m≤800000000∧(512*B-seen.length)+opn.length=m∧seen.length≤512*B):=LH ⟨hnm,hmm,htl⟩;clear ht htc hmm hnm htl hop;go_wp2_with fail;refine HSt.out.mono ?_;rintro e w1 (⟨rfl,rfl,ht1⟩|⟨seen',opn',bad',v',hne,rfl,ht1,hct,hl1,hl2,_⟩)
  ·have HT1:=LH ht1;clear ht1
   cases bad with
   | false =>
    have HB1:Hid (Qho Tryz.prog 252 w1 T.mb n false):=LH HT1.out.bad;have c5:w1.cell? ⟨g,5,none⟩=some (.map (some T.mb)):=by rw [HG.out];exact HT1.out.cell 5 rfl
    go_wp2_with (refine Qor rfl _ _ rfl 252 3 Tryz.underlying248 T.mb n false rfl HB1.out ?_;intro s hs hs0 hs1;obtain rfl:=hs0 rfl;clear hs hs0 hs1)
    exact HP.out _ _ _ _ HT1.out HTc.out
   | true =>
    have HB1:Hid (Qho Tryz.prog 252 w1 T.mb n true):=LH HT1.out.bad;have c5:w1.cell? ⟨g,5,none⟩=some (.map (some T.mb)):=by rw [HG.out];exact HT1.out.cell 5 rfl
    go_wp2_with (refine Qor rfl _ _ rfl 252 3 Tryz.underlying248 T.mb n true rfl HB1.out ?_;intro s hs hs0 hs1;have hsp:0<(s:Int):=(by have:=hs1 rfl;omega);clear hs hs0 hs1)
    exact HQ.out _ _ _ _ HT1.out HTc.out
  ·have ht2:=hct f HTc.out;have hlen2:=ht2.len;rw [HL.out] at hlen2;obtain ⟨z1,z2,z3⟩:=HNm.out;have hpos:0<opn.length:=List.length_pos_iff.2 hne;have HNew:Hid (∃m',m'<m∧Qyu S L w0 F B a cap T f w1 m'):=LH ⟨(512*B-seen'.length)+opn'.length,by omega,n+64,seen',opn',bad',v',ht1,ht2,rfl,by omega⟩;clear ht1 hct hl1 hl2 hne ht2 hlen2 z1 z2 z3 hpos HNm HTc HSt;go_wp2_with fail;obtain ⟨m',hlt,hr⟩:=HNew.out;refine ⟨⟨m',hr⟩,?_⟩;rw [← HM.out];exact Nat.lt_of_le_of_lt (Jcj hr) hlt
def Qqv (w:World) (seen:List Nat):Ending→World→Prop:=fun e w'=>∃v ys,e=.returned v∧Qcs w' v ys∧ys.Pairwise (·≤·)∧ys.Perm seen∧Below w.heap.size w w'∧(∀b,Qbc v=some b→w.heap.size≤b)
theorem Jb1 {w0 w:World} {F:Qb0} {a:Option Addr} {B cap:Nat} {T:TF} {n:Nat} {seen opn:List Nat} {bad:Bool} {v:Value} (h:Qf4 w0 w F B a cap T n seen opn bad v) (hnd:seen.Nodup) (hl:seen.length≤900000000) :
  Calls Tryz.prog 96 #[.pointer (some ⟨T.g,0,none⟩)] w (Qqv w seen):=by
 have HP:Hid (∀v ys w',Qcs w' v ys→ys.Pairwise (·≤·)→ys.Perm seen→Below w.heap.size w w'→(∀b,Qbc v=some b→w.heap.size≤b)→Qqv w seen (.returned v) w'):=LH (fun v ys w' h1 h2 h3 h4 h5=>⟨v,ys,rfl,h1,h2,h3,h4,h5⟩);generalize Qqv w seen=Post at *;have c3:w.cell? ⟨T.g,3,none⟩=some (.map (some T.ms)):=h.cell 3 rfl;have HV:=LH h.seen;obtain ⟨g,hg⟩:∃g,g=T.g:=⟨_,rfl⟩
 obtain ⟨ms,hms⟩:∃g,g=T.ms:=⟨_,rfl⟩
 rw [← hg,← hms] at c3;rw [← hms] at HV;rw [← hg];have HNd:=LH hnd;have HL:=LH hl;clear h hnd hl hg hms;go_enter Tryz.func96,Tryz.ntmps96;go_wp2_with (at_range;refine Qrg rfl _ 247 rfl 3 4 Tryz.underlying3 Tryz.underlying247 ms n seen rfl HV.out ?_;intro w1 cnt0 hr0 hg0 hs0)
 have HR0:=LH hr0;have HB0:=LH (Qlj hg0);have HSz:Hid (w.heap.size+1≤w1.heap.size):=LH (by omega);clear hr0 hg0 hs0 c3
 go_frame
 obtain ⟨r,hr⟩:∃r,r=w.heap.size:=⟨_,rfl⟩
 have HRr:=LH hr;rw [← hr] at HR0 HSz ⊢;clear hr
 go_loopw [3] (fun ov wr=>∃(dn left:List Nat) (cnt:Nat),Hid (Qcs wr ov dn)∧Hid (∀b,Qbc ov=some b→r<b)∧Hid (Qi8 Tryz.prog 3 wr ms r n seen left cnt)∧Hid ((dn ++ left).Perm seen)∧Hid (Below w.heap.size w wr∧r+1≤wr.heap.size)) (fun _ wr=>wr.rangeLeft ms r)
 case atStart=>exact ⟨[],seen,cnt0,LH (Qcs.nil _),LH (fun b hb=>by cases hb),HR0,LH (List.Perm.refl _),LH ⟨HB0.out,HSz.out⟩⟩
 case round =>
  obtain ⟨dn,left,cnt,HO,HRow,HR,HPm,HB⟩:=hrel;have hndl:left.Nodup:=(List.nodup_append.1 (HPm.out.nodup_iff.2 HNd.out)).2.1;have hsub:∀x∈left,x∈seen:=fun x hx=>HPm.out.mem_iff.1 (List.mem_append_right _ hx)
  have HNl:=LH hndl;have HSb:=LH hsub;clear hndl hsub;obtain ⟨av,cv,hov,_⟩:=HO.out.cells;obtain ⟨l,hll⟩:∃l,l=dn.length:=⟨_,rfl⟩
  rw [← hll] at hov;have HLl:=LH hll;subst hov;clear hll;go_wp2_with (at_next;refine Qr2 rfl _ rfl 3 Tryz.underlying3 ms r n seen left _ HNl.out HSb.out rfl HR.out ?_ ?_)
  ·intro h0;subst h0;have HPe:Hid (dn.Perm seen):=LH (by have:=HPm.out;rwa [List.append_nil] at this);have HDl:Hid (dn.length≤1000000000):=LH (by rw [HPe.out.length_eq];have:=HL.out;omega);go_wp2_with fail;refine (Qtv HO.out HDl.out).mono ?_;rintro e w2 ⟨rfl,ys,ho,hso,hpm,hgr⟩;have hlen:ys.length=l:=by rw [hpm.length_eq,HLl.out]
   have HO2:=LH ho;have HS2:=LH hso;have HP2:=LH (hpm.trans HPe.out);have HB2:Hid (Below w.heap.size w w2):=LH (by
    have h1:=HB.out.1;refine ⟨hgr.os.trans h1.os,hgr.tape.trans h1.tape,hgr.output.trans h1.output,Nat.le_trans h1.size hgr.size,fun k hk=>(hgr.block k (Nat.lt_of_lt_of_le hk h1.size) (fun e=>?_)).trans (h1.block k hk)⟩;have:=HRow.out _ e.symm;rw [HRr.out] at this
    omega)
   have HRw:Hid (∀b,Qbc (.slice av l cv)=some b→w.heap.size≤b):=LH (fun b hb=>by have:=HRow.out b hb;rw [HRr.out] at this;omega);clear ho hso hpm hgr hlen;go_wp2_with fail;exact HP.out _ _ _ HO2.out HS2.out HP2.out HB2.out HRw.out
  ·intro x w2 cnt1 hx hr1 hlt hg1 hs1 hen;have HR1:=LH hr1;have HLt:=LH hlt;have HO1:Hid (Qcs w2 (.slice av l cv) dn):=LH (HO.out.keep (fun b hb=>hg1.block b (HO.out.lt b hb) (fun e=>by injection e with e;have:=HRow.out b hb;omega)));have HB1:Hid (Below w.heap.size w w2∧r+1≤w2.heap.size):=LH ⟨HB.out.1.trans ⟨hg1.os,hg1.tape,hg1.output,hg1.size,fun k hk=>hg1.block k (Nat.lt_of_lt_of_le hk HB.out.1.size) (fun e=>by injection e with e;rw [HRr.out] at e;omega)⟩,by rw [hs1];exact HB.out.2⟩;have HP1:Hid ((dn ++ [x] ++ left.erase x).Perm seen):=LH (by
    refine List.Perm.trans ?_ HPm.out;rw [List.append_assoc]
    exact List.Perm.append_left _ (List.perm_cons_erase hx).symm)
   have HO2:=LH (HO1.out.keep (fun b hb=>(Qaf w2 (.cells #[.int .i64 (x:Int)] 3)).block b (HO1.out.lt b hb)));have HC2:Hid (Qaq (w2.alloc (.cells #[.int .i64 (x:Int)] 3)) (some ⟨w2.heap.size,0,none⟩) ([x].map vi)):=LH (Qa6.cells ⟨_,heap_alloc_new _ _,[],rfl⟩);have HN1:Hid (dn.length+1≤1000000000000):=LH (by
    have h1:=HPm.out.length_eq;rw [List.length_append] at h1;have:=HL.out
    omega)
   have HSz2:Hid (r<w2.heap.size):=LH (by have:=HB1.out.2;omega);clear hx hr1 hlt hg1 hs1;go_wp2_with (refine Qbz (m:=1) HO2.out HC2.out rfl HN1.out rfl rfl rfl rfl ?_;intro v' w3 ho hg hr;have HO3:=LH ho;have HG3:=LH hg;have HR3:=LH hr;clear ho hg hr)
   go_roundw
   case rel =>
    have hg3:=HG3.out;refine ⟨dn ++ [x],left.erase x,cnt1,HO3,LH (fun b hb=>?_),LH ?_,HP1,LH ⟨?_,?_⟩⟩
    ·rcases HR3.out b hb with c | c
     ·exact HRow.out b c
     ·rw [c];simp;have:=HSz2.out;omega
    ·refine ((HR1.out.kept (World.grownBy_alloc w2 _ none) (by simp) (by simp)).kept hg3 ?_ ?_)
     ·intro e;have h1:=HRow.out _ e.symm;have h2:=HV.out.lt;rw [HRr.out] at h1;omega
     ·intro e;have h1:=HRow.out _ e.symm;omega
    ·have hba:=Qaf w2 (.cells #[.int .i64 (x:Int)] 3);have h1:=HB1.out.1.trans (hba.mono HB1.out.1.size);refine ⟨hg3.os.trans h1.os,hg3.tape.trans h1.tape,hg3.output.trans h1.output,Nat.le_trans h1.size hg3.size,fun k hk=>(hg3.block k (Nat.lt_of_lt_of_le hk h1.size) (fun e=>?_)).trans (h1.block k hk)⟩;have:=HRow.out _ e.symm;rw [HRr.out] at this;omega
    ·have h1:=hg3.size;have h2:=HB1.out.2;simp at h1
     omega
   case measure =>
    have hk:Qi8 Tryz.prog 3 w3 ms r n seen (left.erase x) cnt1:=by
     refine ((HR1.out.kept (World.grownBy_alloc w2 _ none) (by simp) (by simp)).kept HG3.out ?_ ?_)
     ·intro e;have h1:=HRow.out _ e.symm;have h2:=HV.out.lt;rw [HRr.out] at h1;omega
     ·intro e;have h1:=HRow.out _ e.symm;omega
    rw [hk.left_eq,HR.out.left_eq];exact HLt.out
def Qws (S : Dev) (L : List Hd) (fr : List Nat) (w : World) : Ending → World → Prop := fun e w' => Below w.heap.size w w' ∧
  ((Qmi (okN S L) (Qcn S) fr ∧ ∃ v ys, e = .returned (.tuple #[v, .int .i64 0]) ∧ Qcs w' v ys ∧ ys.Pairwise (· < ·) ∧ (∀ x, x ∈ ys ↔ Rch (okN S L) (Qcn S) fr x) ∧ (∀ b, Qbc v = some b → w.heap.size ≤ b)) ∨
   (¬ Qmi (okN S L) (Qcn S) fr ∧ e = .returned (.tuple #[.slice none 0 0, .int .i64 22])))
theorem Qi2 {ys:List Nat} (h:ys.Pairwise (·≤·)) (hn:ys.Nodup):ys.Pairwise (· < ·):=by
 have:=List.pairwise_and_iff.2 ⟨h,hn⟩;exact this.imp (fun ⟨h1,h2⟩=>Nat.lt_of_le_of_ne h1 h2)
theorem Qtc {w:World} {F:Qb0} {S:Dev} (h:Qa7 w F S) {a:Option Addr} {B cap:Nat} {L:List Hd} (hlen:L.length=B) (hc:Qaq w a (Qbt L)) (hB:B≤1000)
  (fa:Option Addr) (fl fc:Nat) (fr:List Nat) (hfl:fr.length=fl) (hfc:Qaq w fa (fr.map vi)) (hfs:fl≤1000) (hfb:∀x∈fr,x≤4611686018427387904) :
  Calls Tryz.prog 47 #[Qei F,Qgk (B:Int),.slice a B cap,.slice fa fl fc] w (Qws S L fr w):=by
 have HP:Hid (∀v ys w',Below w.heap.size w w'→Qmi (okN S L) (Qcn S) fr→Qcs w' v ys→ys.Pairwise (· < ·)→(∀x,x∈ys↔Rch (okN S L) (Qcn S) fr x)→(∀b,Qbc v=some b→w.heap.size≤b)→Qws S L fr w (.returned (.tuple #[v,.int .i64 0])) w'):=LH (fun v ys w' h1 h2 h3 h4 h5 h6=>⟨h1,.inl ⟨h2,v,ys,rfl,h3,h4,h5,h6⟩⟩);have HQ:Hid (∀w',Below w.heap.size w w'→¬Qmi (okN S L) (Qcn S) fr→Qws S L fr w (.returned (.tuple #[.slice none 0 0,.int .i64 22])) w'):=LH (fun w' h1 h2=>⟨h1,.inr ⟨h2,rfl⟩⟩);generalize Qws S L fr w=Post at *;have hb1:=Qaf w (.cells #[.int .i64 (B:Int)] 44);have c0:(w.alloc (.cells #[.int .i64 (B:Int)] 44)).cell? ⟨w.heap.size,0,none⟩=some (.int .i64 (B:Int)):=Qat _ _ _ 0 _ rfl;have HB1:=LH hb1;have h1:=h.below hb1;have hc1:=hc.below hb1 NR;have hf1:=hfc.below hb1 NR;generalize hw1:w.alloc (.cells #[.int .i64 (B:Int)] 44)=w1 at *;have HRoot:Hid (∀(T:TF) (w2:World) (n:Nat) (seen opn:List Nat) (bad:Bool) (v:Value),Qf4 w1 w2 F B a cap T n seen opn bad v→n≤1000000000→opn.length≤1000000000→∀x:Nat,x≤4611686018427387904→
   Calls Tryz.prog 94 #[.pointer (some ⟨T.g,0,none⟩),.int .i64 (x:Int)] w2 (Qgl S L w1 F B a cap T n seen opn bad v w2 x)):=LH (fun T w2 n seen opn bad v ht hn ho x hx=>Jbf h1 hlen hc1 hB ht hn ho x hx)
 have HRun:Hid (∀(T:TF) (w2:World) (m0:Nat),Qyu S L w1 F B a cap T fr w2 m0→Calls Tryz.prog 95 #[.pointer (some ⟨T.g,0,none⟩)] w2 (Qsk S L w1 F B a cap T fr)):=LH (fun T w2 m0 ht=>Jd4 h1 hlen hc1 hB ht);have HCf:=LH hf1;have HFl:=LH hfl;have HFb:=LH hfb;have HLn:=LH hlen;clear h hc hfc h1 hc1 hf1 hfl hfb hb1 hlen;go_enter Tryz.func47,Tryz.ntmps47;go_upto_region 1 with fail;clear hw1;obtain ⟨q,hq⟩:∃q,q=w.heap.size:=⟨_,rfl⟩
 rw [← hq] at c0 ⊢;clear hq;go_wp2_with fail;refine (Jco w1 F B a cap).mono ?_;rintro e w2 ⟨T,rfl,ht⟩;have HT:=LH ht;obtain ⟨g,hg⟩:∃g,g=T.g:=⟨_,rfl⟩
 have HG:=LH hg;rw [← hg];clear ht hg c0;go_wp2_with fail
 go_loopw [11,22] (fun fv iv wr=>∃(k:Nat) (seen opn:List Nat) (bad:Bool) (v:Value) (fe:Int),k≤fl∧fv=.int .i64 fe∧iv=.int .i64 (k:Int)∧Hid (Qf4 w1 wr F B a cap T k seen opn bad v)∧Hid (Trc (okN S L) (Qcn S) fr seen opn (fr.drop k) bad)∧Hid (fe≠0→bad=true)∧Hid (opn.length≤k)) (fun _ iv _=>fl-(RowKit.intOf iv).toNat)
 case atStart=>exact ⟨0,[],[],false,_,0,by omega,rfl,rfl,HT,LH (Trc.start _ _ _),LH (fun h=>absurd rfl h),LH (by simp)⟩
 case round =>
  obtain ⟨k,seen,opn,bad,v,fe,hk,rfl,rfl,HTr,HTc,HFe,HOl⟩:=hrel
  by_cases hlt:k<fl
  ·have hlt':(k:Int)<(fl:Int):=by omega
   obtain ⟨x,hx⟩:∃x,fr[k]?=some x:=⟨_,GE (by rw [HFl.out];exact hlt)⟩
   obtain ⟨b1,o1,q1,_,hcx⟩:=(HCf.out.below HTr.out.org NR).at (i:=k) (by rw [List.length_map,HFl.out];exact hlt);have cx:wr.cell? ⟨b1,o1+k,none⟩=some (.int .i64 (x:Int)):=hcx k (vi x) (by rw [List.getElem?_map,hx];rfl);have HXb:=LH (HFb.out x (List.mem_of_getElem? hx));have HDr:Hid (fr.drop k=x :: fr.drop (k+1)):=LH (by
    have hk2:k<fr.length:=by rw [HFl.out];exact hlt
    rw [List.drop_eq_getElem_cons hk2]
    congr 1
    rw [GE hk2] at hx
    injection hx)
   have HRx:=LH (HRoot.out T wr k seen opn bad v HTr.out (by omega) (by have:=HOl.out;omega) x HXb.out);rw [← HG.out] at HRx;subst q1;clear hcx hx;go_wp2_with fail;refine HRx.out.mono ?_;rintro e w5 ⟨seen2,opn2,bad2,v2,er,rfl,ht2,her,hbe,hbb,htc,hl1,hl2,hto,hro,hl3⟩;have HT2:=LH ht2;have HTc2:Hid (Trc (okN S L) (Qcn S) fr seen2 opn2 (fr.drop (k+1)) bad2):=LH (htc fr _ (by rw [← HDr.out];exact HTc.out));have HOl2:Hid (opn2.length≤k+1):=LH (by have:=HOl.out;omega);have HBb:=LH hbb;have HBe:=LH hbe;clear ht2 hbe hbb htc hl1 hl2 hto hro hl3 cx;rcases her with rfl | rfl
   ·go_wp2_with fail;exact ⟨⟨k+1,seen2,opn2,bad2,v2,fe,by omega,rfl,Qb2 (by omega),HT2,HTc2,LH (fun h=>HBb.out (HFe.out h)),HOl2⟩,by simp [RowKit.intOf];omega⟩
   ·go_wp2_with fail;exact ⟨⟨k+1,seen2,opn2,bad2,v2,22,by omega,rfl,Qb2 (by omega),HT2,HTc2,LH (fun _=>HBe.out (by decide)),HOl2⟩,by simp [RowKit.intOf];omega⟩
  ·have hltd:decide ((k:Int)<(fl:Int))=false:=by simp;omega
   have hke:k=fl:=by omega
   have HTc2:Hid (Trc (okN S L) (Qcn S) fr seen opn [] bad):=LH (by have:=HTc.out;rw [hke,← HFl.out,List.drop_length] at this;exact this);have HRx:=LH (HRun.out T wr ((512*B-seen.length)+opn.length) ⟨k,seen,opn,bad,v,HTr.out,HTc2.out,rfl,by have:=HOl.out;omega⟩);rw [← HG.out] at HRx;have HKeep:Hid (∀n seen' bad' v' w',Qf4 w1 w' F B a cap T n seen' [] bad' v'→Trc (okN S L) (Qcn S) fr seen' [] [] bad'→(fe≠0→bad'=true)):=LH (fun n seen' bad' v' w' _ h2 hf=>by
    have hb:=HFe.out hf
    cases hq:bad' with
    | true=>rfl
    | false =>
     have hok:=h2.verdict.1 hq;obtain ⟨z,z1,z2,z3⟩:=HTc2.out.dirty hb
     exact absurd (hok z z1 (z3.elim .inl (fun ⟨y,hy,hm⟩=>.inr ⟨y,HTc2.out.in_ y hy,hm⟩))) z2)
   clear hke HTc HFe HTc2 HTr;go_wp2_with fail;refine HRx.out.mono ?_;rintro e w5 ⟨n5,seen5,bad5,v5,rfl,ht5,hc5⟩;have HT5:=LH ht5;have HC5:=LH hc5;have hfe:=HKeep.out _ _ _ _ _ ht5 hc5;have HB5:Hid (Below w.heap.size w w5):=LH (HB1.out.trans (ht5.org.mono HB1.out.size));clear ht5 hc5
   cases bad5 with
   | true =>
    rw [if_pos rfl];clear hfe;go_wp2_with fail;exact HQ.out _ HB5.out (fun h=>by have:=HC5.out.verdict.2 h;cases this)
   | false =>
    rw [if_neg (by simp)];have hf0:fe=0:=by
     by_cases c:fe=0
     ·exact c
     ·have:=hfe c;cases this
    subst hf0;have hnd:=HC5.out.nd;have hln:=HC5.out.len;rw [HLn.out] at hln;have HSe:=LH (Jb1 HT5.out hnd (by omega));rw [← HG.out] at HSe;clear hfe hnd hln;go_wp2_with fail;refine HSe.out.mono ?_;rintro e w6 ⟨v6,ys,rfl,ho6,hso,hpm,hb6,hrw⟩;have HO6:=LH ho6;have HS6:=LH (Qi2 hso (hpm.nodup_iff.2 HC5.out.nd));have HM6:Hid (∀x,x∈ys↔Rch (okN S L) (Qcn S) fr x):=LH (fun x=>by rw [hpm.mem_iff];exact HC5.out.done x);have HR6:Hid (∀b,Qbc v6=some b→w.heap.size≤b):=LH (fun b hb=>Nat.le_trans HB5.out.size (hrw b hb));have HB6:Hid (Below w.heap.size w w6):=LH (HB5.out.trans (hb6.mono HB5.out.size));clear ho6 hso hpm hb6 hrw;go_wp2_with fail;exact HP.out _ _ _ HB6.out (HC5.out.verdict.1 rfl) HO6.out HS6.out HM6.out HR6.out
end
section
theorem Qre {P : Program} (w : World) (dT sT ty elem : TypeId) (g o dLen dCap : Nat) (a : Addr) (sLen sCap size : Nat) (cur : Array Value) (t : TypeId) (cs : List Value)
  (hu : P.underlying dT = some (.slice elem)) (hs : (P.info? elem).map (·.size) = some size)
  (hg : w.heap[g]? = some (.cells cur t (0, 0))) (hn : cs.length = Nat.min sLen dLen * size)
  (hsrc : ∀ j v, cs[j]? = some v → w.cell? (a.add j) = some v) (hfit : o + cs.length ≤ cur.size) (h1 : ∀ v ∈ cs, v.oneCell' = true) :
  (Builtin.copy_ #[dT, sT] ty #[.slice (some ⟨g, o, none⟩) dLen dCap, .slice (some a) sLen sCap]).run P w =
   .ok (goInt (Nat.min sLen dLen : Nat)) (w.setRow g (cur.toList.take o ++ cs ++ cur.toList.drop (o + cs.length)).toArray) := by
 have hl := run_loadCells_list (P := P) w a cs hsrc;have hst := run_storeCells_at P g o t cs 0 cur w hg (by simpa using hfit) h1
 cases hq : P.info? elem with
 | none => simp [hq] at hs
 | some i =>
  have hi : i.size = size := by simpa [hq] using hs
  simp [Builtin.copy_, run_underlying hu, Builtin.lenOf, Builtin.firstCells, sizeOf, typeInfo, hq, hi, ← hn, hl, hst]
theorem Qfa {P:Program} {w:World} {ops:Array Oper} {rest:List Oper} {o:Oper} {a:Act} {Q:Exit→Act→World→Prop} (hgd:o.guard=none) {d s:Operand} {dT sT:TypeId}
  (ho:o.op=.call { callee:=.builtin .copy,args:=#[d,s],argTypes:=#[dT,sT] }) {elem:TypeId} {size:Nat} (hu:P.underlying dT=some (.slice elem)) (hsz:(P.info? elem).map (·.size)=some size)
  {g off dLen dCap g2 off2 sLen sCap:Nat} (hd:a.eval d=.slice (some ⟨g,off,none⟩) dLen dCap) (hs:a.eval s=.slice (some ⟨g2,off2,none⟩) sLen sCap)
  {t:TypeId} {vs:List Value} (hr:Qa6 w g t vs) (cs:List Value) (hn:cs.length=Nat.min sLen dLen*size) (hsrc:∀j v,cs[j]?=some v→w.cell? ⟨g2,off2+j,none⟩=some v)
  (hfit:off+cs.length≤vs.length) (h1:∀v∈cs,v.oneCell'=true)
  (h:∀w',Qa6 w' g t (splice vs off cs)→Qam [g] w w'→wpList P ops Q rest (a.put o.dst (goInt (Nat.min sLen dLen:Nat))) w'):wpList P ops Q (o :: rest) a w:=by
 obtain ⟨xs,hg,more,hx⟩:=hr;have hsz2:xs.size=vs.length+more.length:=by rw [← Array.length_toList,hx,List.length_append]
 have hrun:=Qre (P:=P) w dT sT o.type elem g off dLen dCap ⟨g2,off2,none⟩ sLen sCap size xs t cs hu hsz hg hn (fun j v hj=>by
  have e:(⟨g2,off2,none⟩:Addr).add j=⟨g2,off2+j,none⟩:=by unfold Addr.add;split <;> simp_all
  rw [e];exact hsrc j v hj) (by omega) h1
 refine wpList_plain hgd fun K hK'=>?_
 unfold Oper.wp;simp [execOp,ho,resolve,invoke,builtin,hd,hs,hrun,Result.andThen]
 refine hK' _ _ (h _ ⟨_,setRow_heap w g xs _ t _ hg,more,?_⟩ ⟨rfl,rfl,rfl,by simp [World.setRow],fun k _ hk=>setRow_other w g k _ (fun e=>hk (by simp [e]))⟩);rw [hx,splice];simp only [List.append_assoc]
 rw [List.take_append_of_le_length (by omega),List.drop_append_of_le_length (by omega)]
theorem Qa6.below {w w':World} {g e:Nat} {vs:List Value} (h:Qa6 w g e vs) (hb:Below w.heap.size w w'):Qa6 w' g e vs:=h.keep (hb.block _ h.lt)
theorem Qhg {α:Type} (l s:List α) (o:Nat) (h:o+s.length≤l.length):(splice l o s).length=l.length:=by
 unfold splice;simp only [List.length_append,List.length_take,List.length_drop]
 omega
section
variable {P:Program} {C:World→Prop} {ops:Array Oper} {rest:List Oper} {o:Oper} {a:Act} {Q:Act→Prop}
theorem Qg3 {x lo hi:Operand} {t e:TypeId} {z:Value} {size bytes:Nat} (E:Qgg P t e z size bytes) {ad:Option Addr} {n cap:Nat} {k k2:IntKind} {L H:Int} (l h:Nat)
  (hL:L=(l:Int)) (hH:H=(h:Int)) (hl:l≤h) (hh:h≤n) (hn:n≤cap)
  (hgd:o.guard=none) (ho:o.op=.slice t x (some lo) (some hi) none) (hx:a.eval x=.slice ad n cap) (hlo:a.eval lo=.int k L) (hhi:a.eval hi=.int k2 H)
  (hK:wpQuiet P ops C Q rest (a.put o.dst (.slice (if cap=l then ad else ad.map (·.add (l*size))) (h-l) (cap-l)))) :
  wpQuiet P ops C Q (o :: rest) a:=by
 subst hL;subst hH;have hw:Region.wanted o (yielded ops a.tmps)=true:=by simp [Region.wanted,hgd]
 unfold wpQuiet;rw [if_pos hw];refine ⟨_,fun w hC=>?_,hK⟩;have hr:=Qfd (w:=w) E ad n cap l h (some (.int k l)) (some (.int k2 h)) (by
  have h1:(0:Int)≤(l:Int)∧(l:Int)≤(h:Int):=by omega
  have h2:(0:Int)≤(h:Int)∧(h:Int)≤(cap:Int):=by omega
  simp [Instr.sliceBounds,Instr.sliceBound,asIntOf,hl,Nat.le_trans hh hn])
 unfold Oper.quietAt;simp only [execOp,ho,hx,hlo,hhi,Option.map_some]
 simp [hr,Result.andThen,Oper.quietUpon]
end
def Qfq (L:List Hd) (b:Nat):Nat:=max 1 (Qa4 L b)
def Qha (L out:List Hd) (x:Nat):List Hd:=if x<512∨512*L.length≤x then out else splice out (x/512) ((L.drop (x/512)).take (Qfq L (x/512)))
def Qa2 (L:List Hd) (live:List Nat):List Hd:=live.foldl (Qha L) (List.replicate L.length default)
theorem Qgu {L:List Hd} {b:Nat} (hb:b<L.length):1≤Qfq L b∧b+Qfq L b≤L.length:=by
 unfold Qfq
 by_cases h:Qa4 L b=0
 ·rw [h];simp;omega
 ·have:=(Qdt h).2.2.2.1;omega
theorem Qsf (L out:List Hd) (x:Nat) (h:out.length=L.length):(Qha L out x).length=L.length:=by
 unfold Qha
 split
 ·exact h
 ·have hb:x/512<L.length:=by omega
  have:=Qgu hb;rw [Qhg _ _ _ (by rw [List.length_take,List.length_drop];omega),h]
theorem Qdf (L:List Hd) (live:List Nat):(Qa2 L live).length=L.length:=by
 unfold Qa2;have:∀(l:List Nat) (out:List Hd),out.length=L.length→(l.foldl (Qha L) out).length=L.length:=by
  intro l
  induction l with
  | nil=>intro out h;exact h
  | cons x l ih=>intro out h;exact ih _ (Qsf L out x h)
 exact this live _ (by simp)
theorem Qpd (L:List Hd) (l:List Nat) (x:Nat):Qa2 L (l ++ [x])=Qha L (Qa2 L l) x:=by unfold Qa2;rw [List.foldl_append];rfl
theorem Qn2 (out s:List Hd) (b:Nat):Qbt (splice out b s)=splice (Qbt out) (b*3) (Qbt s):=by
 unfold splice;rw [Qcv,Qcv];have ht:∀(l:List Hd) (n:Nat),Qbt (l.take n)=(Qbt l).take (n*3):=by
  intro l
  induction l with
  | nil=>intro n;simp [Qbt]
  | cons x l ih =>
   intro n
   cases n with
   | zero=>simp [Qbt]
   | succ n =>
    rw [List.take_succ_cons];show x.cs ++ Qbt (l.take n)=(x.cs ++ Qbt l).take ((n+1)*3);rw [ih,show (n+1)*3=x.cs.length+n*3 by show _=3+n*3;omega,List.take_length_add_append]
 have hd:∀(l:List Hd) (n:Nat),Qbt (l.drop n)=(Qbt l).drop (n*3):=by
  intro l
  induction l with
  | nil=>intro n;simp [Qbt]
  | cons x l ih =>
   intro n
   cases n with
   | zero=>simp
   | succ n =>
    rw [List.drop_succ_cons];show Qbt (l.drop n)=(x.cs ++ Qbt l).drop ((n+1)*3);rw [ih,show (n+1)*3=x.cs.length+n*3 by show _=3+n*3;omega,List.drop_length_add_append]
 rw [ht,hd,Qca]
 congr 3
 omega
def Qqz (L:List Hd) (xs:List Nat) (w:World):Ending→World→Prop:=fun e w'=>∃g c,e=.returned (.slice (some ⟨g,0,none⟩) L.length c)∧w.heap.size≤g∧L.length≤c∧Qa6 w' g 107 (Qbt (Qa2 L xs))∧Below w.heap.size w w'
theorem Jem {w:World} {B lg lc:Nat} {L:List Hd} (hlen:L.length=B) (hB1:1≤B) (hB:B≤1000) (hr:Qa6 w lg 107 (Qbt L)) (hlc:B≤lc)
  (va:Option Addr) (vl vc:Nat) (xs:List Nat) (hvl:xs.length=vl) (hv:Qaq w va (xs.map vi)) (hvs:vl≤1000000) (hxb:∀x∈xs,x≤4611686018427387904) :
  Calls Tryz.prog 68 #[Qgk (B:Int),.slice (some ⟨lg,0,none⟩) B lc,.slice va vl vc] w (Qqz L xs w):=by
 have HP:Hid (∀g c w',w.heap.size≤g→B≤c→Qa6 w' g 107 (Qbt (Qa2 L xs))→Below w.heap.size w w'→Qqz L xs w (.returned (.slice (some ⟨g,0,none⟩) B c)) w'):=LH (fun g c w' h1 h2 h3 h4=>⟨g,c,by rw [hlen],h1,by rw [hlen];exact h2,h3,h4⟩);generalize Qqz L xs w=Post at *;have HM:=LH (Mem.one w #[.int .i64 (B:Int)] 44);have HLn:=LH hlen;have HL:=LH hr;have HV:=LH hv;have HVl:=LH hvl;have HXb:=LH hxb;have HRep:Hid (List.replicate (B*3) (Value.int .i64 0)=Qbt (Qa2 L [])):=LH (by
  show _=Qbt (List.replicate L.length default);rw [hlen];clear hlen HP HLn HL HM hr hlc hB hB1
  induction B with
  | zero=>rfl
  | succ n ih=>rw [Nat.succ_mul,← List.replicate_append_replicate (n:=n*3),List.replicate_succ' (n:=n) (a:=(default:Hd)),Qcv,← ih];rfl)
 clear hlen hr hv hvl hxb;go_enter Tryz.func68,Tryz.ntmps68;go_upto_region 1 with fail;obtain ⟨q,hq⟩:∃q,q=w.heap.size:=⟨_,rfl⟩
 rw [← hq] at HM ⊢;generalize w.alloc _=w1 at *;have HQ:=LH hq;clear hq;have HM1:Hid (Mem w w1 [⟨q,44,[.int .i64 (B:Int)],true⟩]):=LH (by simpa using HM.out);clear HM;go_wp2_with (at_make;refine Qec Jho w1.heap.size B (z:=.int .i64 0) (by intro i hi;simp at hi;rcases i with _ | _ | _ | i <;> first | rfl | omega) (by omega) (by omega) (by omega) (by decide) NR rfl rfl rfl rfl ?_;intro w2 hown hgrow;have HOw:=LH hown;have HGr:=LH hgrow;clear hown hgrow)
 have HM2:Hid (Mem w w2 [⟨q,44,[.int .i64 (B:Int)],true⟩,⟨w1.heap.size,107,Qbt (Qa2 L (xs.take 0)),false⟩]):=LH (by
  rw [List.take_zero,← HRep.out];obtain ⟨g',cap',cur,hv',_,hg',_,_,_,ht'⟩:=HOw.out.2.resolve_left (fun ⟨h,_⟩=>by cases h);injection hv' with e1 e2 e3
  injection e1 with e1
  injection e1 with e1 _ _
  subst e1;exact HM1.out.row (Qbq HGr.out NR) ⟨cur,hg',cur.toList.drop (B*3),by
   have:cur.toList.take (B*3)=List.replicate (B*3) (Value.int .i64 0):=ht'
   rw [← this,List.take_append_drop]⟩ NR)
 obtain ⟨g,hg⟩:∃g,g=w1.heap.size:=⟨_,rfl⟩
 rw [← hg] at HM2 ⊢;clear hg HOw HGr HM1
 go_loopw [19] (fun iv wr=>∃k:Nat,k≤vl∧iv=.int .i64 (k:Int)∧Hid (Mem w wr [⟨q,44,[.int .i64 (B:Int)],true⟩,⟨g,107,Qbt (Qa2 L (xs.take k)),false⟩])) (fun iv _=>vl-(intOf iv).toNat)
 case atStart=>exact ⟨0,by omega,rfl,HM2⟩
 case round =>
  obtain ⟨k,hk,rfl,HMr⟩:=hrel
  by_cases hlt:k<vl
  case neg =>
   have hltd:decide ((k:Int)<(vl:Int))=false:=by simp;omega
   have hke:k=vl:=by omega
   have HRow:Hid (Qa6 wr g 107 (Qbt (Qa2 L xs))):=LH (by
    have:=HMr.out.at 1 rfl;rw [hke,← HVl.out,List.take_length] at this
    exact this)
   have hgb:=HMr.out.gbase 1 rfl;have HGb:=LH hgb;clear hke hgb;go_wp2_with fail;exact HP.out _ _ _ HGb.out NR HRow.out HMr.out.below
  have hlt':(k:Int)<(vl:Int):=by omega
  obtain ⟨x,hx⟩:∃x,xs[k]?=some x:=⟨_,GE (by rw [HVl.out];exact hlt)⟩
  obtain ⟨b1,o1,q1,_,hcx⟩:=(HV.out.below HMr.out.below NR).at (i:=k) (by rw [List.length_map,HVl.out];exact hlt);have cx:wr.cell? ⟨b1,o1+k,none⟩=some (.int .i64 (x:Int)):=hcx k (vi x) (by rw [List.getElem?_map,hx];rfl);have HTk:Hid (Qa2 L (xs.take (k+1))=Qha L (Qa2 L (xs.take k)) x):=LH (by
   have h1:=(List.getElem?_eq_some_iff.1 hx).1
   rw [List.take_succ_eq_append_getElem h1,(List.getElem?_eq_some_iff.1 hx).2,Qpd])
  have HXx:=LH (HXb.out x (List.mem_of_getElem? hx));have c0:=HMr.out.cell 0 0 rfl rfl;subst q1;clear hcx hx
  by_cases hin:x<512∨512*B≤x
  ·have HSame:Hid (Mem w wr [⟨q,44,[.int .i64 (B:Int)],true⟩,⟨g,107,Qbt (Qa2 L (xs.take (k+1))),false⟩]):=LH (by
    rw [HTk.out];unfold Qha;rw [if_pos (by rw [HLn.out];exact hin)]
    exact HMr.out)
   have hbb:Qc6 (B:Int) (x:Int)<1:=by unfold Qc6;split <;> omega
   have HBk:=LH (Qe6 B hB (x:Int) wr);generalize Qc6 (B:Int) (x:Int)=bb at *;clear hin;go_wp2_with fail;refine HBk.out.mono ?_;rintro e w3 ⟨rfl,hb3⟩;have HM3:=LH (HSame.out.later hb3);clear hb3 c0 cx;go_wp2_with fail;exact ⟨⟨k+1,by omega,Qb2 (by omega),HM3⟩,by simp [intOf];omega⟩
  have h1:512≤x:=by omega
  have h2:x<512*B:=by omega
  have hbo:Qc6 (B:Int) (x:Int)=((x/512:Nat):Int):=by unfold Qc6;rw [if_neg (by omega)];omega
  have HBk:=LH (Qe6 B hB (x:Int) wr);rw [hbo] at HBk;have HK1:Hid (Qha L (Qa2 L (xs.take k)) x=splice (Qa2 L (xs.take k)) (x/512) ((L.drop (x/512)).take (Qfq L (x/512)))):=LH (by unfold Qha;rw [if_neg (by rw [HLn.out];exact hin)]);obtain ⟨b,hb⟩:∃b,b=x/512:=⟨_,rfl⟩
  rw [← hb] at HBk HK1;have hb1:1≤b:=by omega
  have hb2:b<B:=by omega
  clear hin hbo hb h1 h2;have hfit:=Qgu (L:=L) (b:=b) (by rw [HLn.out];exact hb2);rw [HLn.out] at hfit;have hkn:Qfq L b=max 1 (Qa4 L b):=rfl;obtain ⟨m,hm⟩:∃m,m=Qa4 L b:=⟨_,rfl⟩
  obtain ⟨n,hn⟩:∃n,n=Qfq L b:=⟨_,rfl⟩
  rw [← hm,← hn] at hkn;rw [← hn] at hfit HK1;go_wp2_with fail;refine HBk.out.mono ?_;rintro e w3 ⟨rfl,hb3⟩;have HM3:=LH (HMr.out.later hb3);clear hb3 c0 cx HMr;go_wp2_with fail;refine (Qlf (some ⟨lg,0,none⟩) B lc L HLn.out w3 ((HL.out.below HM3.out.below).cells) hB b hb2).mono ?_;rintro e w4 ⟨rfl,hb4⟩;have HM4:=LH (HM3.out.later hb4);rw [← hm];obtain ⟨okk,hok⟩:∃o,o=decide (m≠0):=⟨_,rfl⟩
  rw [← hok];have HOk:=LH hok;clear hb4 hm hn HM3 hok
  go_upto_if 40 with fail
  go_cut [11] from 57 (fun nv wc=>nv=.int .i64 (n:Int)∧wc=w4)
  case first =>
   cases okk with
   | false =>
    have hm0:m=0:=by have:=HOk.out;simpa using this
    have hn1:n=1:=by omega
    subst hn1;go_wp2_with fail
    go_meet
    exact ⟨rfl,rfl⟩
   | true =>
    have hm0:¬m=0:=by have:=HOk.out;simpa using this
    have hn1:n=m:=by omega
    subst hn1;go_wp2_with fail
    go_meet
    exact ⟨rfl,rfl⟩
  case rest =>
   obtain ⟨rfl,rfl⟩:=hcut;have HKn:Hid (n=max 1 m):=LH hkn;obtain ⟨hf1,hf2⟩:=hfit;have hsum:(b:Int)+(n:Int)=((b+n:Nat):Int):=by omega
   obtain ⟨e9,he9⟩:∃e,e=b+n:=⟨_,rfl⟩
   rw [← he9] at hsum hf2;have hbe:b≤e9:=by omega
   have hBb:¬B=b:=by omega
   have hLb:¬lc=b:=by omega
   have HE9:Hid (e9-b=n):=LH (by omega);clear hkn he9;go_upto_region 11 with fail;refine Qai (C:=fun w'=>∃x:Qbi (wc),w'=x.val) [.fl [0,1,2,3,4,5,6,7,8,9,10,11],.sq [12] false] (by kernel_rfl) (by kernel_rfl) (by intro c a d v w h;cases d <;> exact h) ?_;simp only [Qdj,Qa3,List.getElem?_cons_succ,List.getElem?_cons_zero]
   have hC1:=Qaj (wc);have HAg:Hid ((⟨g,0,none⟩:Addr).add (b*3)=⟨g,b*3,none⟩):=LH (by
    unfold Addr.add
    split
    ·exfalso;omega
    ·simp)
   have HAl:Hid ((⟨lg,0,none⟩:Addr).add (b*3)=⟨lg,b*3,none⟩):=LH (by
    unfold Addr.add
    split
    ·exfalso;omega
    ·simp)
   refine Qak hC1 ?_
   repeat (first
    | (refine Qg3 Jho b e9 rfl rfl hbe hf2 NR rfl rfl rfl rfl rfl ?_;rw [if_neg hBb,Option.map_some,HAg.out,HE9.out])
    | (refine Qg3 Jho b e9 rfl rfl hbe hf2 hlc rfl rfl rfl rfl rfl ?_;rw [if_neg hLb,Option.map_some,HAl.out,HE9.out])
    | go_big_quiet_step (fail) | quiet_step (fail))
   refine wpQuiet_nil ?_;have HM5:=LH (HM4.out.later (Qae hC1));generalize wc.drew=wd at *;clear hC1 HM4;have HSeg:Hid ((Qbt ((L.drop b).take n)).length=Nat.min n n*3):=LH (by
    rw [Qca,List.length_take,List.length_drop,HLn.out,show Nat.min n n=n from Nat.min_self n]
    omega)
   have HSrc:Hid (∀j v,(Qbt ((L.drop b).take n))[j]?=some v→wd.cell? ⟨lg,b*3+j,none⟩=some v):=LH (fun j v hj=>by
    have hrow:Qa6 wd lg 107 (Qbt L):=HL.out.below HM5.out.below;refine hrow.cell ?_;have hdt:Qbt L=Qbt (L.take b) ++ (Qbt ((L.drop b).take n) ++ Qbt ((L.drop b).drop n)):=by
     rw [← Qcv,List.take_append_drop,← Qcv,List.take_append_drop]
    have hlt3:(Qbt (L.take b)).length=b*3:=by rw [Qca,List.length_take,HLn.out];omega
    rw [hdt,List.getElem?_append_right (by omega),hlt3,show b*3+j-b*3=j by omega,List.getElem?_append_left (List.getElem?_eq_some_iff.1 hj).1]
    exact hj)
   have HFit:Hid (b*3+(Qbt ((L.drop b).take n)).length≤(Qbt (Qa2 L (xs.take k))).length):=LH (by
    rw [Qca,Qca,Qdf,HLn.out,List.length_take,List.length_drop,HLn.out]
    omega)
   refine Qal ?_;go_wp2_with (refine Qfa rfl rfl (Tryz.underlying22) (size:=3) (by kernel_rfl) rfl rfl (HM5.out.at 1 rfl) (Qbt ((L.drop b).take n)) HSeg.out HSrc.out HFit.out (Qv3 _) ?_;intro w6 h6 ht6;have H6:=LH h6;have HT6:=LH ht6;clear h6 ht6)
   have HNew:Hid (Mem w w6 [⟨q,44,[.int .i64 (B:Int)],true⟩,⟨g,107,Qbt (Qa2 L (xs.take (k+1))),false⟩]):=LH (by
    have:=HM5.out.upd 1 (y:=⟨g,107,Qbt (Qa2 L (xs.take (k+1))),false⟩) rfl rfl HT6.out (by
     rw [HTk.out,HK1.out,Qn2]
     exact Qmk.of H6.out)
    exact this)
   exact ⟨⟨k+1,by omega,Qb2 (by omega),HNew⟩,by simp [intOf];omega⟩
def Qgb (ws:List Nat):Value:=.agg (ws.map Qad).toArray
def Qd4:Nat:=8390047168116913201
def Qjv (n id:Nat):List Nat:=[Qd4,1,n,id,0,0,0]
def Qgn (n id:Nat):List Nat:=[Qd4,1,n,id,0,0,0,Qbj (Qjv n id)]
theorem Jf5:Agg Tryz.prog 101 #[.int .u64 0,.int .u64 0,.int .u64 0,.int .u64 0,.int .u64 0,.int .u64 0,.int .u64 0,.int .u64 0]:=⟨⟨_,Tryz.underlying101,rfl⟩,by kernel_rfl⟩
theorem Qj2 {w:World} {g e:Nat} {xs ys:List Value} (h:Qa6 w g e (xs ++ ys)):Qaq w (some ⟨g,0,none⟩) xs :=
 .inr ⟨g,0,rfl,fun i v hi=>by
  rw [Nat.zero_add]
  exact h.cell (by rw [List.getElem?_append_left (List.getElem?_eq_some_iff.1 hi).1];exact hi)⟩
theorem Jaj {n id:Nat} (hn:n<18446744073709551616) (hid:id<18446744073709551616):∀z∈Qjv n id,z<18446744073709551616:=by
 intro z hz;unfold Qjv Qd4 at hz;simp only [List.mem_cons,List.not_mem_nil,or_false] at hz
 omega
def Qjg (n id:Nat) (w:World):Ending→World→Prop:=fun e w'=>e=.returned (Qgb (Qgn n id))∧Below w.heap.size w w'
theorem Qoh (n id:Nat) (hn:n≤4000000000000000000) (hid:id<18446744073709551616) (w:World) :
  Calls Tryz.prog 108 #[.agg #[.int .i64 (n:Int),Qad id]] w (Qjg n id w):=by
 have HP:Hid (∀w',Below w.heap.size w w'→Qjg n id w (.returned (.agg ((Qgn n id).map Qad).toArray)) w'):=LH (fun w' h=>⟨rfl,h⟩);generalize Qjg n id w=Post at *;have HM:=LH (((Mem.one w #[.int .i64 (n:Int),Qad id] 42).alloc #[.int .u64 0,.int .u64 0,.int .u64 0,.int .u64 0,.int .u64 0,.int .u64 0,.int .u64 0,.int .u64 0] 101).alloc #[Qad Qd4,Qad 1,Qad n,Qad id,Qad 0,Qad 0,Qad 0,Qad 0] 101);have d0:=(Mem.two w #[.int .i64 (n:Int),Qad id] 42 #[.int .u64 0,.int .u64 0,.int .u64 0,.int .u64 0,.int .u64 0,.int .u64 0,.int .u64 0,.int .u64 0] 101).cell 0 0 rfl rfl;have d1:=(Mem.two w #[.int .i64 (n:Int),Qad id] 42 #[.int .u64 0,.int .u64 0,.int .u64 0,.int .u64 0,.int .u64 0,.int .u64 0,.int .u64 0,.int .u64 0] 101).cell 0 1 rfl rfl;go_enter Tryz.func108,Tryz.ntmps108;go_upto_region 2 with fail;clear d0 d1;obtain ⟨q1,hq1⟩:∃q,q=w.heap.size:=⟨_,rfl⟩
 obtain ⟨q2,hq2⟩:∃q,q=w.heap.size+1:=⟨_,rfl⟩
 obtain ⟨q3,hq3⟩:∃q,q=w.heap.size+1+1:=⟨_,rfl⟩
 have HM0:Hid (Mem w (((w.alloc (.cells #[.int .i64 (n:Int),Qad id] 42)).alloc (.cells #[.int .u64 0,.int .u64 0,.int .u64 0,.int .u64 0,.int .u64 0,.int .u64 0,.int .u64 0,.int .u64 0] 101)).alloc (.cells #[.int .u64 8390047168116913201,.int .u64 1,.int .u64 (n:Int),.int .u64 (id:Int),.int .u64 0,.int .u64 0,.int .u64 0,.int .u64 0] 101)) [⟨q1,42,[.int .i64 (n:Int),Qad id],true⟩,⟨q2,101,(List.replicate 8 0).map Qad,true⟩,⟨q3,101,(Qjv n id).map Qad ++ [Qad 0],true⟩]):=LH (by
  have:=HM.out;simp only [World.size_alloc] at this
  rw [hq1,hq2,hq3]
  exact this)
 rw [← hq3,← hq2,← hq1];obtain ⟨w1,hw1⟩:∃w1,w1=(((w.alloc (.cells #[.int .i64 (n:Int),Qad id] 42)).alloc (.cells #[.int .u64 0,.int .u64 0,.int .u64 0,.int .u64 0,.int .u64 0,.int .u64 0,.int .u64 0,.int .u64 0] 101)).alloc (.cells #[.int .u64 8390047168116913201,.int .u64 1,.int .u64 (n:Int),.int .u64 (id:Int),.int .u64 0,.int .u64 0,.int .u64 0,.int .u64 0] 101)):=⟨_,rfl⟩
 rw [← hw1] at HM0 ⊢;clear hq1 hq2 hq3 HM hw1;go_wp2_with fail;refine (Qdn (some ⟨q3,0,none⟩) 8 (Qjv n id) rfl w1 (Qj2 (HM0.out.at 2 rfl)) (Jaj (by omega) hid) (by simp [Qjv])).mono ?_;rintro e w2 ⟨rfl,hb2⟩;have HM2:=LH (HM0.out.later hb2);have hlt:=Qb6 (Qjv n id);have HS:Hid (Qgn n id=Qjv n id ++ [Qbj (Qjv n id)]):=LH rfl;generalize Qbj (Qjv n id)=cr at *;have c7:w2.cell? ⟨q3,7,none⟩=some (Qad 0):=HM2.out.cell 2 7 rfl rfl;have f7:=HM2.out.frozen 2 7 rfl;have HM3:Hid (Mem w (w2.setCell ⟨q3,7,none⟩ (.int .u64 (cr:Int))) [⟨q1,42,[.int .i64 (n:Int),Qad id],true⟩,⟨q2,101,(List.replicate 8 0).map Qad,true⟩,⟨q3,101,(Qgn n id).map Qad,true⟩]):=LH (by
  have:=HM2.out.set 2 7 (.int .u64 (cr:Int)) rfl (by simp [Qjv]);rw [HS.out]
  exact this)
 clear hb2 HM0;go_upto_region 3 with fail;generalize w2.setCell _ _=w3 at *;clear c7 f7 HM2;go_wp2_with (first
  | (refine Qag Jf5 HM3.out 2 rfl rfl rfl rfl rfl ?_)
  | (refine Qaa Jf5 HM3.out 1 rfl rfl rfl rfl rfl rfl rfl rfl ?_;intro w6 h6 ht6;have H6:=LH h6;clear h6 ht6))
 exact bodyPost_ret (results_cell_row (p:=2) rfl _ _ _ _ _ _ _ rfl (H6.out.exact 1 rfl) Tryz.underlying101 rfl (by kernel_rfl)) rfl (HP.out _ H6.out.below)
theorem Qlv (n id:Nat) (hn:n≤4000000000000000000) (hid:id<18446744073709551616) (w:World) :
  Calls Tryz.prog 35 #[.int .i64 (n:Int),Qad id] w (Qjg n id w):=by
 have HP:Hid (∀w',Below w.heap.size w w'→Qjg n id w (.returned (.agg ((Qgn n id).map Qad).toArray)) w'):=LH (fun w' h=>⟨rfl,h⟩);generalize Qjg n id w=Post at *;have HM:=LH (Mem.two w #[.int .u64 0,.int .u64 0,.int .u64 0,.int .u64 0,.int .u64 0,.int .u64 0,.int .u64 0,.int .u64 0] 101 #[Qad Qd4,Qad 1,Qad n,Qad id,Qad 0,Qad 0,Qad 0,Qad 0] 101);go_enter Tryz.func35,Tryz.ntmps35;go_upto_region 2 with fail;obtain ⟨q2,hq2⟩:∃q,q=w.heap.size:=⟨_,rfl⟩
 obtain ⟨q3,hq3⟩:∃q,q=w.heap.size+1:=⟨_,rfl⟩
 have HM0:Hid (Mem w ((w.alloc (.cells #[.int .u64 0,.int .u64 0,.int .u64 0,.int .u64 0,.int .u64 0,.int .u64 0,.int .u64 0,.int .u64 0] 101)).alloc (.cells #[.int .u64 8390047168116913201,.int .u64 1,.int .u64 (n:Int),.int .u64 (id:Int),.int .u64 0,.int .u64 0,.int .u64 0,.int .u64 0] 101)) [⟨q2,101,(List.replicate 8 0).map Qad,true⟩,⟨q3,101,(Qjv n id).map Qad ++ [Qad 0],true⟩]):=LH (by
  rw [hq2,hq3]
  exact HM.out)
 rw [← hq3,← hq2];obtain ⟨w1,hw1⟩:∃w1,w1=((w.alloc (.cells #[.int .u64 0,.int .u64 0,.int .u64 0,.int .u64 0,.int .u64 0,.int .u64 0,.int .u64 0,.int .u64 0] 101)).alloc (.cells #[.int .u64 8390047168116913201,.int .u64 1,.int .u64 (n:Int),.int .u64 (id:Int),.int .u64 0,.int .u64 0,.int .u64 0,.int .u64 0] 101)):=⟨_,rfl⟩
 rw [← hw1] at HM0 ⊢;clear hq2 hq3 HM hw1;go_wp2_with fail;refine (Qdz (some ⟨q3,0,none⟩) 8 (Qjv n id) rfl w1 (Qj2 (HM0.out.at 1 rfl)) (Jaj (by omega) hid) (by simp [Qjv])).mono ?_;rintro e w2 ⟨rfl,hb2⟩;have HM2:=LH (HM0.out.later hb2);have hlt:=Qb6 (Qjv n id);have HS:Hid (Qgn n id=Qjv n id ++ [Qbj (Qjv n id)]):=LH rfl;generalize Qbj (Qjv n id)=cr at *;have c7:w2.cell? ⟨q3,7,none⟩=some (Qad 0):=HM2.out.cell 1 7 rfl rfl;have f7:=HM2.out.frozen 1 7 rfl;have HM3:Hid (Mem w (w2.setCell ⟨q3,7,none⟩ (.int .u64 (cr:Int))) [⟨q2,101,(List.replicate 8 0).map Qad,true⟩,⟨q3,101,(Qgn n id).map Qad,true⟩]):=LH (by
  have:=HM2.out.set 1 7 (.int .u64 (cr:Int)) rfl (by simp [Qjv]);rw [HS.out]
  exact this)
 clear hb2 HM0;go_upto_region 3 with fail;generalize w2.setCell _ _=w3 at *;clear c7 f7 HM2;go_wp2_with (first
  | (refine Qag Jf5 HM3.out 1 rfl rfl rfl rfl rfl ?_)
  | (refine Qaa Jf5 HM3.out 0 rfl rfl rfl rfl rfl rfl rfl rfl ?_;intro w6 h6 ht6;have H6:=LH h6;clear h6 ht6))
 exact bodyPost_ret (results_cell_row (p:=4) rfl _ _ _ _ _ _ _ rfl (H6.out.exact 0 rfl) Tryz.underlying101 rfl (by kernel_rfl)) rfl (HP.out _ H6.out.below)
def Qid (ws:List Nat):Nat × Nat × Int :=
 if ws.getD 0 0≠Qd4 then (0,0,24)
 else if ws.getD 7 0≠Qbj (ws.take 7) then (0,0,25)
 else if 2≤ws.getD 2 0∧ws.getD 2 0≤256∧Qgn (ws.getD 2 0) (ws.getD 3 0)=ws then (ws.getD 2 0,ws.getD 3 0,0) else (0,0,26)
theorem Je9 (w:World) (xs ys:List Nat) (hx:xs.length=8) (hy:ys.length=8):(Op.equalIn 10000 101 (.agg (xs.map Qad).toArray) (.agg (ys.map Qad).toArray)).run Tryz.prog w=.ok (decide (xs=ys)) w:=by
 obtain ⟨i,hi⟩:=Option.isSome_iff_exists.1 Qut;have hn:∀l:List Nat,l.map Qad=(l.map (fun n:Nat=>(n:Int))).map (Value.int .u64):=by intro l;simp
 rw [show (10000:Nat)=9999+1 from rfl,run_equalIn_array w 9999 _ _ Tryz.underlying101 hi,Qrb,show (9999:Nat)=9998+1 from rfl,hn xs,hn ys];obtain ⟨b,hb,hiff⟩:=Qde Tryz.underlying40 9998 w (xs.map (fun n:Nat=>(n:Int))) (ys.map (fun n:Nat=>(n:Int))) (List.range 8) (fun i hi=>by simp at hi;simp;omega);rw [hb];have:b=decide (xs=ys):=by
  rw [Bool.eq_iff_iff,hiff,decide_eq_true_iff];constructor
  ·intro h
   apply List.ext_getElem (by rw [hx,hy])
   intro i h1 h2;have:=h i (by simp;omega);simp [h1,h2] at this
   omega
  ·rintro rfl;simp
 rw [this]
def rtI (r:Int):Bool:=decide (0≤r∧r<131072)
def Qda (ep:Nat) (rs:List Int):Bool:=rs.all rtI && decide (0<ep)
theorem Qcb {rs:List Int} (h:rs.length=8):∃a0 a1 a2 a3 a4 a5 a6 a7,rs=[a0,a1,a2,a3,a4,a5,a6,a7]:=by
 match rs,h with
 | [a0,a1,a2,a3,a4,a5,a6,a7],_=>exact ⟨a0,a1,a2,a3,a4,a5,a6,a7,rfl⟩
def Qbg (ep:Nat) (rs:List Int):Value:=.agg (Qad ep :: rs.map (Value.int .i64)).toArray
theorem Qui {rs:List Int} {i:Nat} {r:Int} (hi:rs[i]?=some r) (h:rtI r=false):rs.all rtI=false:=by
 rw [List.all_eq_false];exact ⟨r,List.mem_of_getElem? hi,by rw [h];decide⟩
theorem Qwo {rs:List Int} {i:Nat} {r:Int} (h:(rs.take i).all rtI=true) (hi:rs[i]?=some r) (hr:rtI r=true):(rs.take (i+1)).all rtI=true:=by
 rw [List.take_add_one,hi,List.all_append,h];simp [hr]
theorem Qnn (ep:Nat) (rs:List Int) (hl:rs.length=8) (hep:ep<18446744073709551616) (w:World) :
  Calls Tryz.prog 172 #[Qbg ep rs] w fun e w'=>e=.returned (.bool (Qda ep rs))∧Below w.heap.size w w':=by
 have HP:Hid (∀b w',b=Qda ep rs→Below w.heap.size w w'→(fun e w'=>e=Ending.returned (.bool (Qda ep rs))∧Below w.heap.size w w') (.returned (.bool b)) w'):=LH (fun b w' h1 h2=>by subst h1;exact ⟨rfl,h2⟩);generalize hPo:(fun e w'=>e=Ending.returned (.bool (Qda ep rs))∧Below w.heap.size w w')=Post at *;clear hPo;obtain ⟨a0,a1,a2,a3,a4,a5,a6,a7,rfl⟩:=Qcb hl;obtain ⟨rs,hrs⟩:∃rs,rs=[a0,a1,a2,a3,a4,a5,a6,a7]:=⟨_,rfl⟩
 rw [← hrs] at HP;have HRs:=LH hrs;have HBad:Hid (∀(i:Nat) r,[a0,a1,a2,a3,a4,a5,a6,a7][i]?=some r→rtI r=false→false=Qda ep rs):=LH (fun i r h1 h2=>by
  unfold Qda;rw [hrs,Qui h1 h2];rfl)
 have HNx:Hid (∀(i:Nat) r,[a0,a1,a2,a3,a4,a5,a6,a7][i]?=some r→(rs.take i).all rtI=true→rtI r=true→(rs.take (i+1)).all rtI=true):=LH (fun i r h1 h2 h3=>Qwo h2 (by rw [hrs];exact h1) h3);clear hrs hl;rw [show Qbg ep [a0,a1,a2,a3,a4,a5,a6,a7]=.agg #[Qad ep,.int .i64 a0,.int .i64 a1,.int .i64 a2,.int .i64 a3,.int .i64 a4,.int .i64 a5,.int .i64 a6,.int .i64 a7] from rfl];have HM:=LH (Mem.one w #[Qad ep,.int .i64 a0,.int .i64 a1,.int .i64 a2,.int .i64 a3,.int .i64 a4,.int .i64 a5,.int .i64 a6,.int .i64 a7] 154);go_enter Tryz.func172,Tryz.ntmps172;go_upto_region 1 with fail;obtain ⟨q,hq⟩:∃q,q=w.heap.size:=⟨_,rfl⟩
 rw [← hq] at HM ⊢;generalize w.alloc _=w1 at *;clear hq;have d0:=HM.out.cell 0 0 rfl rfl;have d1:=HM.out.cell 0 1 rfl rfl;have d2:=HM.out.cell 0 2 rfl rfl;have d3:=HM.out.cell 0 3 rfl rfl;have d4:=HM.out.cell 0 4 rfl rfl;have d5:=HM.out.cell 0 5 rfl rfl;have d6:=HM.out.cell 0 6 rfl rfl;have d7:=HM.out.cell 0 7 rfl rfl;have d8:=HM.out.cell 0 8 rfl rfl;go_wp2_with fail
 go_loopw [7] (fun iv wr=>∃i:Nat,i≤8∧iv=.int .i64 (i:Int)∧Hid ((rs.take i).all rtI=true)∧wr=w1) (fun iv _=>8-(intOf iv).toNat)
 case atStart=>exact ⟨0,by omega,rfl,LH rfl,rfl⟩
 case round =>
  obtain ⟨i,hi,rfl,HA,rfl⟩:=hrel
  by_cases hlt:i<8
  ·obtain ⟨r,hr⟩:∃r,[a0,a1,a2,a3,a4,a5,a6,a7][i]?=some r:=⟨_,GE (by simpa using hlt)⟩
   have HBi:=LH (HBad.out i r hr);have HNi:=LH (HNx.out i r hr HA.out);have hlt':(i:Int)<8:=by omega
   have HV:Hid ((#[Value.int .i64 a0,.int .i64 a1,.int .i64 a2,.int .i64 a3,.int .i64 a4,.int .i64 a5,.int .i64 a6,.int .i64 a7]:Array Value)[i]?=some (.int .i64 r)):=LH (by
    have:([a0,a1,a2,a3,a4,a5,a6,a7].map (Value.int .i64))[i]?=some (.int .i64 r):=by rw [List.getElem?_map,hr];rfl
    rw [← this];simp)
   by_cases h1:r<0
   ·have HF:=LH (HP.out false wr (HBi.out (by unfold rtI;rw [decide_eq_false];omega)) HM.out.below);clear hr;go_wp2_with (refine Qb3 i Tryz.underlying24 Tryz.underlying3 rfl (by kernel_rfl) (by omega) (by omega) HV.out rfl rfl rfl rfl ?_)
    exact HF.out
   ·have h1':decide (r<0)=false:=by simp;omega
    by_cases h2:131072≤r
    ·have HF:=LH (HP.out false wr (HBi.out (by unfold rtI;rw [decide_eq_false];omega)) HM.out.below);clear hr h1;go_wp2_with (refine Qb3 i Tryz.underlying24 Tryz.underlying3 rfl (by kernel_rfl) (by omega) (by omega) HV.out rfl rfl rfl rfl ?_)
     exact HF.out
    ·have h2':decide (131072≤r)=false:=by simp;omega
     have HN:=LH (HNi.out (by unfold rtI;rw [decide_eq_true];omega));clear hr h1 h2;go_wp2_with (refine Qb3 i Tryz.underlying24 Tryz.underlying3 rfl (by kernel_rfl) (by omega) (by omega) HV.out rfl rfl rfl rfl ?_)
     exact ⟨⟨i+1,by omega,Qb2 (by omega),HN,trivial⟩,by simp [intOf];omega⟩
  ·have hi8:i=8:=by omega
   have hltd:decide ((i:Int)<8)=false:=by simp;omega
   have HF:=LH (fun b (hb:b=decide (0<ep))=>HP.out b wr (by
    have h9:=HA.out;rw [hi8,List.take_of_length_le (by rw [HRs.out];simp)] at h9
    unfold Qda;rw [h9,hb];rfl) HM.out.below)
   clear hi8
   by_cases h0:0<ep
   ·have h0':(0:Int)<(ep:Int):=by omega
    go_wp2_with fail;exact HF.out true (by simp [h0])
   ·have h0':decide ((0:Int)<(ep:Int))=false:=by simp;omega
    go_wp2_with fail;exact HF.out false (by simp [h0])
theorem Qlx (ep:Nat) (rs:List Int) (hl:rs.length=8) (hep:ep<18446744073709551616) (w:World) :
  Calls Tryz.prog 85 #[Qbg ep rs] w fun e w'=>e=.returned (.bool (Qda ep rs))∧Below w.heap.size w w':=by
 have HP:Hid (∀b w',b=Qda ep rs→Below w.heap.size w w'→(fun e w'=>e=Ending.returned (.bool (Qda ep rs))∧Below w.heap.size w w') (.returned (.bool b)) w'):=LH (fun b w' h1 h2=>by subst h1;exact ⟨rfl,h2⟩);generalize hPo:(fun e w'=>e=Ending.returned (.bool (Qda ep rs))∧Below w.heap.size w w')=Post at *;clear hPo;obtain ⟨a0,a1,a2,a3,a4,a5,a6,a7,rfl⟩:=Qcb hl;obtain ⟨rs,hrs⟩:∃rs,rs=[a0,a1,a2,a3,a4,a5,a6,a7]:=⟨_,rfl⟩
 rw [← hrs] at HP;have HRs:=LH hrs;have HBad:Hid (∀(i:Nat) r,[a0,a1,a2,a3,a4,a5,a6,a7][i]?=some r→rtI r=false→false=Qda ep rs):=LH (fun i r h1 h2=>by
  unfold Qda;rw [hrs,Qui h1 h2];rfl)
 have HNx:Hid (∀(i:Nat) r,[a0,a1,a2,a3,a4,a5,a6,a7][i]?=some r→(rs.take i).all rtI=true→rtI r=true→(rs.take (i+1)).all rtI=true):=LH (fun i r h1 h2 h3=>Qwo h2 (by rw [hrs];exact h1) h3);clear hrs hl;rw [show Qbg ep [a0,a1,a2,a3,a4,a5,a6,a7]=.agg #[Qad ep,.int .i64 a0,.int .i64 a1,.int .i64 a2,.int .i64 a3,.int .i64 a4,.int .i64 a5,.int .i64 a6,.int .i64 a7] from rfl];have HM:=LH (Mem.one w #[Qad ep,.int .i64 a0,.int .i64 a1,.int .i64 a2,.int .i64 a3,.int .i64 a4,.int .i64 a5,.int .i64 a6,.int .i64 a7] 55);go_enter Tryz.func85,Tryz.ntmps85;go_upto_region 1 with fail;obtain ⟨q,hq⟩:∃q,q=w.heap.size:=⟨_,rfl⟩
 rw [← hq] at HM ⊢;generalize w.alloc _=w1 at *;clear hq;have d0:=HM.out.cell 0 0 rfl rfl;go_wp2_with fail
 go_loopw [3] (fun iv wr=>∃i:Nat,i≤8∧iv=.int .i64 (i:Int)∧Hid ((rs.take i).all rtI=true)∧wr=w1) (fun iv _=>8-(intOf iv).toNat)
 case atStart=>exact ⟨0,by omega,rfl,LH rfl,rfl⟩
 case round =>
  obtain ⟨i,hi,rfl,HA,rfl⟩:=hrel
  by_cases hlt:i<8
  ·obtain ⟨r,hr⟩:∃r,[a0,a1,a2,a3,a4,a5,a6,a7][i]?=some r:=⟨_,GE (by simpa using hlt)⟩
   have HBi:=LH (HBad.out i r hr);have HNi:=LH (HNx.out i r hr HA.out);have hlt':(i:Int)<8:=by omega
   have e1:wr.cell? ⟨q,1+i,none⟩=some (.int .i64 r):=HM.out.cell 0 (1+i) rfl (by
    have:([a0,a1,a2,a3,a4,a5,a6,a7].map (Value.int .i64))[i]?=some (.int .i64 r):=by rw [List.getElem?_map,hr];rfl
    rw [← this,Nat.add_comm];show (Qad ep :: [a0,a1,a2,a3,a4,a5,a6,a7].map (Value.int .i64))[i+1]?=_
    rw [List.getElem?_cons_succ])
   by_cases h1:r<0
   ·have HF:=LH (HP.out false wr (HBi.out (by unfold rtI;rw [decide_eq_false];omega)) HM.out.below);clear hr;go_wp2_with fail;exact HF.out
   ·have h1':decide (r<0)=false:=by simp;omega
    by_cases h2:131071<r
    ·have HF:=LH (HP.out false wr (HBi.out (by unfold rtI;rw [decide_eq_false];omega)) HM.out.below);clear hr h1;go_wp2_with fail;exact HF.out
    ·have h2':decide (131071<r)=false:=by simp;omega
     have HN:=LH (HNi.out (by unfold rtI;rw [decide_eq_true];omega));clear hr h1 h2;go_wp2_with fail;exact ⟨⟨i+1,by omega,Qb2 (by omega),HN,trivial⟩,by simp [intOf];omega⟩
  ·have hi8:i=8:=by omega
   have hltd:decide ((i:Int)<8)=false:=by simp;omega
   have HF:=LH (fun b (hb:b=decide (0<ep))=>HP.out b wr (by
    have h9:=HA.out;rw [hi8,List.take_of_length_le (by rw [HRs.out];simp)] at h9
    unfold Qda;rw [h9,hb];rfl) HM.out.below)
   clear hi8
   by_cases h0:0<ep
   ·have h0':(0:Int)<(ep:Int):=by omega
    go_wp2_with fail;exact HF.out true (by simp [h0])
   ·have h0':decide ((0:Int)<(ep:Int))=false:=by simp;omega
    go_wp2_with fail;exact HF.out false (by simp [h0])
theorem Qgv (n:Int) (w:World):Calls Tryz.prog 62 #[.agg #[.int .i64 n]] w fun e w'=>e=.returned (.bool (decide (2≤n∧n≤256)))∧Below w.heap.size w w':=by
 have HM:=LH (Mem.one w #[.int .i64 n] 44);have HP:Hid (∀b w',b=decide (2≤n∧n≤256)→Below w.heap.size w w'→(fun e w'=>e=Ending.returned (.bool (decide (2≤n∧n≤256)))∧Below w.heap.size w w') (.returned (.bool b)) w'):=LH (fun b w' h1 h2=>by subst h1;exact ⟨rfl,h2⟩);generalize (fun e w'=>e=Ending.returned (.bool (decide (2≤n∧n≤256)))∧Below w.heap.size w w')=Post at *;go_enter Tryz.func62,Tryz.ntmps62;go_upto_region 1 with fail;obtain ⟨q,hq⟩:∃q,q=w.heap.size:=⟨_,rfl⟩
 rw [← hq] at HM ⊢;generalize w.alloc _=w1 at *;clear hq;have d0:=HM.out.cell 0 0 rfl rfl
 by_cases h2:2≤n
 ·by_cases h3:n≤256
  ·have HF:=LH (HP.out true w1 (by simp [h2,h3]) HM.out.below);go_wp2_with fail;exact HF.out
  ·have h3':decide (n≤256)=false:=by simp;omega
   have HF:=LH (HP.out false w1 (by simp;omega) HM.out.below);clear h3;go_wp2_with fail;exact HF.out
 ·have h2':decide (2≤n)=false:=by simp;omega
  have HF:=LH (HP.out false w1 (by simp;omega) HM.out.below);clear h2;go_wp2_with fail;exact HF.out
def Qng (t:Nat × Nat × Int) (w:World):Ending→World→Prop:=fun e w'=>e=.returned (.tuple #[.agg #[.int .i64 (t.1:Int),Qad t.2.1],.int .i64 t.2.2])∧Below w.heap.size w w'
theorem Qin {ws:List Nat} (h:ws.length=8):∃a0 a1 a2 a3 a4 a5 a6 a7,ws=[a0,a1,a2,a3,a4,a5,a6,a7]:=by
 match ws,h with
 | [a0,a1,a2,a3,a4,a5,a6,a7],_=>exact ⟨a0,a1,a2,a3,a4,a5,a6,a7,rfl⟩
theorem Qml:Agg Tryz.prog 42 #[.int .i64 0,.int .u64 0]:=⟨⟨_,Tryz.underlying42,rfl⟩,by kernel_rfl⟩
theorem Quf (ws:List Nat) (hl:ws.length=8) (hu:∀z∈ws,z<18446744073709551616) (w:World) :
  Calls Tryz.prog 87 #[Qgb ws] w (Qng (Qid ws) w):=by
 have HP:Hid (∀(n id:Nat) (e:Int) w',(n,id,e)=Qid ws→Below w.heap.size w w'→Qng (Qid ws) w (.returned (.tuple #[.agg #[.int .i64 (n:Int),Qad id],.int .i64 e])) w'):=LH (fun n id e w' h1 h2=>by rw [← h1];exact ⟨rfl,h2⟩);generalize hPo:Qng (Qid ws) w=Post at *;clear hPo;obtain ⟨a0,a1,a2,a3,a4,a5,a6,a7,rfl⟩:=Qin hl;have h0:=hu a0 (by simp);have h2:=hu a2 (by simp);have h3:=hu a3 (by simp);have HU:=LH hu;have HD:Hid (Qid [a0,a1,a2,a3,a4,a5,a6,a7]=if a0≠Qd4 then (0,0,24) else if a7≠Qbj [a0,a1,a2,a3,a4,a5,a6] then (0,0,25) else if 2≤a2∧a2≤256∧Qgn a2 a3=[a0,a1,a2,a3,a4,a5,a6,a7] then (a2,a3,0) else (0,0,26)):=LH rfl;clear hu hl;rw [show Qgb [a0,a1,a2,a3,a4,a5,a6,a7]=.agg #[Qad a0,Qad a1,Qad a2,Qad a3,Qad a4,Qad a5,Qad a6,Qad a7] from rfl];have HM:=LH (Mem.two w #[Qad a0,Qad a1,Qad a2,Qad a3,Qad a4,Qad a5,Qad a6,Qad a7] 101 #[.int .i64 0,.int .u64 0] 42);go_enter Tryz.func87,Tryz.ntmps87;go_upto_region 1 with fail;obtain ⟨q1,hq1⟩:∃q,q=w.heap.size:=⟨_,rfl⟩
 obtain ⟨q2,hq2⟩:∃q,q=w.heap.size+1:=⟨_,rfl⟩
 rw [← hq2,← hq1] at HM ⊢;generalize (w.alloc _).alloc _=w1 at *;clear hq1 hq2;have d0:=HM.out.cell 0 0 rfl rfl;have d7:=HM.out.cell 0 7 rfl rfl
 by_cases e0:a0=Qd4
 case neg =>
  have e0':((a0:Int) == 8390047168116913201)=false:=by rw [beq_eq_false_iff_ne];unfold Qd4 at e0;omega
  have HF:=LH (fun w' h=>HP.out 0 0 24 w' (by rw [HD.out,if_pos e0]) h);clear e0;go_wp2_with (refine Qaa Qml HM.out 1 rfl rfl rfl rfl rfl rfl rfl rfl ?_;intro w6 h6 ht6;have H6:=LH h6;clear h6 ht6)
  refine bodyPost_ret (Qac (p:=2) (u:=3) rfl _ _ _ _ _ _ _ rfl (H6.out.exact 1 rfl) Tryz.underlying42 rfl (by kernel_rfl)) rfl ?_;exact HF.out _ H6.out.below
 have e0':((a0:Int) == 8390047168116913201)=true:=by rw [beq_iff_eq,e0];rfl
 have HE0:=LH e0;clear e0;go_upto_region 3 with fail;have r7:=fun x=>Qab d7 x
 clear d7 d0;refine Qai (C:=fun w'=>∃x:Qbi (w1),w'=x.val) [.fl [0,1,2],.sq [3] true,.fl [4],.sq [5,6] false] (by kernel_rfl) (by kernel_rfl) (by intro c a d v w h;cases d <;> exact h) ?_;simp only [Qdj,Qa3,List.getElem?_cons_succ,List.getElem?_cons_zero]
 have hC1:=Qaj (w1);refine Qak hC1 ?_
 repeat (first|go_big_quiet_step (fail)|quiet_step (fail))
 refine wpQuiet_nil ?_;have HM1:=LH (HM.out.later (Qae hC1));clear r7;refine Qah (fun K hK=>?_);go_wp2_with fail;refine (Qdn (some ⟨q1,0,none⟩) 8 [a0,a1,a2,a3,a4,a5,a6] rfl _ (Qj2 (xs:=[Qad a0,Qad a1,Qad a2,Qad a3,Qad a4,Qad a5,Qad a6]) (ys:=[Qad a7]) (HM1.out.at 0 rfl)) (fun z hz=>HU.out z (by simp only [List.mem_cons,List.not_mem_nil,or_false] at hz ⊢;omega)) (by simp)).mono ?_;rintro e w2 ⟨rfl,hb2⟩;have hC2:=Qan hC1 hb2;have HM2:=LH (HM1.out.later hb2);have hlt:=Qb6 [a0,a1,a2,a3,a4,a5,a6];have HW:Hid (Qbj [a0,a1,a2,a3,a4,a5,a6]=Qbj [a0,a1,a2,a3,a4,a5,a6]):=LH rfl;obtain ⟨cr,hcr⟩:∃cr,cr=Qbj [a0,a1,a2,a3,a4,a5,a6]:=⟨_,rfl⟩
 rw [← hcr] at hlt ⊢;have HCr:=LH hcr;clear hb2 HW hcr HM1;go_wp2_with fail;refine hK _ _ (fun _=>hC2) ?_;clear hK K;refine Qak hC2 ?_
 repeat (first|go_big_quiet_step (fail)|quiet_step (fail))
 refine wpQuiet_nil ?_;clear hC1 hC2
 by_cases e7:a7=cr
 case neg =>
  have e7':((a7:Int) == (cr:Int))=false:=by rw [beq_eq_false_iff_ne];omega
  have HF:=LH (fun w' h=>HP.out 0 0 25 w' (by rw [HD.out,if_neg (by rw [HE0.out];simp),if_pos (by rw [← HCr.out];exact e7)]) h);clear e7;refine Qal ?_;go_wp2_with (refine Qaa Qml HM2.out 1 rfl rfl rfl rfl rfl rfl rfl rfl ?_;intro w6 h6 ht6;have H6:=LH h6;clear h6 ht6)
  refine bodyPost_ret (Qac (p:=2) (u:=3) rfl _ _ _ _ _ _ _ rfl (H6.out.exact 1 rfl) Tryz.underlying42 rfl (by kernel_rfl)) rfl ?_;exact HF.out _ H6.out.below
 have e7':((a7:Int) == (cr:Int))=true:=by rw [beq_iff_eq,e7]
 have HE7:=LH e7;have d2:=HM2.out.cell 0 2 rfl rfl;have d3:=HM2.out.cell 0 3 rfl rfl;have HF:=LH (fun (h9:¬(2≤a2∧a2≤256)) w' h=>HP.out 0 0 26 w' (by rw [HD.out,if_neg (by rw [HE0.out];simp),if_neg (by rw [HE7.out,HCr.out];simp),if_neg (fun hh=>h9 ⟨hh.1,hh.2.1⟩)]) h);clear e7
 by_cases hA:a2≤1073741824
 case neg =>
  have hmn:min (a2:Int) 1073741824=1073741824:=by omega
  have hA':¬(a2:Int)≤1073741824:=by omega
  have HF:=LH (HF.out (by omega));have hrd:decide (2≤(1073741824:Int)∧(1073741824:Int)≤256)=false:=by decide
  have HM3:=LH (HM2.out.alloc #[.int .i64 1073741824,Qad a3] 42);refine Qal ?_;go_wp2_with fail;go_upto_region 6 with fail;obtain ⟨q4,hq4⟩:∃q,q=w2.heap.size:=⟨_,rfl⟩
  rw [← hq4] at HM3 ⊢;generalize w2.alloc _=wc at *;clear hq4 d2 d3 HM2;have c0:=HM3.out.cell 2 0 rfl rfl;have c1:=HM3.out.cell 2 1 rfl rfl;refine Qai (C:=fun w'=>∃x:Qbi (wc),w'=x.val) [.sq [0,1,2,3,4,5] false,.fl [6,8],.sq [7] true,.sq [9,10] false] (by kernel_rfl) (by kernel_rfl) (by intro c a d v w h;cases d <;> exact h) ?_;simp only [Qdj,Qa3,List.getElem?_cons_succ,List.getElem?_cons_zero]
  have hC1:=Qaj (wc);refine Qah (fun K hK=>?_);go_wp2_with fail;refine (Qgv 1073741824 _).mono ?_;rintro e w5 ⟨rfl,hb5⟩;rw [hrd];have hC2:=Qan hC1 hb5;have HM5:=LH (HM3.out.later (Qae hC2));clear hb5 c0 c1;go_wp2_with fail;refine hK _ _ (fun h=>nomatch h) ?_;clear hK K;refine Qak hC2 ?_
  repeat (first|go_big_quiet_step (fail)|quiet_step (fail))
  refine wpQuiet_nil ?_;refine Qah (fun K hK=>?_);go_wp2_with fail;go_wp2_with fail;refine hK _ _ (fun _=>hC2) ?_;clear hK K;clear hC1 hC2;refine Qal ?_;go_wp2_with (refine Qaa Qml HM5.out 1 rfl rfl rfl rfl rfl rfl rfl rfl ?_;intro w6 h6 ht6;have H6:=LH h6;clear h6 ht6)
  refine bodyPost_ret (Qac (p:=2) (u:=3) rfl _ _ _ _ _ _ _ rfl (H6.out.exact 1 rfl) Tryz.underlying42 rfl (by kernel_rfl)) rfl ?_;exact HF.out _ H6.out.below
 have hmn:min (a2:Int) 1073741824=(a2:Int):=by omega
 have hA':(a2:Int)≤1073741824:=by omega
 have HM3:=LH (HM2.out.alloc #[.int .i64 (a2:Int),Qad a3] 42);refine Qal ?_;go_wp2_with fail;go_upto_region 6 with fail;obtain ⟨q4,hq4⟩:∃q,q=w2.heap.size:=⟨_,rfl⟩
 rw [← hq4] at HM3 ⊢;generalize w2.alloc _=wc at *;clear hq4 d2 d3 HM2;have c0:=HM3.out.cell 2 0 rfl rfl;have c1:=HM3.out.cell 2 1 rfl rfl
 by_cases hr:2≤a2∧a2≤256
 case neg =>
  have HF:=LH (HF.out hr);have hrd:decide (2≤(a2:Int)∧(a2:Int)≤256)=false:=by simp;omega
  clear hr;refine Qai (C:=fun w'=>∃x:Qbi (wc),w'=x.val) [.sq [0,1,2,3,4,5] false,.fl [6,8],.sq [7] true,.sq [9,10] false] (by kernel_rfl) (by kernel_rfl) (by intro c a d v w h;cases d <;> exact h) ?_;simp only [Qdj,Qa3,List.getElem?_cons_succ,List.getElem?_cons_zero]
  have hC1:=Qaj (wc);refine Qah (fun K hK=>?_);go_wp2_with fail;refine (Qgv (a2:Int) _).mono ?_;rintro e w5 ⟨rfl,hb5⟩;rw [hrd];have hC2:=Qan hC1 hb5;have HM5:=LH (HM3.out.later (Qae hC2));clear hb5 c0 c1;go_wp2_with fail;refine hK _ _ (fun h=>nomatch h) ?_;clear hK K;refine Qak hC2 ?_
  repeat (first|go_big_quiet_step (fail)|quiet_step (fail))
  refine wpQuiet_nil ?_;refine Qah (fun K hK=>?_);go_wp2_with fail;go_wp2_with fail;refine hK _ _ (fun _=>hC2) ?_;clear hK K;clear hC1 hC2;refine Qal ?_;go_wp2_with (refine Qaa Qml HM5.out 1 rfl rfl rfl rfl rfl rfl rfl rfl ?_;intro w6 h6 ht6;have H6:=LH h6;clear h6 ht6)
  refine bodyPost_ret (Qac (p:=2) (u:=3) rfl _ _ _ _ _ _ _ rfl (H6.out.exact 1 rfl) Tryz.underlying42 rfl (by kernel_rfl)) rfl ?_;exact HF.out _ H6.out.below
 have hrd:decide (2≤(a2:Int)∧(a2:Int)≤256)=true:=by simp;omega
 have HSe:=LH (fun w=>Qoh a2 a3 (by omega) h3 w);have b0:=HM3.out.cell 0 0 rfl rfl;have b1:=HM3.out.cell 0 1 rfl rfl;have b2:=HM3.out.cell 0 2 rfl rfl;have b3:=HM3.out.cell 0 3 rfl rfl;have b4:=HM3.out.cell 0 4 rfl rfl;have b5:=HM3.out.cell 0 5 rfl rfl;have b6:=HM3.out.cell 0 6 rfl rfl;have b7:=HM3.out.cell 0 7 rfl rfl;have r0:=fun x=>Qab b0 x
 have r1:=fun x=>Qab b1 x
 have r2:=fun x=>Qab b2 x
 have r3:=fun x=>Qab b3 x
 have r4:=fun x=>Qab b4 x
 have r5:=fun x=>Qab b5 x
 have r6:=fun x=>Qab b6 x
 have r7:=fun x=>Qab b7 x
 have rc0:=fun x=>Qab c0 x
 have rc1:=fun x=>Qab c1 x
 refine Qai (C:=fun w'=>∃x:Qbi (wc),w'=x.val) [.sq [0,1,2,3,4,5] false,.fl [6,8],.sq [7] true,.sq [9,10] false] (by kernel_rfl) (by kernel_rfl) (by intro c a d v w h;cases d <;> exact h) ?_;simp only [Qdj,Qa3,List.getElem?_cons_succ,List.getElem?_cons_zero]
 have hC1:=Qaj (wc);refine Qah (fun K hK=>?_);go_wp2_with fail;refine (Qgv (a2:Int) _).mono ?_;rintro e w5 ⟨rfl,hb5⟩;rw [hrd];have hC2:=Qan hC1 hb5;clear hb5 c0 c1 b0 b1 b2 b3 b4 b5 b6 b7;go_wp2_with fail;refine hK _ _ (fun h=>nomatch h) ?_;clear hK K;refine Qak hC2 ?_
 repeat (first|go_big_quiet_step (fail)|quiet_step (fail))
 refine wpQuiet_nil ?_;clear r0 r1 r2 r3 r4 r5 r6 r7 rc0 rc1;refine Qah (fun K hK=>?_);go_wp2_with fail;refine (HSe.out _).mono ?_;rintro e w6 ⟨rfl,hb6⟩;have hC3:=Qan hC2 hb6;have HM6:=LH (HM3.out.later (Qae hC3));clear hb6;go_wp2_with fail;refine hK _ _ (fun _=>hC3) ?_;clear hK K;clear hC1 hC2 hC3;have HSN:Hid (Qgn a2 a3=[Qd4,1,a2,a3,0,0,0,Qbj (Qjv a2 a3)]):=LH rfl;rw [show Qgb (Qgn a2 a3)=.agg #[Qad Qd4,Qad 1,Qad a2,Qad a3,Qad 0,Qad 0,Qad 0,Qad (Qbj (Qjv a2 a3))] from rfl];have heq:∀w',(Op.equalIn 10000 101 (.agg #[Qad Qd4,Qad 1,Qad a2,Qad a3,Qad 0,Qad 0,Qad 0,Qad (Qbj (Qjv a2 a3))]) (.agg #[Qad a0,Qad a1,Qad a2,Qad a3,Qad a4,Qad a5,Qad a6,Qad a7])).run Tryz.prog w'=.ok (decide (Qgn a2 a3=[a0,a1,a2,a3,a4,a5,a6,a7])) w':=fun w'=>Je9 w' (Qgn a2 a3) [a0,a1,a2,a3,a4,a5,a6,a7] rfl rfl
 by_cases hs:Qgn a2 a3=[a0,a1,a2,a3,a4,a5,a6,a7]
 ·rw [decide_eq_true hs] at heq;have HF2:=LH (fun w' h=>HP.out a2 a3 0 w' (by rw [HD.out,if_neg (by rw [HE0.out];simp),if_neg (by rw [HE7.out,HCr.out];simp),if_pos ⟨hr.1,hr.2,hs⟩]) h);generalize Qbj (Qjv a2 a3)=sc at *;generalize Qd4=mg at *;clear hs hr;refine Qal ?_;go_wp2_with (first | (refine Qag Qml HM6.out 2 rfl rfl rfl rfl rfl ?_) | (refine Qaa Qml HM6.out 1 rfl rfl rfl rfl rfl rfl rfl rfl ?_;intro w6 h6 ht6;have H6:=LH h6;clear h6 ht6))
  refine bodyPost_ret (Qac (p:=2) (u:=3) rfl _ _ _ _ _ _ _ rfl (H6.out.exact 1 rfl) Tryz.underlying42 rfl (by kernel_rfl)) rfl ?_;exact HF2.out _ H6.out.below
 ·rw [decide_eq_false hs] at heq;have HF2:=LH (fun w' h=>HP.out 0 0 26 w' (by rw [HD.out,if_neg (by rw [HE0.out];simp),if_neg (by rw [HE7.out,HCr.out];simp),if_neg (fun hh=>hs hh.2.2)]) h);generalize Qbj (Qjv a2 a3)=sc at *;generalize Qd4=mg at *;clear hs hr;refine Qal ?_;go_wp2_with (refine Qaa Qml HM6.out 1 rfl rfl rfl rfl rfl rfl rfl rfl ?_;intro w6 h6 ht6;have H6:=LH h6;clear h6 ht6)
  refine bodyPost_ret (Qac (p:=2) (u:=3) rfl _ _ _ _ _ _ _ rfl (H6.out.exact 1 rfl) Tryz.underlying42 rfl (by kernel_rfl)) rfl ?_;exact HF2.out _ H6.out.below
def Qqn (t:Nat × Nat × Int) (w:World):Ending→World→Prop:=fun e w'=>e=.returned (.tuple #[.int .i64 (t.1:Int),Qad t.2.1,.int .i64 t.2.2])∧Below w.heap.size w w'
theorem Qti (ws:List Nat) (hl:ws.length=8) (hu:∀z∈ws,z<18446744073709551616) (w:World) :
  Calls Tryz.prog 49 #[Qgb ws] w (Qqn (Qid ws) w):=by
 have HP:Hid (∀(n id:Nat) (e:Int) w',(n,id,e)=Qid ws→Below w.heap.size w w'→Qqn (Qid ws) w (.returned (.tuple #[.int .i64 (n:Int),Qad id,.int .i64 e])) w'):=LH (fun n id e w' h1 h2=>by rw [← h1];exact ⟨rfl,h2⟩);generalize hPo:Qqn (Qid ws) w=Post at *;clear hPo;obtain ⟨a0,a1,a2,a3,a4,a5,a6,a7,rfl⟩:=Qin hl;have h0:=hu a0 (by simp);have h3:=hu a3 (by simp);have HU:=LH hu;have HD:Hid (Qid [a0,a1,a2,a3,a4,a5,a6,a7]=if a0≠Qd4 then (0,0,24) else if a7≠Qbj [a0,a1,a2,a3,a4,a5,a6] then (0,0,25) else if 2≤a2∧a2≤256∧Qgn a2 a3=[a0,a1,a2,a3,a4,a5,a6,a7] then (a2,a3,0) else (0,0,26)):=LH rfl;clear hu hl;rw [show Qgb [a0,a1,a2,a3,a4,a5,a6,a7]=.agg #[Qad a0,Qad a1,Qad a2,Qad a3,Qad a4,Qad a5,Qad a6,Qad a7] from rfl];have HM:=LH (Mem.one w #[Qad a0,Qad a1,Qad a2,Qad a3,Qad a4,Qad a5,Qad a6,Qad a7] 101);go_enter Tryz.func49,Tryz.ntmps49;go_upto_region 1 with fail;obtain ⟨q1,hq1⟩:∃q,q=w.heap.size:=⟨_,rfl⟩
 rw [← hq1] at HM ⊢;generalize w.alloc _=w1 at *;clear hq1;have d0:=HM.out.cell 0 0 rfl rfl;have d7:=HM.out.cell 0 7 rfl rfl
 by_cases e0:a0=Qd4
 case neg =>
  have e0':((a0:Int) == 8390047168116913201)=false:=by rw [beq_eq_false_iff_ne];unfold Qd4 at e0;omega
  have HF:=LH (HP.out 0 0 24 w1 (by rw [HD.out,if_pos e0]) HM.out.below);clear e0;go_wp2_with fail
  go_ret3
  exact HF.out
 have e0':((a0:Int) == 8390047168116913201)=true:=by rw [beq_iff_eq,e0];rfl
 have HE0:=LH e0;clear e0;go_upto_region 3 with fail;have r7:=fun x=>Qab d7 x
 clear d7 d0;refine Qai (C:=fun w'=>∃x:Qbi (w1),w'=x.val) [.fl [0,1,2],.sq [3] true,.fl [4],.sq [5] false] (by kernel_rfl) (by kernel_rfl) (by intro c a d v w h;cases d <;> exact h) ?_;simp only [Qdj,Qa3,List.getElem?_cons_succ,List.getElem?_cons_zero]
 have hC1:=Qaj (w1);refine Qak hC1 ?_
 repeat (first|go_big_quiet_step (fail)|quiet_step (fail))
 refine wpQuiet_nil ?_;have HM1:=LH (HM.out.later (Qae hC1));clear r7;refine Qah (fun K hK=>?_);go_wp2_with fail;refine (Qdz (some ⟨q1,0,none⟩) 8 [a0,a1,a2,a3,a4,a5,a6] rfl _ (Qj2 (xs:=[Qad a0,Qad a1,Qad a2,Qad a3,Qad a4,Qad a5,Qad a6]) (ys:=[Qad a7]) (HM1.out.at 0 rfl)) (fun z hz=>HU.out z (by simp only [List.mem_cons,List.not_mem_nil,or_false] at hz ⊢;omega)) (by simp)).mono ?_;rintro e w2 ⟨rfl,hb2⟩;have hC2:=Qan hC1 hb2;have HM2:=LH (HM1.out.later hb2);have hlt:=Qb6 [a0,a1,a2,a3,a4,a5,a6];obtain ⟨cr,hcr⟩:∃cr,cr=Qbj [a0,a1,a2,a3,a4,a5,a6]:=⟨_,rfl⟩
 rw [← hcr] at hlt ⊢;have HCr:=LH hcr;clear hb2 hcr HM1;go_wp2_with fail;refine hK _ _ (fun _=>hC2) ?_;clear hK K;refine Qak hC2 ?_
 repeat (first|go_big_quiet_step (fail)|quiet_step (fail))
 refine wpQuiet_nil ?_;clear hC1 hC2
 by_cases e7:a7=cr
 case neg =>
  have e7':((a7:Int) == (cr:Int))=false:=by rw [beq_eq_false_iff_ne];omega
  have HF:=LH (HP.out 0 0 25 w2 (by rw [HD.out,if_neg (by rw [HE0.out];simp),if_pos (by rw [← HCr.out];exact e7)]) HM2.out.below);clear e7;refine Qal ?_;go_wp2_with fail
  go_ret3
  exact HF.out
 have e7':((a7:Int) == (cr:Int))=true:=by rw [beq_iff_eq,e7]
 have HE7:=LH e7;clear e7;have HD2:Hid (Qid [a0,a1,a2,a3,a4,a5,a6,a7]=if 2≤a2∧a2≤256∧Qgn a2 a3=[a0,a1,a2,a3,a4,a5,a6,a7] then (a2,a3,0) else (0,0,26)):=LH (by rw [HD.out,if_neg (by rw [HE0.out];simp),if_neg (by rw [HE7.out,HCr.out];simp)]);refine Qal ?_;go_wp2_with fail;rw [show ((a7:Int) != (cr:Int))=false by rw [bne,e7'];rfl]
 go_loopw [5] (fun iv wr=>∃b:Nat,2≤b∧b≤257∧iv=.int .i64 (b:Int)∧Hid (∀j,2≤j→j<b→Qgn j a3≠[a0,a1,a2,a3,a4,a5,a6,a7])∧Hid (Below w2.heap.size w2 wr)) (fun iv _=>257-(intOf iv).toNat)
 case atStart=>exact ⟨2,by omega,by omega,rfl,LH (fun j h1 h2=>by omega),LH (Below.refl _ _)⟩
 case round =>
  obtain ⟨b,hb2,hb257,rfl,HNo,HB⟩:=hrel
  by_cases hlt2:b≤256
  ·have hlt':(b:Int)≤256:=by omega
   have HMr:=LH (HM2.out.later HB.out);have b0:=HMr.out.cell 0 0 rfl rfl;have b1:=HMr.out.cell 0 1 rfl rfl;have b2:=HMr.out.cell 0 2 rfl rfl;have b3:=HMr.out.cell 0 3 rfl rfl;have b4:=HMr.out.cell 0 4 rfl rfl;have b5:=HMr.out.cell 0 5 rfl rfl;have b6:=HMr.out.cell 0 6 rfl rfl;have b7:=HMr.out.cell 0 7 rfl rfl;go_upto_region 8 with fail;have r0:=fun x=>Qab b0 x
   have r1:=fun x=>Qab b1 x
   have r2:=fun x=>Qab b2 x
   have r3:=fun x=>Qab b3 x
   have r4:=fun x=>Qab b4 x
   have r5:=fun x=>Qab b5 x
   have r6:=fun x=>Qab b6 x
   have r7:=fun x=>Qab b7 x
   clear b0 b1 b2 b3 b4 b5 b6 b7;refine Qai (C:=fun w'=>∃x:Qbi (wr),w'=x.val) [.fl [0,1,2,4],.sq [3] true,.sq [5] false] (by kernel_rfl) (by kernel_rfl) (by intro c a d v w h;cases d <;> exact h) ?_;simp only [Qdj,Qa3,List.getElem?_cons_succ,List.getElem?_cons_zero]
   have hC1:=Qaj (wr);refine Qak hC1 ?_
   repeat (first|go_big_quiet_step (fail)|quiet_step (fail))
   refine wpQuiet_nil ?_;clear r0 r1 r2 r3 r4 r5 r6 r7;refine Qah (fun K hK=>?_);go_wp2_with fail;refine (Qlv b a3 (by omega) h3 _).mono ?_;rintro e w5 ⟨rfl,hb5⟩;have hC2:=Qan hC1 hb5;have HM5:=LH (HMr.out.later (Qae hC2));have HB5:=LH (HB.out.trans ((Qae hC2).mono HB.out.size));clear hb5;go_wp2_with fail;refine hK _ _ (fun _=>hC2) ?_;clear hK K;clear hC1 hC2;have c3:=HM5.out.cell 0 3 rfl rfl;rw [show Qgb (Qgn b a3)=.agg #[Qad Qd4,Qad 1,Qad b,Qad a3,Qad 0,Qad 0,Qad 0,Qad (Qbj (Qjv b a3))] from rfl];have heq:∀w',(Op.equalIn 10000 101 (.agg #[Qad Qd4,Qad 1,Qad b,Qad a3,Qad 0,Qad 0,Qad 0,Qad (Qbj (Qjv b a3))]) (.agg #[Qad a0,Qad a1,Qad a2,Qad a3,Qad a4,Qad a5,Qad a6,Qad a7])).run Tryz.prog w'=.ok (decide (Qgn b a3=[a0,a1,a2,a3,a4,a5,a6,a7])) w':=fun w'=>Je9 w' (Qgn b a3) [a0,a1,a2,a3,a4,a5,a6,a7] rfl rfl
   by_cases hs:Qgn b a3=[a0,a1,a2,a3,a4,a5,a6,a7]
   ·rw [decide_eq_true hs] at heq;have hba:b=a2:=by
     have:(Qgn b a3).getD 2 0=[a0,a1,a2,a3,a4,a5,a6,a7].getD 2 0:=by rw [hs]
     exact this
    subst hba;have HF:=LH (fun w' h=>HP.out b a3 0 w' (by rw [HD2.out,if_pos ⟨by omega,by omega,hs⟩]) h);have HBz:=LH (HM2.out.below.trans (HB5.out.mono HM2.out.below.size));generalize Qbj (Qjv b a3)=sc at *;generalize Qd4=mg at *;clear hs;refine Qal ?_;go_wp2_with fail;go_upto_region 9 with fail;have r3:=fun x=>Qab c3 x
    refine Qai (C:=fun w'=>∃x:Qbi (w5),w'=x.val) [.fl [0,1,2,3],.sq [4,5] false] (by kernel_rfl) (by kernel_rfl) (by intro c a d v w h;cases d <;> exact h) ?_;simp only [Qdj,Qa3,List.getElem?_cons_succ,List.getElem?_cons_zero]
    have hC3:=Qaj (w5);refine Qak hC3 ?_
    repeat (first|go_big_quiet_step (fail)|quiet_step (fail))
    refine wpQuiet_nil ?_;have HBd:=LH (HBz.out.trans ((Qae hC3).mono HBz.out.size));refine Qal ?_;go_wp2_with fail
    go_ret3
    exact HF.out _ HBd.out
   ·rw [decide_eq_false hs] at heq;have HNo5:Hid (∀j,2≤j→j<b+1→Qgn j a3≠[a0,a1,a2,a3,a4,a5,a6,a7]):=LH (fun j h1 h2=>by
     by_cases e:j=b
     ·subst e;exact hs
     ·exact HNo.out j h1 (by omega))
    generalize Qbj (Qjv b a3)=sc at *;generalize Qd4=mg at *;clear hs c3;refine Qal ?_;go_wp2_with fail;refine ⟨⟨b+1,by omega,by omega,Qb2 (by omega),HNo5,HB5⟩,?_⟩;simp [intOf];omega
  ·have hlt':¬(b:Int)≤256:=by omega
   have hltd:decide ((b:Int)≤256)=false:=by simp;omega
   have HF:=LH (HP.out 0 0 26 wr (by rw [HD2.out,if_neg (fun hh=>HNo.out a2 hh.1 (by omega) hh.2.2)]) (HM2.out.below.trans (HB.out.mono HM2.out.below.size)));go_wp2_with fail
   go_ret3
   exact HF.out
end
end Go.Proofs.YtpohaahihdhleaaGreat
