/- VerifyMarks walked in D, function by function, and its plain law (Tw Tx K9 O6 Fm). -/
import Derived.Test.YtaoiejcaopgjcaaGreatJ
import Derived.Test.YtaoiejcaopgjcaaGreatH
import Derived.ChangeSlices
import Derived.OpenShut
import Derived.Test.YtaoiejcaopgjcaaGreat0
import Derived.Test.YtaoiejcaopgjcaaGreatRows
import Derived.WalkKit
import Derived.ProofKit
set_option linter.unusedVariables false
set_option linter.unusedSimpArgs false
noncomputable section
namespace Go.Dust
open Go.ChangeShapes Go.RowKit Go.WideShapes
abbrev nC:=Nat×Nat×List Nat
def bytes (L:List Nat):List Value:=L.map fun(n:Nat)=>.int .u8 (n:Int)
def EO (L:List Nat):bU:=.cells (PT.ofList (bytes L)) [] L.length 5 false true 0
def qW:Nat→List nC→PT bU
 | _,[]=>.nil
 | j,w::ws=>if w.2.2=[] then qW (j+1) ws else(qW (j+1) ws).set (2*j+1) (EO w.2.2)
theorem QZ:∀ (ws:List nC) (j b:Nat) (o:bU),(qW j ws).get b=some o→∃ i w,ws[i]?=some w∧b=2*(j+i)+1∧o=EO w.2.2
 | [],j,b,o,h=>by rw[qW,PT.get_nil] at h;cases h
 | w::ws,j,b,o,h=>by
  rw[qW] at h;have Kn:∀ o,(qW (j+1) ws).get b=some o→∃ i w',(w::ws)[i]?=some w'∧b=2*(j+i)+1∧o=EO w'.2.2:=fun o h=>by
   obtain⟨i,w',h1,h2,h3⟩:=QZ ws (j+1) b o h;exact⟨i+1,w',by simpa using h1,by omega,h3⟩
  split at h
  ·exact Kn o h
  ·rw[PT.fC] at h;split at h
   ·rename_i hb;cases h;exact⟨0,w,rfl,by omega,rfl⟩
   ·exact Kn o h
theorem Ra:∀ (ws:List nC) (j i:Nat) (w:nC),ws[i]?=some w→w.2.2≠[]→(qW j ws).get (2*(j+i)+1)=some (EO w.2.2)
 | [],j,i,w,h,_=>by cases h
 | w0::ws,j,0,w,h,hn=>by
  cases h;rw[qW,if_neg hn,PT.fC,if_pos (by omega)]
 | w0::ws,j,i+1,w,h,hn=>by
  have:=Ra ws (j+1) i w (by simpa using h) hn;rw[show 2*(j+1+i)+1=2*(j+(i+1))+1 by omega] at this;rw[qW];split
  ·exact this
  ·rw[PT.fC,if_neg (by omega)];exact this
def wC (ws:List nC):aP:=fun b=>if b%2=0 then some ⟨b/2,0,0,true⟩ else match ws[b/2]? with
 | some w=>some ⟨w.1,w.2.1,0,true⟩
 | none=>none
def BO (ws:List nC):St:={heap:=qW 0 ws,next:=2*ws.length+1,aO:=1}
theorem rj {ws:List nC} {b:Nat} {l:Loc} (h:wC ws b=some l):l.ro=true:=by
 unfold wC at h;split at h
 ·cases h;rfl
 ·split at h
  ·cases h;rfl
  ·cases h
theorem Se {ws:List nC} {i:Nat} {w:nC} (h:ws[i]?=some w):wC ws (2*i+1)=some ⟨w.1,w.2.1,0,true⟩:=by
 unfold wC;rw[if_neg (by omega),show (2*i+1)/2=i by omega,h]
theorem xk (L:List Nat) {i:Nat} (h:i<L.length):(bytes L)[i]?=some (.int .u8 (L[i]:Int)):=by
 unfold bytes;rw[List.getElem?_map,List.getElem?_eq_getElem h];rfl
def si (W:World) (w:nC):Prop:=w.2.2=[]∨∃ arr e' fz,W.heap[w.1]?=some (.cells arr e' fz)∧∀ i (hi:i<w.2.2.length),arr[w.2.1+i]?=some (.int .u8 (w.2.2[i]:Int))
theorem aI1 (P:Program) {W:World} {ws:List nC} (h:∀ w∈ws,si W w):RS P (wC ws) (BO ws) W:=by
 refine⟨fun b=>?_,by show (2*ws.length+1)%2=1;omega,fun b hb hb2=>?_,fun b l hl hro=>?_,fun b o ho hd=>?_,fun b b' o o' l l' _ _ _ _ hl _ hro _=>?_⟩
 ·unfold wC;rw[if_pos (by omega)];simp
 ·have hb':2*ws.length+1≤b:=hb;unfold wC;rw[if_neg (by omega),List.getElem?_eq_none (by omega)]
 ·rw[rj hl] at hro;cases hro
 ·obtain⟨i,w,hw,hb,rfl⟩:=QZ ws 0 b o ho;rw[Nat.zero_add] at hb;subst hb;refine⟨_,Se hw,?_⟩;have hne:w.2.2≠[]:=fun e=>by
   have:(qW 0 ws).get (2*i+1)=some (EO w.2.2):=ho;have key:∀ (ws:List nC) (j i:Nat) (w:nC),ws[i]?=some w→w.2.2=[]→(qW j ws).get (2*(j+i)+1)=none:=by
    intro ws
    induction ws with
    | nil=>intro j i w h;cases h
    | cons w0 ws ih =>
     intro j i w h he;cases i with
     | zero =>
      cases h;rw[qW,if_pos he];cases hg:(qW (j+1) ws).get (2*(j+0)+1) with
      | none=>rfl
      | some o =>
       obtain⟨i',w',_,h2,_⟩:=QZ ws (j+1) _ o hg;omega
     | succ i =>
      have:=ih (j+1) i w (by simpa using h) he;rw[show 2*(j+1+i)+1=2*(j+(i+1))+1 by omega] at this;rw[qW];split
      ·exact this
      ·rw[PT.fC,if_neg (by omega)];exact this
   have:=key ws 0 i w hw e;rw[Nat.zero_add] at this;have ho':(qW 0 ws).get (2*i+1)=some (EO w.2.2):=ho;rw[this] at ho';cases ho'
  rcases h w (List.mem_of_getElem? hw) with e | ⟨arr,e',fz,h1,h2⟩
  ·exact absurd e hne
  ·have hlen:0<w.2.2.length:=List.length_pos_iff.2 hne;have aA2:w.2.1+w.2.2.length≤arr.size:=by
    have:=h2 (w.2.2.length-1) (by omega);have:=(Array.getElem?_eq_some_iff.1 this).1;omega
   refine⟨arr,e',fz,h1,(fun h=>by cases h),rfl,(fun _=>rfl),(fun ei _=>?_),aA2,fun i hi=>?_⟩
   ·show w.2.1+w.2.2.length+0*ei.size≤arr.size;omega
   ·refine⟨_,_,?_,h2 i hi,.int _ _⟩;unfold cellAt;rw[if_pos hi];rw[PT.sF,xk _ hi]
 ·rw[rj hl] at hro;cases hro
theorem aEe {ws:List nC} {c:Nat}:¬ Own (wC ws) (BO ws).look c:=by
 rintro⟨b,o,l,_,_,hl,hro,_⟩;rw[rj hl] at hro;cases hro
theorem okw (ws:List nC):Ok (BO ws):=by
 refine⟨fun b o hb hd=>?_,fun b hb=>?_⟩
 ·obtain⟨i,w,_,_,rfl⟩:=QZ ws 0 b o hb;exact Nat.zero_lt_one
 ·have hb':2*ws.length+1≤b:=hb;cases hg:(BO ws).heap.get b with
  | none=>rfl
  | some o =>
   obtain⟨i,w,hw,h2,_⟩:=QZ ws 0 b o hg;have:=(List.getElem?_eq_some_iff.1 hw).1;omega
theorem aIs {ws:List nC} {i j:Nat} {w:nC} (hw:ws[i]?=some w) (hj:j<w.2.2.length):aI (BO ws).look ⟨2*i+1,j,none⟩=some (.int .u8 (w.2.2[j]:Int)):=by
 have hne:w.2.2≠[]:=fun e=>by rw[e] at hj;cases hj
 have:=Ra ws 0 i w hw hne;rw[Nat.zero_add] at this;have h':(BO ws).look (2*i+1)=some (EO w.2.2):=this;unfold aI;rw[h'];simp only[EO];unfold cellAt;rw[PT.sF,xk _ hj];simp[hj]
def EP (nil:Bool) (i len cap:Nat):Value:=if nil=true then .slice none 0 0 else .slice (some ⟨2*i+1,0,none⟩) len cap
end Go.Dust
end
namespace Go.Dust
open Go.ChangeShapes Go.RowKit Go.WideShapes
section
variable {H:Type} {enc:TypeId×Value→H} {P:Program} {W:World} {base:Nat} {sp:Nat→Bool} {held:Bool} {r:Reach} {b:Nat}
theorem aIh {n:Int} (h:(Lit.int IntKind.u8 n).wf=true):∃ m:Nat,m<256∧n=(m:Int):=by
 unfold Lit.wf at h;rw[Bool.and_eq_true,decide_eq_true_eq,decide_eq_true_eq] at h;have h1:IntKind.u8.min=0:=rfl;have h2:IntKind.u8.max=255:=rfl;rw[h1,h2] at h;exact⟨n.toNat,by omega,by omega⟩
theorem YX {e:TypeId} (he:P.underlying e=some (.int .u8)) {n:Nat} {cs:List Value} {y:DataW H×List MemPlace} (h:DataW.trod enc P W base sp held n e cs=some y):∃ m:Nat,m<256∧cs=[.int .u8 (m:Int)]:=by
 obtain⟨k,rfl,_,hw⟩:=DataW.trod_int he h;obtain⟨m,hm,rfl⟩:=aIh hw;exact⟨m,hm,rfl⟩
theorem qu {a e:TypeId} {k:Nat} (ha:P.underlying a=some (.array k e)) (he:P.underlying e=some (.int .u8)) (hc:P.cellsOf e=1) {n:Nat} {cs:List Value} {y:DataW H×List MemPlace} (h:DataW.trod enc P W base sp held n a cs=some y) :
  ∀ i,i<k→∃ m:Nat,m<256∧cs[i]?=some (.int .u8 (m:Int)):=by
 obtain⟨xs,m,_,_,_,hl,hx⟩:=DataW.trod_array ha h;intro i hi;have:=hx i hi;rw[List.getElem?_eq_getElem (by omega)] at this;obtain⟨m',hm,hcs⟩:=YX he this;rw[hc,Nat.mul_one] at hcs;refine⟨m',hm,?_⟩;have h0:((cs.drop i).take 1)[0]?=some (.int .u8 (m':Int)):=by rw[hcs];rfl
 rw[List.getElem?_take,if_pos (by omega),List.getElem?_drop,Nat.add_zero] at h0;exact h0
theorem Qk {e:TypeId} (he:P.underlying e=some (.int .u8)) {n:Nat} {cs:List Value} {y:DataW H×List MemPlace} (h:DataW.trod enc P W base sp held n e cs=some y):∀ i,i<1→∃ m:Nat,m<256∧cs[i]?=some (.int .u8 (m:Int)):=by
 obtain⟨m,hm,rfl⟩:=YX he h;intro i hi;obtain rfl:i=0:=by omega
 exact⟨m,hm,rfl⟩
theorem Us {W:World} {bL off:Nat} {v:Value} (h:W.cell? ⟨bL,off,none⟩=some v):∃ arr e' fz,W.heap[bL]?=some (.cells arr e' fz)∧arr[off]?=some v:=by
 unfold World.cell? at h;split at h
 ·rename_i c e' fz hh;exact⟨c,e',fz,hh,by simpa using h⟩
 ·cases h
structure qY (W:World) (k:Nat) (x:Value) (nil:Bool) (w:nC) (len cap:Nat):Prop where
 OJ:si W w
 hlen:w.2.2.length=len*k
 bY:∀ m∈w.2.2,m<256
 mQ:nil=true→x=.slice none 0 0∧len=0∧cap=0
 aAe:nil=false→x=.slice (some ⟨w.1,w.2.1,none⟩) len cap
theorem QD {t e:TypeId} {k fuel:Nat} {x:Value} {y:DataW H×List MemPlace} (ht:P.underlying t=some (.slice e)) (hc:P.cellsOf e=k) (hk:0<k)
  (hel:∀ n cs y,DataW.trod enc P W base sp held n e cs=some y→∀ i,i<k→∃ m:Nat,m<256∧cs[i]?=some (.int .u8 (m:Int)))
  (hT:DataW.trod enc P W base sp held fuel t [x]=some y) (hv:Cell.okWide P W r b t x):∃ nil w len cap,qY W k x nil w len cap:=by
 rcases DataW.trod_slice ht hT with ⟨hx,_⟩ | ⟨a,len,cap,elems,rest,n,_,hx,_,_,hl,_,hlen,Y3,_⟩
 ·refine⟨true,(0,0,[]),0,0,⟨.inl rfl,by simp,fun m hm=>(by cases hm),fun _=>⟨by simpa using hx,rfl,rfl⟩,fun h=>(by cases h)⟩⟩
 ·have hx:x=.slice (some a) len cap:=by simpa using hx
  subst hx;obtain⟨bL,off,spot⟩:=a;have hs:spot=none:=by
   simp only[Cell.okWide,ht,Cell.ok,World.has] at hv;obtain⟨_,_,_,hs,_⟩:=hv;exact hs
  subst hs;have each:∀ i,i<len*k→∃ m:Nat,m<256∧∃ arr e' fz,W.heap[bL]?=some (.cells arr e' fz)∧arr[off+i]?=some (.int .u8 (m:Int)):=by
   intro i hi;have hq:i/k<len:=(Nat.div_lt_iff_lt_mul hk).2 hi;have hr:i%k<k:=Nat.mod_lt _ hk;have:=Y3 (i/k) hq;rw[List.getElem?_eq_getElem (by omega),Option.bind_eq_some_iff] at this;obtain⟨cs,h1,h2⟩:=this;obtain⟨m,hm,h3⟩:=hel _ _ _ h2 (i%k) hr;obtain⟨_,_,h4⟩:=World.cells?_some h1;rw[hc] at h4;have h5:=h4 (i%k) hr;rw[h3] at h5;have e:((⟨bL,off,none⟩:Addr).add (i/k*k)).add (i%k)=⟨bL,off+i,none⟩:=by
    have h':=Nat.div_add_mod' i k;rw[bJ,bJ,Nat.add_assoc,h']
   rw[e] at h5;obtain⟨arr,e',fz,h6,h7⟩:=Us h5;exact⟨m,hm,arr,e',fz,h6,h7⟩
  have pick:∀ i,∃ m:Nat,i<len*k→m<256∧∃ arr e' fz,W.heap[bL]?=some (.cells arr e' fz)∧arr[off+i]?=some (.int .u8 (m:Int)):=fun i=>by
   by_cases hi:i<len*k
   ·obtain⟨m,h⟩:=each i hi;exact⟨m,fun _=>h⟩
   ·exact⟨0,fun h=>absurd h hi⟩
  obtain⟨f,hf⟩:=Classical.axiomOfChoice pick;have UK:((List.range (len*k)).map f).length=len*k:=by simp
  refine⟨false,(bL,off,(List.range (len*k)).map f),len,cap,⟨?_,UK,fun m hm=>?_,fun h=>(by cases h),fun _=>rfl⟩⟩
  ·by_cases h0:len*k=0
   ·left;show (List.range (len*k)).map f=[];rw[h0];rfl
   ·right;obtain⟨_,arr,e',fz,h6,_⟩:=hf 0 (by omega);refine⟨arr,e',fz,h6,fun i hi=>?_⟩;have hi:i<len*k:=by simpa using hi
    obtain⟨_,arr',e2,fz2,h8,h9⟩:=hf i hi;rw[h6] at h8;cases h8;simpa using h9
  ·obtain⟨i,hi,rfl⟩:=List.mem_map.1 hm;exact(hf i (List.mem_range.1 hi)).1
end
theorem qY.vr {W:World} {k:Nat} {x:Value} {nil:Bool} {w:nC} {len cap:Nat} (h:qY W k x nil w len cap) {ws:List nC} {i:Nat} (hw:ws[i]?=some w):VR (wC ws) (EP nil i len cap) x:=by
 cases nil with
 | true =>
  rw[(h.mQ rfl).1];exact .zL 0 0
 | false =>
  rw[h.aAe rfl];have:=VR.slice (ι:=wC ws) (b:=2*i+1) (o:=0) len cap (Se hw);simpa [EP] using this
end Go.Dust
namespace Go.Dust
open Go.Proofs Go.ChangeShapes Go.RowKit Go.WideShapes
set_option maxRecDepth 100000
set_option maxHeartbeats 4000000
theorem Ut:Tryz.prog.cellTypes Tryz.prog.depth 27=some [5,5,22,23,24,25,23]:=by kernel_rfl
theorem Vb:Tryz.prog.cellsOf 27=7:=by kernel_rfl
theorem FD:Tryz.prog.cellsOf 5=1:=by kernel_rfl
theorem Uu:Tryz.prog.cellsOf 105=4:=by kernel_rfl
theorem Uv:Tryz.prog.cellsOf 106=3:=by kernel_rfl
theorem Uw:Tryz.prog.cellsOf 109=2:=by kernel_rfl
theorem Ux:Tryz.prog.cellsOf 22=1:=by kernel_rfl
theorem xv:Tryz.prog.cellsOf 23=1:=by kernel_rfl
theorem Uy:Tryz.prog.cellsOf 24=1:=by kernel_rfl
theorem Uz:Tryz.prog.cellsOf 25=1:=by kernel_rfl
section
variable {H:Type} {enc:TypeId×Value→H} {W:World} {r:Reach} {b:Nat}
theorem Tg {v:Value} {d:DataW H} {p:List MemPlace} (hT:DataW.Trod enc Tryz.prog W 0 (fun _=>true) true 27 v d p) (hv:Value.okWide Tryz.prog W r b 27 v) :
  ∃ (x0 x1:Nat) (y2 y3 y4 y5 y6:Value),x0<256∧x1<256∧v=.agg #[u8 x0,u8 x1,y2,y3,y4,y5,y6]∧(∃ n w l c,qY W 4 y2 n w l c)∧(∃ n w l c,qY W 1 y3 n w l c)∧(∃ n w l c,qY W 3 y4 n w l c)∧(∃ n w l c,qY W 2 y5 n w l c)∧(∃ n w l c,qY W 1 y6 n w l c):=by
 simp only[Value.okWide,Tryz.underlying27] at hv;obtain⟨cs,rfl,hn,ts,h1,_,h2⟩:=hv;rw[Ut] at h1;cases h1;rw[Vb] at hn;rcases cs with ⟨l⟩;have hl:l.length=7:=hn
 match l,hl with
 | [y0,y1,y2,y3,y4,y5,y6],_ =>
 obtain⟨fuel,hT⟩:=hT;have hcs:(Value.agg ⟨[y0,y1,y2,y3,y4,y5,y6]⟩).cells.toList=[y0,y1,y2,y3,y4,y5,y6]:=rfl;rw[hcs] at hT;obtain⟨xs,n,_,_,_,VC,hx⟩:=DataW.trod_struct Tryz.underlying27 hT;have VC:xs.length=7:=VC;have ok:∀ (i:Nat) y,[y0,y1,y2,y3,y4,y5,y6][i]?=some y→∃ u,[5,5,22,23,24,25,23][i%7]?=some u∧Cell.okWide Tryz.prog W r b u y:=fun i y hy=>h2 i y (by simpa using hy);have t0:DataW.trod enc Tryz.prog W 0 (fun _=>true) true n 5 (([y0,y1,y2,y3,y4,y5,y6].drop 0).take (Tryz.prog.cellsOf 5))=xs[0]?:=hx 0 _ rfl;rw[FD,List.getElem?_eq_getElem (by omega)] at t0;have t1:DataW.trod enc Tryz.prog W 0 (fun _=>true) true n 5 (([y0,y1,y2,y3,y4,y5,y6].drop 1).take (Tryz.prog.cellsOf 5))=xs[1]?:=hx 1 _ rfl;rw[FD,List.getElem?_eq_getElem (by omega)] at t1;have t2:DataW.trod enc Tryz.prog W 0 (fun _=>true) true n 22 (([y0,y1,y2,y3,y4,y5,y6].drop 2).take (Tryz.prog.cellsOf 22))=xs[2]?:=hx 2 _ rfl;rw[Ux,List.getElem?_eq_getElem (by omega)] at t2;have t3:DataW.trod enc Tryz.prog W 0 (fun _=>true) true n 23 (([y0,y1,y2,y3,y4,y5,y6].drop 3).take (Tryz.prog.cellsOf 23))=xs[3]?:=hx 3 _ rfl;rw[xv,List.getElem?_eq_getElem (by omega)] at t3;have t4:DataW.trod enc Tryz.prog W 0 (fun _=>true) true n 24 (([y0,y1,y2,y3,y4,y5,y6].drop 4).take (Tryz.prog.cellsOf 24))=xs[4]?:=hx 4 _ rfl;rw[Uy,List.getElem?_eq_getElem (by omega)] at t4;have t5:DataW.trod enc Tryz.prog W 0 (fun _=>true) true n 25 (([y0,y1,y2,y3,y4,y5,y6].drop 5).take (Tryz.prog.cellsOf 25))=xs[5]?:=hx 5 _ rfl;rw[Uz,List.getElem?_eq_getElem (by omega)] at t5;have t6:DataW.trod enc Tryz.prog W 0 (fun _=>true) true n 23 (([y0,y1,y2,y3,y4,y5,y6].drop 6).take (Tryz.prog.cellsOf 23))=xs[6]?:=hx 6 _ rfl;rw[xv,List.getElem?_eq_getElem (by omega)] at t6;obtain⟨x0,hx0,e0⟩:=YX Tryz.underlying5 t0;obtain⟨x1,hx1,e1⟩:=YX Tryz.underlying5 t1;have e0:y0=u8 x0:=by simpa using e0
 have e1:y1=u8 x1:=by simpa using e1
 obtain⟨_,u2,o2⟩:=ok 2 y2 rfl;obtain⟨_,u3,o3⟩:=ok 3 y3 rfl;obtain⟨_,u4,o4⟩:=ok 4 y4 rfl;obtain⟨_,u5,o5⟩:=ok 5 y5 rfl;obtain⟨_,u6,o6⟩:=ok 6 y6 rfl;cases u2;cases u3;cases u4;cases u5;cases u6;refine⟨x0,x1,y2,y3,y4,y5,y6,hx0,hx1,by rw[e0,e1],?_,?_,?_,?_,?_⟩
 ·exact QD Tryz.underlying22 Uu (by omega) (fun _ _ _ h=>qu Tryz.underlying105 Tryz.underlying5 FD h) t2 o2
 ·exact QD Tryz.underlying23 FD (by omega) (fun _ _ _ h=>Qk Tryz.underlying5 h) t3 o3
 ·exact QD Tryz.underlying24 Uv (by omega) (fun _ _ _ h=>qu Tryz.underlying106 Tryz.underlying5 FD h) t4 o4
 ·exact QD Tryz.underlying25 Uw (by omega) (fun _ _ _ h=>qu Tryz.underlying109 Tryz.underlying5 FD h) t5 o5
 ·exact QD Tryz.underlying23 FD (by omega) (fun _ _ _ h=>Qk Tryz.underlying5 h) t6 o6
end
theorem qY.sl {W:World} {k:Nat} {x:Value} {nil:Bool} {w:nC} {len cap:Nat} (h:qY W k x nil w len cap) {ws:List nC} {i:Nat} (hw:ws[i]?=some w):iG (BO ws).next (BO ws) k (EP nil i len cap) len:=by
 have hi:=(List.getElem?_eq_some_iff.1 hw).1;cases nil with
 | true =>
  obtain⟨_,rfl,rfl⟩:=h.mQ rfl;exact⟨none,0,rfl,fun h=>absurd h (Nat.lt_irrefl _)⟩
 | false =>
  refine⟨some ⟨2*i+1,0,none⟩,cap,rfl,fun _=>⟨2*i+1,0,rfl,?_,fun j hj=>?_⟩⟩
  ·show 2*i+1<2*ws.length+1;omega
  ·have fp:j<w.2.2.length:=by rw[h.hlen];exact hj
   refine⟨w.2.2[j],h.bY _ (List.getElem_mem fp),?_⟩;rw[Nat.zero_add];exact aIs hw fp
theorem aIq {ι:aP} {l l':List Value} (h:bQ ι l l'):VR ι (.agg ⟨l⟩) (.agg ⟨l'⟩):=by
 have key:∀ {l l':List Value},bQ ι l l'→l.length=l'.length∧∀ (i:Nat) v u,l[i]?=some v→l'[i]?=some u→VR ι v u:=by
  intro l l' h
  induction h with
  | nil=>exact⟨rfl,fun i v u h=>by simp at h⟩
  | cons h _ ih =>
   refine⟨by simp[ih.1],fun i v u hv hu=>?_⟩;cases i with
   | zero=>cases hv;cases hu;exact h
   | succ i=>exact ih.2 i v u (by simpa using hv) (by simpa using hu)
 exact .agg (key h).1 fun i v u hv hu=>(key h).2 i v u (by simpa using hv) (by simpa using hu)
open Go.Proofs Go.ChangeShapes Go.RowKit Go.WideShapes
set_option maxRecDepth 100000
set_option maxHeartbeats 4000000
theorem aCn {W:World} {x0 x1 o0:Nat} (hx0:x0<256) (hx1:x1<256) (ho:o0<256) {y2 y3 y4 y5 y6:Value} (S2:∃ n w l c,qY W 4 y2 n w l c) (S3:∃ n w l c,qY W 1 y3 n w l c) (S4:∃ n w l c,qY W 3 y4 n w l c) (S5:∃ n w l c,qY W 2 y5 n w l c) (S6:∃ n w l c,qY W 1 y6 n w l c) :
  Calls Tryz.prog 7 #[.agg #[u8 x0,u8 x1,y2,y3,y4,y5,y6],u8 o0] W fun e W'=>e=.returned (.bool true)∧Below W.heap.size W W':=by
 obtain⟨n2,w2,l2,c2,S2⟩:=S2;obtain⟨n3,w3,l3,c3,S3⟩:=S3;obtain⟨n4,w4,l4,c4,S4⟩:=S4;obtain⟨n5,w5,l5,c5,S5⟩:=S5;obtain⟨n6,w6,l6,c6,S6⟩:=S6;obtain⟨ws,JU⟩:∃ ws,ws=[w2,w3,w4,w5,w6]:=⟨_,rfl⟩;have g2:ws[0]?=some w2:=by rw[JU];rfl
 have g3:ws[1]?=some w3:=by rw[JU];rfl
 have g4:ws[2]?=some w4:=by rw[JU];rfl
 have g5:ws[3]?=some w5:=by rw[JU];rfl
 have g6:ws[4]?=some w6:=by rw[JU];rfl
 have hR:RS Tryz.prog (wC ws) (BO ws) W:=aI1 _ fun w hw=>by
  rw[JU] at hw;simp only[List.mem_cons,List.not_mem_nil,or_false] at hw;rcases hw with rfl | rfl | rfl | rfl | rfl
  ·exact S2.OJ
  ·exact S3.OJ
  ·exact S4.OJ
  ·exact S5.OJ
  ·exact S6.OJ
 have hok:=aBo (q:=true) (Φ:=fun v _=>v=.bool true) (okw ws) hx0 hx1 ho (S2.sl g2) (S3.sl g3) (S4.sl g4) (S5.sl g5) (S6.sl g6) fun _ _=>rfl;rw[← TC] at hok;have hargs:bQ (wC ws) [.agg #[u8 x0,u8 x1,EP n2 0 l2 c2,EP n3 1 l3 c3,EP n4 2 l4 c4,EP n5 3 l5 c5,EP n6 4 l6 c6],u8 o0] (#[.agg #[u8 x0,u8 x1,y2,y3,y4,y5,y6],u8 o0]:Array Value).toList :=
  .cons (aIq (.cons (.int _ _) (.cons (.int _ _) (.cons (S2.vr g2) (.cons (S3.vr g3) (.cons (S4.vr g4) (.cons (S5.vr g5) (.cons (S6.vr g6) .nil)))))))) (.cons (.int _ _) .nil)
 obtain⟨fn,hfn,hb⟩:∃ fn,Tryz.prog.funcs[7]?=some fn∧fn.body.isSome=true:=⟨_,rfl,by kernel_rfl⟩;refine(xr mixed aEa hfn hb hR hargs hok).mono ?_;rintro e W' ⟨v,s',ι',v',rfl,hv',_,hE,rfl⟩;exact⟨by rw[hv'.tD],hE.os,hE.tape,hE.output,hE.size,fun k hk=>hE.aD k hk aEe⟩
end Go.Dust
namespace Go.Proofs.YtaoiejcaopgjcaaGreat.verifyMarks
open Go.ChangeShapes Go.WideShapes Go.ChangeAt Go.RowKit
noncomputable abbrev P:Program:=Tryz.prog
noncomputable abbrev c:OpenClaim:=Rows.verifyMarksRow
noncomputable abbrev s:ChangeSpec:=Rows.verifyMarksSpec
noncomputable abbrev fn:Func:=Tryz.f7
abbrev f:FuncId:=7
theorem iS {a b:Bool} (ha:a=true) (hb:b=true):(a&&b)=true:=by rw[ha,hb];rfl
theorem j1:(c.wf (OpenSpec.ofChange s))=true:=by kernel_rfl
theorem j2:(laidOutB P)=true:=by kernel_rfl
theorem j3:(mapsRowed P)=true:=by kernel_rfl
theorem j4:(fn.params.all (P.readableRec ·))=true:=by kernel_rfl
theorem j5:(namedTie P c.named s.vars)=true:=by kernel_rfl
theorem j6:((c.stops==[]))=true:=by kernel_rfl
theorem j7:((P.stops==[]))=true:=by kernel_rfl
theorem j8:((c.knobs==[]))=true:=by kernel_rfl
theorem j9:((P.stopKnobs==[]))=true:=by kernel_rfl
theorem j10:((c.inPlace==P.inPlace f))=true:=by kernel_rfl
theorem j11:((c.unfollowed==P.unfollowed f))=true:=by kernel_rfl
theorem j12:((c.recurses==P.recurses f))=true:=by kernel_rfl
theorem j13:((c.named==P.varsNamed f))=true:=by kernel_rfl
theorem j14:((c.maps==(fn.params.toList++s.plain.varTypes P).any (P.mapsRec ·)))=true:=by kernel_rfl
theorem j15:((c.ifaces==(fn.params.toList++s.plain.varTypes P).any (P.ifacesRec ·)))=true:=by kernel_rfl
theorem j16:((c.mapsOut==P.mapsAmong fn.resultTypes.toList))=true:=by kernel_rfl
theorem j17:((c.loops==(fn.params.toList++s.plain.varTypes P).any (P.loopsFrom ·)))=true:=by kernel_rfl
theorem j18:((c.wideKeys==(fn.params.toList++s.plain.varTypes P++fn.resultTypes.toList).any (P.wideKeysFrom ·)))=true:=by kernel_rfl
theorem j19:(s.vars.all (P.varReadable ·))=true:=by kernel_rfl
theorem j20:(fn.resultTypes.all (fun t=>P.readableRec t&&decide (t<P.types.size)))=true:=by kernel_rfl
theorem j21:((c.ifacesOut==fn.resultTypes.toList.any (P.ifacesRec ·)))=true:=by kernel_rfl
theorem j22:((c.loopsOut==fn.resultTypes.toList.any (P.loopsFrom ·)))=true:=by kernel_rfl
theorem j23:((c.plainKeys==P.plainKeys))=true:=by kernel_rfl
theorem j24:(c.shortTexts.isNone)=true:=by kernel_rfl
theorem j25:(P.stopsHeard)=true:=by kernel_rfl
theorem j26:(P.mayEnter)=true:=by kernel_rfl
theorem j27:((c.lifted==P.liftsFinal))=true:=by kernel_rfl
theorem j28:((P.make==some c.make))=true:=by kernel_rfl
theorem j29:((c.kinds==(if c.domain.isEmpty then [] else fn.params.toList.map fun t=>match P.underlying t with | some (.int k)=>some k | _=>none)))=true:=by kernel_rfl
theorem j30:((c.pinned==c.pinnedBy))=true:=by kernel_rfl
theorem j31:((c.veiled==(fn.params.toList++s.plain.varTypes P++fn.resultTypes.toList).any (P.veiledRec ·)))=true:=by kernel_rfl
theorem j32:(c.veiledFits P fn.params.toList (fn.params.toList++s.plain.varTypes P++fn.resultTypes.toList))=true:=by kernel_rfl
set_option maxRecDepth 100000 in
theorem closed:joinedFacts Tryz.prog 7 Tryz.f7 Rows.verifyMarksSpec Rows.verifyMarksRow=true:=iS (iS (iS (iS (iS (iS (iS (iS (iS (iS (iS (iS (iS (iS (iS (iS (iS (iS (iS (iS (iS (iS (iS (iS (iS (iS (iS (iS (iS (iS (iS j1 j2) j3) j4) j5) j6) j7) j8) j9) j10) j11) j12) j13) j14) j15) j16) j17) j18) j19) j20) j21) j22) j23) j24) j25) j26) j27) j28) j29) j30) j31) j32
theorem named:Tryz.prog.funcNamed Rows.verifyMarksRow.func=some 7:=by kernel_rfl
end Go.Proofs.YtaoiejcaopgjcaaGreat.verifyMarks
