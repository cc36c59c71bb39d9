/- The plain interpreter D and its laws (Eo G0 Ep O4 K1 K2 K4 K3). -/
import Derived.Test.YtaoiejcaopgjcaaGreatJ
import Derived.Test.YtaoiejcaopgjcaaGreatQ
import Derived.Test.YtaoiejcaopgjcaaGreatY
import Derived.Test.YtaoiejcaopgjcaaGreatX
set_option linter.unusedVariables false
set_option linter.unusedSimpArgs false
namespace Go.Dust
theorem VR.back {ι ι':aP} (hle:ι.le ι') {v u:Value} (h:VR ι v u):∀ {u':Value},VR ι' v u'→VR ι v u':=by
 have arr:∀ {a a' b:Array Value},a.size=a'.size→(∀ (i:Nat) v u,a[i]?=some v→a'[i]?=some u→∀ {u'},VR ι' v u'→VR ι v u')→(∀ (i:Nat) v u,a[i]?=some v→b[i]?=some u→VR ι' v u)→∀ (i:Nat) v u,a[i]?=some v→b[i]?=some u→VR ι v u:=by
  intro a a' b hs ih h i v u hv hu;have hi:i<a'.size:=by
   rw[← hs];exact(Array.getElem?_eq_some_iff.1 hv).1
  exact ih i v a'[i] hv (Array.getElem?_eq_getElem hi) (h i v u hv hu)
 have nm:∀ {b:Nat} {l l':Loc},ι b=some l→ι' b=some l'→l'=l:=by
  intro b l l' h h';have:=hle _ _ h;rw[h'] at this;exact Option.some.inj this
 induction h with
 | bool b=>intro u' k;cases k;exact .bool b
 | int k n=>intro u' k;cases k;exact .int _ n
 | float k n=>intro u' k;cases k;exact .float _ n
 | string s=>intro u' k;cases k;exact .string s
 | KL=>intro u' k;cases k;exact .KL
 | ptr h =>
  intro u' k;cases k with
  | ptr k=>cases nm h k;exact .ptr h
 | zL n c=>intro u' k;cases k;exact .zL n c
 | slice n c h =>
  intro u' k;cases k with
  | slice _ _ k=>cases nm h k;exact .slice _ _ h
 | sQ h =>
  intro u' k;cases k with
  | sQ k=>cases nm h k;exact .sQ h
 | OW=>intro u' k;cases k;exact .OW
 | map h =>
  intro u' k;cases k with
  | map k=>cases nm h k;exact .map h
 | func ha hc _ _ ih1 ih2 =>
  intro u' k;cases k with
  | func ha' hc' k1 k2=>exact .func ha' hc' (arr ha ih1 k1) (arr hc ih2 k2)
 | GY ha hc _ _ ih1 ih2 =>
  intro u' k;cases k with
  | GY ha' hc' k1 k2=>exact .GY ha' hc' (arr ha ih1 k1) (arr hc ih2 k2)
 | yield h =>
  intro u' k;cases k with
  | yield k=>cases nm h k;exact .yield h
 | nilFunc=>intro u' k;cases k;exact .nilFunc
 | nilIface=>intro u' k;cases k;exact .nilIface
 | iface t _ ih =>
  intro u' k;cases k with
  | iface _ k=>exact .iface t (ih k)
 | agg ha _ ih =>
  intro u' k;cases k with
  | agg ha' k=>exact .agg ha' (arr ha ih k)
 | tuple ha _ ih =>
  intro u' k;cases k with
  | tuple ha' k=>exact .tuple ha' (arr ha ih k)
theorem ER.back {ι ι':aP} (hle:ι.le ι') {e x y:MapEntry} (h:ER ι e x) (k:ER ι' e y):ER ι e y:=⟨h.1.back hle k.1,h.2.back hle k.2,k.3⟩
theorem fB.back {ι ι':aP} (hle:ι.le ι'):∀ {l l' l'':List MapEntry},fB ι l l'→fB ι' l l''→fB ι l l''
 | _,_,_,.nil,.nil=>.nil
 | _,_,_,.cons h t,.cons k u=>.cons (h.back hle k) (fB.back hle t u)
theorem jD.back {X:Env} {ι ι':aP} {w w':World} {l:Loc} (hle:ι.le ι'):∀ {o:bU},jD X ι w l o→jD X ι' w' l o→jD X ι w' l o
 | .cells ..,h,k=>by
  obtain⟨arr,e',fz,h1,h2,h3,h4,h5,h6,h7⟩:=h;obtain⟨arr',e'',fz',k1,k2,k3,k4,k5,k6,k7⟩:=k;refine⟨arr',e'',fz',k1,k2,k3,k4,k5,k6,fun i hi=>?_⟩;obtain⟨v,u,a,b,c⟩:=h7 i hi;obtain⟨v',u',a',b',c'⟩:=k7 i hi;rw[a] at a';cases a';exact⟨v,u',a,b',c.back hle c'⟩
 | .map ..,h,k=>by
  obtain⟨h0,h1,h2,es',h3,h4⟩:=h;obtain⟨_,_,_,es'',k3,k4⟩:=k;exact⟨h0,h1,h2,es'',k3,h4.back hle k4⟩
 | .gC none ..,h,k=>k
 | .gC (some m) ..,h,k=>by
  obtain⟨h0,h1,h2,lm,h3,h4⟩:=h;obtain⟨_,_,_,lm',k3,k4⟩:=k;have:=hle _ _ h3;rw[k3] at this;cases this;exact⟨h0,h1,h2,lm,h3,k4⟩
 | .pF ..,h,k=>k
 | .loop ..,h,k=>by
  obtain⟨h0,h1,h2,h3,h4,h4',r,h5,h6,h7,h8,h9,h10,h11,h12⟩:=h;obtain⟨_,_,_,_,_,_,r',k5,k6,k7,k8,k9,k10,k11,k12⟩:=k;exact⟨h0,h1,h2,h3,h4,h4',r',k5,k6,k7,k8,k9,k10,k11,fun i hi=>(h12 i hi).back hle (k12 i hi)⟩
 | .dead,_,_=>trivial
theorem R.back {X:Env} {ι ι':aP} {H H':bG} {n n':Nat} {w w':World} (h:R X ι H n w) (k:R X ι' H' n' w') (e:Ext ι H n w ι' H' n' w') (hk:∀ b o,H b=some o→o.cS=false→H' b=some o):R X ι H n w':=by
 refine⟨h.even,h.jZ,h.fresh,fun b l hb hl=>Nat.lt_of_lt_of_le (h.sK b l hb hl) e.size,fun b o hb hd=>?_,h.inj⟩;obtain⟨l,h1,h2⟩:=h.obj b o hb hd;obtain⟨l',k1,k2⟩:=k.obj b o (hk b o hb hd) hd;have:=e.le _ _ h1;rw[k1] at this;cases this;exact⟨l,h1,h2.back e.le k2⟩
theorem Ext.back {ι ι':aP} {H H':bG} {n n':Nat} {w w':World} (e:Ext ι H n w ι' H' n' w'):Ext ι H n w ι H n w' :=
 ⟨aP.le_refl _,fun _ h _=>h,Nat.le_refl _,e.os,e.tape,e.output,e.size,e.aD,fun _ h=>.inl h⟩
end Go.Dust
namespace Go.Dust
open Go.Proofs Go.ChangeShapes Go.RowKit Go.WideShapes
set_option maxRecDepth 100000
set_option maxHeartbeats 1000000
theorem jD.bL {Y:Env} {ι:aP} {w:World} {l:Loc} {o:bU} (h:jD Y ι w l o) (hd:o.cS=false):l.bL<w.heap.size:=by
 have:∀ x,w.heap[l.bL]?=some x→l.bL<w.heap.size:=fun x hx=>(Array.getElem?_eq_some_iff.1 hx).1;cases o with
 | cells c z n e room ro aT=>obtain⟨arr,e',fz,h1,_⟩:=h;exact this _ h1
 | map es aO aT=>obtain⟨_,_,_,es',h1,_⟩:=h;exact this _ h1
 | gC m a b c d =>
  cases m with
  | none=>obtain⟨_,_,_,a,b,c,h1⟩:=h;exact this _ h1
  | some m=>obtain⟨_,_,_,lm,_,h1⟩:=h;exact this _ h1
 | pF a b c=>exact this _ h.2.2.2
 | loop st p t nt ps sa bd v=>obtain⟨_,_,_,_,_,_,r,h1,_⟩:=h;exact this _ h1
 | dead=>cases hd
theorem Sr {P:Program} {ι:aP} {s:St} {W W':World} (hR:RS P ι s W) (hb:Below W.heap.size W W'):RS P ι s W'∧ES ι s W ι s W':=by
 refine⟨⟨hR.even,hR.jZ,hR.fresh,fun b l hl hr=>Nat.lt_of_lt_of_le (hR.sK b l hl hr) hb.size,fun b o hb' hd=>?_,hR.inj⟩,aP.le_refl _,fun _ h _=>h,Nat.le_refl _,hb.os,hb.tape,hb.output,hb.size,fun c hc _=>hb.block c hc,fun _ h=>.inl h⟩;obtain⟨l,h1,h2⟩:=hR.obj b o hb' hd;exact⟨l,h1,h2.mono (aP.le_refl _) (hb.block _ (h2.bL hd))⟩
theorem Jg:WZ Tryz.prog.funcs.toList=true:=by kernel_rfl
theorem TC:env Tryz.prog=X:=yw Jg
theorem mixed:Tryz.prog.follows .mixedOrders=true:=by kernel_rfl
theorem Tc:yU (TB Tryz.prog) 100000 (.call 15 []) EH KM Fg=true:=by kernel_rfl
theorem Td:isTrue (lV (env Tryz.prog) 100000 15 [] EH)=true:=by
 rw[yw Jg];exact aB5 Tc
theorem Jz {kc:Kc} (h1:∀ i args s r,kc i args s=some r→r.Lv fun p=>dN s p.2)
  (h2:∀ i args (args':Array Value) s r w ι Φ,kc i args s=some r→r.iF Φ→bQ ι args args'.toList→RS Tryz.prog ι s w→Calls Tryz.prog (if i=0 then 11 else 25) args' w (IE Tryz.prog ι s w Φ)):FA Tryz.prog (KO kc):=by
 refine⟨fun f args s r h=>?_,fun f args s r h=>?_,fun f args args' s r w ι Φ h ha hv hR=>?_⟩
 ·unfold KO at h;split at h
  ·cases h;exact .refl _
  ·split at h
   ·exact h1 _ _ _ _ h
   ·split at h
    ·exact h1 _ _ _ _ h
    ·cases h
 ·rw[TC];unfold KO at h;split at h
  ·rename_i hf;rw[hf.1];exact⟨_,rfl,by kernel_rfl⟩
  ·split at h
   ·rename_i hf;rw[hf];exact⟨_,rfl,by kernel_rfl⟩
   ·split at h
    ·rename_i hf;rw[hf];exact⟨_,rfl,by kernel_rfl⟩
    ·cases h
 ·unfold KO at h;split at h
  ·rename_i hf;obtain⟨rfl,hargs⟩:=hf;cases h;obtain rfl:args=[]:=List.isEmpty_iff.1 hargs;have hv':bQ AB [] args'.toList:=by
    cases hl:args'.toList with
    | nil=>exact .nil
    | cons x l=>rw[hl] at hv;cases hv
   obtain⟨fn,hfn,hb⟩:∃ fn,Tryz.prog.funcs[15]?=some fn∧fn.body.isSome=true:=⟨_,rfl,by kernel_rfl⟩;refine(Un mixed hfn hb hv' Td).mono ?_;rintro e W' ⟨rfl,hbl⟩;obtain⟨g1,g2⟩:=Sr hR hbl;exact⟨.bool true,.bool true,s,ι,rfl,ha,.bool true,g1,g2⟩
  ·split at h
   ·rename_i hf;subst hf;exact h2 0 _ _ _ _ _ _ _ h ha hv hR
   ·split at h
    ·rename_i hf;subst hf;exact h2 1 _ _ _ _ _ _ _ h ha hv hR
    ·cases h
theorem aEb:FA Tryz.prog (KO Iu):=Jz (fun _ _ _ _ h=>by cases h) (fun _ _ _ _ _ _ _ _ h=>by cases h)
end Go.Dust
namespace Go.Dust
theorem R.Te {X:Env} {ι ι':aP} {H H':bG} {n n':Nat} {w w':World} (h:R X ι H n w) (k:R X ι' H' n' w') (e:Ext ι H n w ι' H' n' w') (hk:∀ b o,H b=some o→o.cS=false→H' b=some o)
  (bY:∀ b o,H b=some o→b<n) {b':Nat} {o' o'':bU} {l l':Loc} (hb:H' b'=some o') (hd:o'.cS=false) (hn:n≤b') (hl:ι' b'=some l) (hro:l.ro=false) (hblk:l'.bL=l.bL) (hro':l'.ro=false)
  (ho:jD X (ι.add n l') w' l' o'') :
  R X (ι.add n l') (fI H n o'') (n+2) w'∧Ext ι H n w (ι.add n l') (fI H n o'') (n+2) w':=by
 have hfree:ι n=none:=h.fresh n (Nat.le_refl _) h.jZ;have hle:ι.le (ι.add n l'):=aP.sM hfree;have hne:∀ b lb,ι b=some lb→b≠n:=fun b lb hb hbn=>by rw[hbn,hfree] at hb;cases hb
 refine⟨⟨fun b=>?_,by have:=h.jZ;omega,fun b hb1 hb2=>?_,fun b lb hb1 hr=>?_,fun b ob hb1 hd1=>?_,fun b1 b2 o1 o2 l1 l2 h1 d1 h2 d2 g1 g2 hr heq=>?_⟩,⟨hle,fun b hb1 hb2=>?_,Nat.le_add_right _ _,e.os,e.tape,e.output,e.size,e.aD,fun c hc=>?_⟩⟩
 ·unfold aP.add;rw[if_neg (by have:=h.jZ;omega)];exact h.even b
 ·unfold aP.add;rw[if_neg (by omega)];exact h.fresh b (by omega) hb2
 ·unfold aP.add at hb1;split at hb1
  ·cases hb1;rw[hblk];exact k.sK b' l hl hro
  ·exact Nat.lt_of_lt_of_le (h.sK b lb hb1 hr) e.size
 ·unfold fI at hb1;split at hb1
  ·rename_i hbn;cases hb1;subst hbn;exact⟨l',aP.add_same _ _ _,ho⟩
  ·obtain⟨lb,g1,g2⟩:=h.obj b ob hb1 hd1;obtain⟨lb',k1,k2⟩:=k.obj b ob (hk b ob hb1 hd1) hd1;have:=e.le _ _ g1;rw[k1] at this;cases this;exact⟨lb,hle _ _ g1,(g2.back e.le k2).mono hle rfl⟩
 ·unfold fI at h1 h2;unfold aP.add at g1 g2;have key:∀ b o lb,H b=some o→o.cS=false→ι b=some lb→lb.bL=l.bL→False:=fun b o lb hb1 hd1 hl1 hbl=>by
   have hbn:=bY b o hb1;have:=k.inj b' b o' o l lb hb hd (hk b o hb1 hd1) hd1 hl (e.le _ _ hl1) hro hbl.symm;omega
  by_cases e1:b1=n
  ·by_cases e2:b2=n
   ·rw[e1,e2]
   ·rw[if_neg e2] at h2 g2;rw[if_pos e1] at g1;cases g1;exact(key b2 o2 l2 h2 d2 g2 (by rw[← heq,hblk])).elim
  ·rw[if_neg e1] at h1 g1;by_cases e2:b2=n
   ·rw[if_pos e2] at g2;cases g2;exact(key b1 o1 l1 h1 d1 g1 (by rw[heq,hblk])).elim
   ·rw[if_neg e2] at h2 g2;exact h.inj b1 b2 o1 o2 l1 l2 h1 d1 h2 d2 g1 g2 hr heq
 ·unfold aP.add;rw[if_neg (by omega)];exact hb1
 ·obtain⟨b,o,lb,h1,h2,h3,h4,h5⟩:=hc;unfold fI at h1;split at h1
  ·rename_i hbn;cases h1;rw[hbn,aP.add_same] at h3;cases h3;exact e.own c ⟨b',o',l,hb,hd,hl,hro,by rw[← hblk,h5]⟩
  ·rename_i hbn;unfold aP.add at h3;rw[if_neg hbn] at h3;exact .inl ⟨b,o,lb,h1,h2,h3,h4,h5⟩
theorem Tf {P:Program} {ι ι':aP} {s s':St} {W W':World} (hs:Ok s) (hR:RS P ι s W) (hR':RS P ι' s' W') (hE:ES ι s W ι' s' W') (hk:aC [] s s') {e:TypeId} {m b off n cap:Nat} {L:List Value}
  (B:bE s' e m (.slice (some ⟨b,off,none⟩) n cap) L) (hm:(env P).ty e=none∨∃ ei,(env P).ty e=some ei∧ei.size=m) (hn:s.next≤b) (hL:∀ v∈L,∃ k x,v=.int k x) {u:Value} (hu:VR ι' (.slice (some ⟨b,off,none⟩) n cap) u) :
  ∃ ι'',VR ι'' (.slice (some ⟨s.next,0,none⟩) n n) u∧RS P ι'' (s.new fun v=>.cells (PT.ofList L) [] (n*m) e true false v) W'∧ES ι s W ι'' (s.new fun v=>.cells (PT.ofList L) [] (n*m) e true false v) W':=by
 cases B with
 | @own _ _ _ _ L0 _ hC hc hnc hlen hl =>
  obtain⟨c,z,room,aT,hg,hcell⟩:=hC;cases hu with
  | @slice _ _ l _ _ hbl =>
   obtain⟨l2,h1,h2⟩:=hR'.obj b _ hg rfl;rw[hbl] at h1;cases h1;obtain⟨arr,e',fz,g1,g2,g3,g4,g5,g6,g7⟩:=h2;obtain⟨l',hl'⟩:∃ l':Loc,l'=⟨l.bL,l.off+off,cap-n+l.extra,false⟩:=⟨_,rfl⟩;have hnm:n*m≤cap*m:=Nat.mul_le_mul_right m hnc;have hobj:∀ ver',jD (env P) (ι.add s.next l') W' l' (.cells (PT.ofList L) [] (n*m) e true false ver'):=fun ver'=>by
    subst hl';refine⟨arr,e',fz,g1,fun _=>g2 rfl,rfl,fun h=>(by cases h),fun ei hei=>?_,?_,fun i hi=>?_⟩
    ·rcases hm with hm | ⟨ei',hei',hsz⟩
     ·rw[hei] at hm;cases hm
     ·rw[hei] at hei';cases hei';have:=g5 ei hei;rw[hsz] at this ⊢;have e1:(cap-n+l.extra)*m=cap*m-n*m+l.extra*m:=by rw[Nat.add_mul,Nat.sub_mul]
      show l.off+off+n*m+(cap-n+l.extra)*m≤arr.size;rw[e1];omega
    ·show l.off+off+n*m≤arr.size;omega
    ·obtain⟨v,u,a1,a2,a3⟩:=g7 (off+i) (by omega);rw[hcell (off+i) (by omega),hl i (by omega)] at a1;have hvL:v∈L:=List.mem_of_getElem? a1;obtain⟨kk,x,rfl⟩:=hL v hvL;refine⟨.int kk x,u,?_,by show arr[l.off+off+i]?=_;rw[Nat.add_assoc];exact a2,?_⟩
     ·unfold cellAt;rw[if_pos hi,PT.sF,a1]
     ·rw[VR.int_eq a3];exact .int _ _
   obtain⟨k1,k2⟩:=R.Te (o'':=.cells (PT.ofList L) [] (n*m) e true false s.aO) hR hR' hE (fun b o hb _=>hk.cW b o hb (by simp)) (fun b o hb=>hs.lt hb) hg rfl hn hbl (by rw[g3]) (by rw[hl']) (by rw[hl']) (hobj _);refine⟨ι.add s.next l',?_,?_,?_⟩
   ·have hv:=VR.slice (ι:=ι.add s.next l') (b:=s.next) (o:=0) n n (aP.add_same ι s.next l');rw[hl'] at hv ⊢;simp only[Nat.add_zero] at hv;rw[show n+(cap-n+l.extra)=cap+l.extra by omega] at hv;exact hv
   ·show R _ _ _ _ _;rw[WC];exact k1
   ·show Ext _ _ _ _ _ _ _ _;rw[WC];exact k2
end Go.Dust
namespace Go.Dust
open Go.Proofs Go.ChangeShapes Go.RowKit Go.WideShapes
set_option maxRecDepth 100000
set_option maxHeartbeats 2000000
def wD (args:List Value) (s:St) (B:Option Int):Prop:=∃ h r t u P R M,args=[ptr h,ptr r,ptr t]∧Ok s∧bS s h P∧dV s r R∧eZ s t u (32*P.N) 1 M∧P.cM∧P.has 0=false∧RJ P R M B
theorem wD.le {args:List Value} {s:St} {B B':Option Int} (h:wD args s B) (k:wD args s B') {b:Int} (hb:B=some b):B'=some b:=by
 obtain⟨h1,r1,t1,u1,P,R,M,rfl,hs,H,A,T,G,z,L⟩:=h;obtain⟨h2,r2,t2,u2,P',R',M',e,_,H',A',T',G',z',L'⟩:=k;simp only[List.cons.injEq,ptr,Value.pointer.injEq,Option.some.injEq,Addr.mk.injEq,and_true] at e;obtain⟨rfl,rfl,rfl⟩:=e;have Ag:=H.ZR H';have hk:=L.b b hb;have hm:=(L.k b hk).2 hb;obtain⟨q1,q2,q3,_⟩:=PH.iN.1 hk.has;have hk':eU P' (R'.all.map R'.get) b:=Ag.pB G (fun x hx=>PR.KI.2 ((A.ZR A' x).2 (PR.KI.1 hx))) hk;have hT:=(T.uniq T').2.2.2 (b/2).toNat (by omega);exact(L'.k b hk').1 (by rw[hT];exact hm)
theorem wD.uniq {args:List Value} {s:St} {B B':Option Int} (h:wD args s B) (k:wD args s B'):B'=B:=by
 cases hB:B with
 | none =>
  cases O6:B' with
  | none=>rfl
  | some b=>have:=k.le h O6;rw[hB] at this;cases this
 | some b=>exact h.le k hB
noncomputable def KJ (s:St):Option Int→St
 | none=>s
 | some a=>s.new fun v=>.cells (PT.ofList [int 4,int a,int 0]) [] (1*3) 51 true false v
def OR (s:St):Option Int→Value
 | none=>.tuple #[.slice none 0 0,int 0]
 | some _=>.tuple #[.slice (some ⟨s.next,0,none⟩) 1 1,int 0]
open Classical in
noncomputable def GX:Kc:=fun i args s=>if h:i=1∧∃ B,wD args s B then some (.ret (OR s (Classical.choose h.2),KJ s (Classical.choose h.2))) else none
theorem aIf:(env Tryz.prog).ty 51=none∨∃ ei,(env Tryz.prog).ty 51=some ei∧ei.size=3:=by
 rw[TC];cases h:X.ty 51 with
 | none=>exact .inl rfl
 | some ei =>
  refine .inr ⟨ei,rfl,?_⟩;have:((X.ty 51).map fun i=>i.size)=some 3:=by kernel_rfl
  rw[h] at this;simpa using this
theorem aEa:FA Tryz.prog (KO GX):=by
 refine Jz (fun i args s r h=>?_) (fun i args args' s r w ι Φ h ha hv hR=>?_)
 ·unfold GX at h;split at h
  ·rename_i hh;cases h;generalize Classical.choose hh.2=B;cases B with
   | none=>exact .refl _
   | some a=>exact dN.new (f:=fun v=>.cells (PT.ofList [int 4,int a,int 0]) [] (1*3) 51 true false v) fun v=>.inr ⟨rfl,rfl⟩
  ·cases h
 ·unfold GX at h;split at h
  ·rename_i hk;have hB:=Classical.choose_spec hk.2;obtain⟨rfl,_⟩:=hk;generalize dz:Classical.choose _=B at h hB;cases h;obtain⟨hp,rp,tp,up,P,R,M,rfl,hs,H,A,T,G,z,L⟩:=hB;show Calls Tryz.prog 25 args' w _;obtain⟨fn,hfn,hb⟩:∃ fn,Tryz.prog.funcs[25]?=some fn∧fn.body.isSome=true:=⟨_,rfl,by kernel_rfl⟩;have hok:=aIm (Φ:=fun v s'=>∃ va c,v=.tuple #[.slice va (qV B).length c,int 0]∧bE s' 51 3 (.slice va (qV B).length c) ((qV B).flatMap wJ)∧(B=none→va=none∧c=0)∧(∀ y∈nameOf (.slice va (qV B).length c),s.next≤y)∧aC [] s s') hs H G z A T L fun va c s' h1 h2 h3 h4=>⟨va,c,rfl,h1,h2,h3,h4⟩;rw[← TC] at hok;refine(xr mixed aEb hfn hb hR hv hok).mono ?_;rintro e W' ⟨v,s',ι',v',rfl,hvv,hR',hE,va,c,rfl,h1,h2,h3,hk⟩;cases hvv with
   | @tuple _ a' hsz hav =>
    have hs2:a'.size=2:=by rw[← hsz];rfl
    have gu:=hav 0 _ a'[0] rfl (Array.getElem?_eq_getElem (by omega));have VA:=hav 1 _ a'[1] rfl (Array.getElem?_eq_getElem (by omega));cases B with
    | none =>
     obtain⟨rfl,rfl⟩:=h2 rfl;refine⟨_,.tuple a',s,ι,rfl,ha,.tuple hsz fun i v u g1 g2=>?_,Go.Dust.R.back hR hR' hE fun b o hb _=>hk.cW b o hb (by simp),hE.back⟩;rcases i with _ | _ | i
     ·obtain rfl:Value.slice none 0 0=v:=by simpa using g1
      rw[Array.getElem?_eq_getElem (by omega)] at g2;rw[Option.some.inj g2] at gu;cases gu with
      | zL=>exact .zL _ _
     ·obtain rfl:int 0=v:=by simpa using g1
      rw[Array.getElem?_eq_getElem (by omega)] at g2;rw[Option.some.inj g2] at VA;rw[VR.int_eq VA];exact .int _ _
     ·simp at g1
    | some b =>
     obtain⟨nb,off,rfl⟩:=h1.sl.addr (show 0<(qV (some b)).length by simp[qV]);obtain⟨ι'',k1,k2,k3⟩:=Tf hs hR hR' hE hk h1 aIf (h3 nb (by simp[nameOf])) (fun v hv=>by
      simp only[qV,Option.toList_some,List.map_cons,List.map_nil,List.flatMap_cons,List.flatMap_nil,wJ,List.append_nil,List.mem_cons,List.not_mem_nil,or_false] at hv;rcases hv with rfl | rfl | rfl <;> exact⟨_,_,rfl⟩) gu
     refine⟨_,.tuple a',KJ s (some b),ι'',rfl,ha,.tuple hsz fun i v u g1 g2=>?_,k2,k3⟩;rcases i with _ | _ | i
     ·obtain rfl:Value.slice (some ⟨s.next,0,none⟩) 1 1=v:=by simpa using g1
      rw[Array.getElem?_eq_getElem (by omega)] at g2;rw[← Option.some.inj g2];exact k1
     ·obtain rfl:int 0=v:=by simpa using g1
      rw[Array.getElem?_eq_getElem (by omega)] at g2;rw[Option.some.inj g2] at VA;rw[VR.int_eq VA];exact .int _ _
     ·simp at g1
  ·cases h
theorem Hi {q:Bool} {s:St} {Φ:Value→St→Prop} {args:List Value} {B:Option Int} (h:wD args s B) (hΦ:Φ (OR s B) (KJ s B)):okF q X (KO GX) 25 args s Φ:=by
 refine okF.Jy (r:=.ret (OR s B,KJ s B)) ?_ hΦ;show GX _ _ s=_;unfold GX;have hh:(1:Nat)=1∧∃ B,wD args s B:=⟨rfl,B,h⟩;rw[dif_pos hh];have:=h.uniq (Classical.choose_spec hh.2);rw[this]
end Go.Dust
namespace Go.Dust
open Go.Proofs
set_option maxRecDepth 100000
set_option maxHeartbeats 4000000
def pM (a b:List Nat):Prop:=∀ y∈a,y∉b
theorem pM.symm {a b:List Nat} (h:pM a b):pM b a:=fun y hb ha=>h y ha hb
theorem pM.grow {a a' b:List Nat} {N:Nat} (h:pM a b) (ha:∀ y∈a',y∈a∨N≤y) (hb:∀ y∈b,y<N):pM a' b:=fun y hy Em=>by
 rcases ha y hy with g | g
 ·exact h y g Em
 ·have:=hb y Em;omega
structure Mem (N:Nat) (s:St) (x h r g t:Nat) (P:PH) (R:PR) (G:dD) (Q:RQ) (R2:PR):Prop where
 c:Obj s x [ptr h,ptr r,ptr g,ptr t]
 H:bS s h P
 A:dV s r R
 K:cE s g G
 T:gG s t Q R2
 xP:pM [x] (P.bF h)
 xR:pM [x] (R.bF r)
 xG:pM [x] (G.bF g)
 xT:pM [x] (Q.bF t R2)
 pR:pM (P.bF h) (R.bF r)
 pG:pM (P.bF h) (G.bF g)
 pT:pM (P.bF h) (Q.bF t R2)
 rG:pM (R.bF r) (G.bF g)
 rT:pM (R.bF r) (Q.bF t R2)
 gT:pM (G.bF g) (Q.bF t R2)
 lx:N≤x
 lP:∀ y∈P.bF h,N≤y
 lR:∀ y∈R.bF r,N≤y
 lG:∀ y∈G.bF g,N≤y
 lT:∀ y∈Q.bF t R2,N≤y
namespace Mem
variable {N:Nat} {F:List Nat} {s s':St} {x h r g t:Nat} {P P':PH} {R R':PR} {G G':dD} {Q Q':RQ} {R2 ZO:PR}
theorem aL (M:Mem N s x h r g t P R G Q R2) (k:aC [] s s'):Mem N s' x h r g t P R G Q R2 :=
 ⟨M.c.aD k (by simp),M.H.aL k,M.A.aL k,M.K.aL k,M.T.aL k,M.xP,M.xR,M.xG,M.xT,M.pR,M.pG,M.pT,M.rG,M.rT,M.gT,M.lx,M.lP,M.lR,M.lG,M.lT⟩
theorem qz (M:Mem N s x h r g t P R G Q R2) (hs:Ok s):∀ y∈[x],y<s.next:=fun y hy=>by rw[List.mem_singleton.1 hy];exact M.c.lt hs
theorem BN (M:Mem N s x h r g t P R G Q R2) (hs:Ok s) (k:aC F s s') (hF:∀ y∈F,y∈P.bF h) (H':bS s' h P') (f:P'.bF h=P.bF h):Mem N s' x h r g t P' R G Q R2 :=
 ⟨M.c.aD k (fun hm=>M.xP x (List.mem_singleton.2 rfl) (hF _ hm)),H',M.A.aD k (fun y hy hm=>M.pR y (hF _ hm) hy),M.K.aD k (fun y hy hm=>M.pG y (hF _ hm) hy),M.T.aD k (fun y hy hm=>M.pT y (hF _ hm) hy),
  by rw[f];exact M.xP,M.xR,M.xG,M.xT,by rw[f];exact M.pR,by rw[f];exact M.pG,by rw[f];exact M.pT,M.rG,M.rT,M.gT,M.lx,by rw[f];exact M.lP,M.lR,M.lG,M.lT⟩
theorem Nm (M:Mem N s x h r g t P R G Q R2) (hs:Ok s) (k:aC F s s') (hF:∀ y∈F,y∈R.bF r) (A':dV s' r R') (f:∀ y∈R'.bF r,y∈R.bF r∨s.next≤y):Mem N s' x h r g t P R' G Q R2 :=
 ⟨M.c.aD k (fun hm=>M.xR x (List.mem_singleton.2 rfl) (hF _ hm)),M.H.aD k (fun y hy hm=>M.pR y hy (hF _ hm)),A',M.K.aD k (fun y hy hm=>M.rG y (hF _ hm) hy),M.T.aD k (fun y hy hm=>M.rT y (hF _ hm) hy),
  M.xP,(M.xR.symm.grow f (M.qz hs)).symm,M.xG,M.xT,(M.pR.symm.grow f (M.H.gO hs)).symm,M.pG,M.pT,M.rG.grow f (M.K.gO hs),M.rT.grow f (M.T.gO hs),M.gT,M.lx,M.lP,(fun y hy=>(f y hy).elim (M.lR y) fun g=>Nat.le_trans (Nat.le_trans M.lx (Nat.le_of_lt (M.c.lt hs))) g),M.lG,M.lT⟩
theorem PX (M:Mem N s x h r g t P R G Q R2) (hs:Ok s) (k:aC F s s') (hF:∀ y∈F,y∈G.bF g) (G1:cE s' g G') (f:∀ y∈G'.bF g,y∈G.bF g∨s.next≤y):Mem N s' x h r g t P R G' Q R2 :=
 ⟨M.c.aD k (fun hm=>M.xG x (List.mem_singleton.2 rfl) (hF _ hm)),M.H.aD k (fun y hy hm=>M.pG y hy (hF _ hm)),M.A.aD k (fun y hy hm=>M.rG y hy (hF _ hm)),G1,M.T.aD k (fun y hy hm=>M.gT y (hF _ hm) hy),
  M.xP,M.xR,(M.xG.symm.grow f (M.qz hs)).symm,M.xT,M.pR,(M.pG.symm.grow f (M.H.gO hs)).symm,M.pT,(M.rG.symm.grow f (M.A.gO hs)).symm,M.rT,M.gT.grow f (M.T.gO hs),M.lx,M.lP,M.lR,(fun y hy=>(f y hy).elim (M.lG y) fun g=>Nat.le_trans (Nat.le_trans M.lx (Nat.le_of_lt (M.c.lt hs))) g),M.lT⟩
theorem No (M:Mem N s x h r g t P R G Q R2) (hs:Ok s) (k:aC F s s') (hF:∀ y∈F,y∈Q.bF t R2) (T':gG s' t Q' ZO) (f:∀ y∈Q'.bF t ZO,y∈Q.bF t R2∨s.next≤y):Mem N s' x h r g t P R G Q' ZO :=
 ⟨M.c.aD k (fun hm=>M.xT x (List.mem_singleton.2 rfl) (hF _ hm)),M.H.aD k (fun y hy hm=>M.pT y hy (hF _ hm)),M.A.aD k (fun y hy hm=>M.rT y hy (hF _ hm)),M.K.aD k (fun y hy hm=>M.gT y hy (hF _ hm)),T',
  M.xP,M.xR,M.xG,(M.xT.symm.grow f (M.qz hs)).symm,M.pR,M.pG,(M.pT.symm.grow f (M.H.gO hs)).symm,M.rG,(M.rT.symm.grow f (M.A.gO hs)).symm,(M.gT.symm.grow f (M.K.gO hs)).symm,M.lx,M.lP,M.lR,M.lG,(fun y hy=>(f y hy).elim (M.lT y) fun g=>Nat.le_trans (Nat.le_trans M.lx (Nat.le_of_lt (M.c.lt hs))) g)⟩
theorem l0 (M:Mem N s x h r g t P R G Q R2):aI s.look ⟨x,0,none⟩=some (ptr h):=M.c.load rfl
theorem l1 (M:Mem N s x h r g t P R G Q R2):aI s.look ⟨x,1,none⟩=some (ptr r):=M.c.load rfl
theorem l2 (M:Mem N s x h r g t P R G Q R2):aI s.look ⟨x,2,none⟩=some (ptr g):=M.c.load rfl
theorem l3 (M:Mem N s x h r g t P R G Q R2):aI s.look ⟨x,3,none⟩=some (ptr t):=M.c.load rfl
end Mem
def fD (N:Nat) (s s':St):Prop:=∃ F,aC F s s'∧∀ y∈F,N≤y
theorem fD.of {N:Nat} {F:List Nat} {s s':St} (k:aC F s s') (h:∀ y∈F,N≤y):fD N s s':=⟨F,k,h⟩
theorem fD.iA {N:Nat} {s s':St} (k:aC [] s s'):fD N s s':=⟨[],k,fun _ h=>by cases h⟩
theorem fD.trans {N:Nat} {a b c:St} (h:fD N a b) (k:fD N b c):fD N a c:=by
 obtain⟨F,h1,h2⟩:=h;obtain⟨F',k1,k2⟩:=k;refine⟨F++F',(h1.mono fun x hx=>List.mem_append_left _ hx).trans (k1.mono fun x hx=>List.mem_append_right _ hx),fun y hy=>?_⟩;rcases List.mem_append.1 hy with g | g
 ·exact h2 y g
 ·exact k2 y g
theorem fD.ok {N:Nat} {a b:St} (h:fD N a b):Ok b:=let ⟨_,h,_⟩:=h;h.ok
theorem fD.next {N:Nat} {a b:St} (h:fD N a b):a.next≤b.next:=let ⟨_,h,_⟩:=h;h.next
theorem fD.back {N:Nat} {a b c:St} (ha:Ok a) (hN:a.next≤N) (h:aC [] a b) (k:fD N b c):aC [] a c:=by
 obtain⟨F,k1,k2⟩:=k;exact h.step k1 fun y hy=>.inr (ha.fresh y (Nat.le_trans hN (k2 y hy)))
namespace PH
variable {P:PH}
def Z (P:PH):Prop:=∀ a i,P.ref a i=0
def Sound (P:PH):Prop:=∀ a i,P.ref a i=0∨P.has (P.ref a i)=true
theorem Z.sound (h:P.Z):P.Sound:=fun a i=>.inl (h a i)
def Sm (P:PH) (R:PR):Prop:=(∀ p∈R.all,P.has (R.get p)=true)∧∀ x∈R.q,P.has x=true
theorem KX (G:P.cM) {a i:Int}:P.ref a i=if P.has a=true∧0≤i∧i<(P.shape a).r then P.w (a+2+i).toNat else 0:=by
 unfold ref;by_cases h:P.gA a i false=0
 ·obtain⟨h1,h2,h3⟩:=NF h;rw[if_pos h,(CW G h).1,if_pos ⟨h1,h2,h3⟩];rfl
 ·rw[if_neg h,if_neg];rintro⟨h1,h2,h3⟩;apply h;unfold gA;rw[if_pos h1,if_neg];show ¬ (i<0∨i≥(P.shape a).r);omega
theorem XU (G:P.cM) {a i:Int} (h:P.has a=true∧0≤i∧i<(P.shape a).r):a≤(a+2+i)∧a+2+i<a+P.size a∧0≤a:=by
 have:=size_pos G h.1;have h2:=(G.val a h.1).1;have h3:=cI.sX h2;have h4:=cI.pZ.1 h2;unfold size;omega
theorem Empty.Z {n:Nat} (E:P.Empty n):P.Z:=by
 intro a i;unfold ref;split
 ·rw[E.w]
 ·try rfl
theorem Z.rB (h:P.Z) (p k:Nat) (x y u v:Int):(P.rB p k x y u v).Z:=h
theorem Z.place (h:P.Z) (I:P.Inv) {a:Int} {x:cI} (R:P.Room a x):(P.place a x).Z:=by
 have G:=I.cM;have I':=I.place R;intro b i;rw[KX I'.cM];split
 ·rename_i hc;obtain⟨h1,h2,h3⟩:=XU I'.cM hc;rcases(vN R b).1 hc.1 with hb | rfl
  ·obtain⟨e1,e2,e3⟩:=BG G R hb;rw[e2] at h2;rw[e3 _ (by omega) (by omega)];have:=h b i;rw[KX G,if_pos ⟨hb,hc.2.1,by rw[← e1];exact hc.2.2⟩] at this;exact this
  ·rw[XL R.v] at h2;have hc2:=hc.2;rw[PL (by omega) (by omega)];refine I.zero _ fun o ho=>?_;have:=R.apart o ho;omega
 ·try rfl
theorem Z.kill (h:P.Z) (I:P.Inv) {a:Int} (ha:P.has a=true):(P.kill a).Z:=by
 have G:=I.cM;have I':=I.kill ha;intro b i;rw[KX I'.cM];split
 ·rename_i hc;obtain⟨h1,h2,h3⟩:=XU I'.cM hc;obtain⟨hb,hne⟩:=(yZ ha b).1 hc.1;obtain⟨e1,e2,e3⟩:=DE G ha hb hne;rw[e2] at h2;rw[e3 _ (by omega) (by omega)];have:=h b i;rw[KX G,if_pos ⟨hb,hc.2.1,by rw[← e1];exact hc.2.2⟩] at this;exact this
 ·try rfl
theorem aH3 (I:P.Inv) {a k v:Int} (h:P.has a=true∧0≤k∧k<(P.shape a).r) (b i:Int):(P.mH (a+2+k) v).ref b i=if b=a∧i=k then v else P.ref b i:=by
 have G:=I.cM;obtain⟨h1,h2,h3⟩:=XU G h;have B:P.Body a (a+2+k):=⟨h.1,by omega,by omega⟩;have I':=I.mH B (v:=v);rw[KX I'.cM,KX G];by_cases hb:P.has b=true
 ·have hb':(P.mH (a+2+k) v).has b=true:=hb;rw[PY G B hb];by_cases hc:P.has b=true∧0≤i∧i<(P.shape b).r
  ·rw[if_pos ⟨hb',hc.2⟩,if_pos hc];obtain⟨g1,g2,g3⟩:=XU G hc;by_cases e:b=a∧i=k
   ·obtain⟨rfl,rfl⟩:=e;rw[if_pos ⟨rfl,rfl⟩];exact aH2
   ·rw[if_neg e];refine LC ?_;rcases Int.lt_trichotomy b a with h' | h' | h'
    ·have:=G.sB b a hb h.1 h';omega
    ·omega
    ·have:=G.sB a b h.1 hb h';omega
  ·rw[if_neg (fun h'=>hc ⟨hb,h'.2⟩),if_neg hc,if_neg];rintro⟨rfl,rfl⟩;exact hc h
 ·have e1:¬ ((P.mH (a+2+k) v).has b=true∧0≤i∧i<((P.mH (a+2+k) v).shape b).r):=fun h'=>hb h'.1;have e2:¬ (P.has b=true∧0≤i∧i<(P.shape b).r):=fun h'=>hb h'.1;have e3:¬ (b=a∧i=k):=fun h'=>hb (by rw[h'.1];exact h.1);rw[if_neg e1,if_neg e2,if_neg e3]
theorem aH0 (I:P.Inv) {a k v:Int} (h:P.iQ a k v=0) (b i:Int):(P.setRef a k v).ref b i=if b=a∧i=k then v else P.ref b i:=by
 unfold setRef;rw[if_pos h];unfold iQ at h;split at h
 ·rename_i hf;obtain⟨h1,h2,h3⟩:=NF hf;rw[(CW I.cM hf).1];exact aH3 I ⟨h1,h2,h3⟩ b i
 ·rename_i hf;exact absurd h hf
theorem Sound.setRef (h:P.Sound) (I:P.Inv) (a k v:Int) (hv:v=0∨P.has v=true):(P.setRef a k v).Sound:=by
 intro b i;have hh:=(P.pk a k v).2.1;by_cases he:P.iQ a k v=0
 ·rw[aH0 I he,hh];split
  ·exact hv
  ·exact h b i
 ·unfold PH.setRef;rw[if_neg he];exact h b i
end PH
open Go.Proofs
set_option maxRecDepth 100000
set_option maxHeartbeats 4000000
theorem Tm (Y:Env) (H:bG) (t:TypeId) (x y:Int):binop Y H .rem t (.int .u8 x) (.int .u8 y)=if y=0 then none else some (.int .u8 (x.tmod y)):=rfl
theorem CH (Y:Env) (H:bG) (t:TypeId) (x y:Int):binop Y H .eql t (.int .u8 x) (.int .u8 y)=some (.bool (x==y)):=rfl
theorem ay:((4:Nat):Int)=4:=rfl
theorem QY {r d k:Int} (h:0≤r∧r≤15∧0≤d∧d≤200∧0≤k∧k≤3∧(k=1→1≤r)∧(k=2→2≤r)):cI.valid ⟨r,d,k⟩=true:=cI.pZ.2 h
abbrev u8 (n:Nat):Value:=.int .u8 n
section
variable {kc:Kc} {q:Bool} {s:St} {Φ:Value→St→Prop}
theorem jI:type_of% (An @RX<|An @nD<|An @VF<|An @VT<|An @CJ<|An @uu<|An @mI<|An @lZ<|An @aW<|An @oE<|An @jG<|An @oZ<|@hZ):=An @RX<|An @nD<|An @VF<|An @VT<|An @CJ<|An @uu<|An @mI<|An @lZ<|An @aW<|An @oE<|An @jG<|An @oZ<|@hZ
theorem aBn (hs:Ok s) {x0 x1 x2 x3:Nat} (h0:x0<256) (h1:x1<256) (h2:x2<256) (hΦ:∀ (x:cI) s',x.valid=true→aC [] s s'→Φ (oW x) s'):okF q X (KO kc) 55 [.agg #[u8 x0,u8 x1,u8 x2,u8 x3]] s Φ:=by
 refine aV rfl G7 rfl (rs:=[.cell 2 44]) rfl (N:=44) rfl rfl ?_;refine aA fun bB aF aZ=>?_;simp only[jI,seval];obtain⟨s1,e1,k1,c1,n1⟩:=cA hs (L:=[u8 x0,u8 x1,u8 x2,u8 x3]) (n:=4) (e:=105) rfl;rw[e1];obtain⟨s2,e2,k2,c2,n2⟩:=cA k1.ok (L:=[int 0,int 0,int 0]) (n:=3) (e:=44) rfl
 try simp only[jI,seval]
 rw[e2];refine aF _ _ ?_;have b1:=c1.aD k2 (by simp);have l0:aI s2.look ⟨s.next,0,none⟩=some (u8 x0):=b1.load rfl;have l1:aI s2.look ⟨s.next,1,none⟩=some (u8 x1):=b1.load rfl;have l2:aI s2.look ⟨s.next,2,none⟩=some (u8 x2):=b1.load rfl;have w:∀ n:Nat,n<256→IntKind.wrap .i64 (n:Int)=(n:Int):=fun n h=>aU (by omega) (by omega);have tm:∀ (n:Nat) (k:Nat),((n:Int)).tmod (k:Int)=((n%k:Nat):Int):=fun n k=>rfl;have t5:(x1:Int).tmod 5=((x1%5:Nat):Int):=rfl;have t6:(x2:Int).tmod 6=((x2%6:Nat):Int):=rfl;have t8:(x0:Int).tmod 8=((x0%8:Nat):Int):=rfl;obtain⟨s3,e3,k3,c3,n3⟩:=cA k2.ok (L:=[int 0,int 0,int 0]) (n:=3) (e:=44) rfl;obtain⟨s4,e4,c4,k4⟩:=c3.storeAll k3.ok (vs:=[int ((x1%5:Nat)),int ((x2%6:Nat)),int 0]) rfl rfl;have nJ:aC [] s2 s4:=k3.step k4 fun y hy=>.inr (by rw[List.mem_singleton.1 hy];exact k2.ok.fresh _ (Nat.le_refl _));have b4:=b1.aD nJ (by simp);have d4:=c2.aD nJ (by simp);have m0:aI s4.look ⟨s.next,0,none⟩=some (u8 x0):=b4.load rfl;have m2:aI s4.look ⟨s.next,2,none⟩=some (u8 x2):=b4.load rfl;refine aA fun Ψ1 aE aK=>?_;simp only[jI,seval,l1,l2,ay,Int.reduceLE,Int.reduceLT,Int.reduceToNat,and_self,bJ,Nat.zero_add,w x1 h1,w x2 h2,t5,t6];rw[e3];simp only[jI,seval,e4];refine aE _ _ ?_;refine aA fun Ψ2 aH bM=>?_;refine aA fun Ψ3 aM bN=>?_;simp only[jI,seval,m0,ay,Int.reduceLE,Int.reduceLT,Int.reduceToNat,and_self,bJ,Nat.zero_add,Tm,t8];have iW:aC [] s s4:=(k1.trans k2).trans nJ;have fin:∀ (a':aG) (s':St) (y:cI),y.valid=true→a'.aB 2=ptr s1.next→a'.aB 3=ptr s2.next→Obj s' s2.next [int y.r,int y.d,int y.k]→aC [s2.next] s4 s'→Ψ2 .normal a' s':=by
  intro a' s' y hy r2 r3 ho hk;refine aH _ _ ?_;have lo:=ho.bD (i:=0) (k:=3) (Nat.le_refl _);have hn:s1.next∉[s2.next]:=by simp;omega
  obtain⟨s6,e6,c6,k6⟩:=(d4.aD hk hn).storeAll hk.ok (vs:=[int y.r,int y.d,int y.k]) rfl rfl;have l6:=c6.bD (i:=0) (k:=3) (Nat.le_refl _);refine aA fun RI rH GQ=>?_;simp only[jI,seval,r2,r3,lo,List.drop_zero,List.take,e6];refine rH _ _ ?_;simp only[jI,seval,r2,l6,List.drop_zero,List.take];refine hΦ y s6 hy ((iW.step hk fun z hz=>.inr ?_).step k6 fun z hz=>.inr ?_)
  ·rw[List.mem_singleton.1 hz];exact hs.fresh _ (by omega)
  ·rw[List.mem_singleton.1 hz];exact hs.fresh _ (by omega)
 have m3:aI s4.look ⟨s2.next,0,none⟩=some (int ((x1%5:Nat))):=c4.load rfl;have u3:(((x1%5:Nat)):Int).tmod 3=((x1%5%3:Nat):Int):=rfl;refine aM _ _ ?_;refine cB fun Ψ4 aQ yY bZ=>?_;refine aA fun cP bI cF=>?_;by_cases h4:x0%8=4
 ·have e:((((x0%8:Nat)):Int)==4)=true:=by rw[beq_iff_eq];omega
  obtain⟨s5,e5,c5,k5⟩:=c4.gJ k4.ok (i:=2) (v:=int 1) (by simp) rfl;obtain⟨s6,e6,c6,k6⟩:=c5.gJ k5.ok (i:=0) (v:=int ((1+x1%5%3:Nat))) (by simp) rfl;have m5:aI s5.look ⟨s2.next,0,none⟩=some (int ((x1%5:Nat))):=c5.load rfl;have ww:IntKind.wrap .i64 (1+((x1%5%3:Nat):Int))=((1+x1%5%3:Nat):Int):=by rw[aU (by omega) (by omega)];rfl
  simp only[jI,seval,CH,e];refine bI _ _ ?_;simp only[jI,seval,m3,u3,ww,e5,e6];refine aQ _ _ (fin _ s6 ⟨((1+x1%5%3:Nat)),((x2%6:Nat)),1⟩ (QY (by omega)) ?_ ?_ c6 (k5.trans k6))
  ·simp only[jI,seval]
  ·simp only[jI,seval]
 have Wl:((((x0%8:Nat)):Int)==4)=false:=by rw[beq_eq_false_iff_ne];omega
 simp only[jI,seval,CH,Wl];refine bI _ _ ?_;simp only[eG,RV,RG,seval];refine aA fun dK bO cV=>?_;by_cases h5:x0%8=5
 ·have e:((((x0%8:Nat)):Int)==5)=true:=by rw[beq_iff_eq];omega
  obtain⟨s5,e5,c5,k5⟩:=c4.gJ k4.ok (i:=2) (v:=int 2) (by simp) rfl;obtain⟨s6,e6,c6,k6⟩:=c5.gJ k5.ok (i:=0) (v:=int ((2+x1%5%3:Nat))) (by simp) rfl;have ww:IntKind.wrap .i64 (2+((x1%5%3:Nat):Int))=((2+x1%5%3:Nat):Int):=by rw[aU (by omega) (by omega)];rfl
  simp only[jI,seval,CH,e];refine bO _ _ ?_;simp only[jI,seval,m3,u3,ww,e5,e6];refine aQ _ _ (fin _ s6 ⟨((2+x1%5%3:Nat)),((x2%6:Nat)),2⟩ (QY (by omega)) ?_ ?_ c6 (k5.trans k6))
  ·simp only[jI,seval]
  ·simp only[jI,seval]
 have Wm:((((x0%8:Nat)):Int)==5)=false:=by rw[beq_eq_false_iff_ne];omega
 simp only[jI,seval,CH,Wm];refine bO _ _ ?_;simp only[eG,RV,RG,seval];refine aA fun fJ cC eF=>?_;by_cases h6:x0%8=6
 ·have e:((((x0%8:Nat)):Int)==6)=true:=by rw[beq_iff_eq];omega
  obtain⟨s5,e5,c5,k5⟩:=c4.gJ k4.ok (i:=2) (v:=int 3) (by simp) rfl;simp only[jI,seval,CH,e];refine cC _ _ ?_;simp only[jI,seval,e5];refine aQ _ _ (fin _ s5 ⟨((x1%5:Nat)),((x2%6:Nat)),3⟩ (QY (by omega)) ?_ ?_ c5 k5)
  ·simp only[jI,seval]
  ·simp only[jI,seval]
 have Wn:((((x0%8:Nat)):Int)==6)=false:=by rw[beq_eq_false_iff_ne];omega
 simp only[jI,seval,CH,Wn];refine cC _ _ ?_;simp only[eG,RV,RG,seval];refine aA fun jC dA iI=>?_;by_cases h7:x0%8=7
 ·have e:((((x0%8:Nat)):Int)==7)=true:=by rw[beq_iff_eq];omega
  have v3:(x2:Int).tmod 100=((x2%100:Nat):Int):=rfl;have ww:IntKind.wrap .i64 (32+((x2%100:Nat):Int))=((32+x2%100:Nat):Int):=by rw[aU (by omega) (by omega)];rfl
  obtain⟨s5,e5,c5,k5⟩:=c4.gJ k4.ok (i:=1) (v:=int ((32+x2%100:Nat))) (by simp) rfl;simp only[jI,seval,CH,e];refine dA _ _ ?_;simp only[jI,seval,m2,ay,Int.reduceLE,Int.reduceLT,Int.reduceToNat,and_self,bJ,Nat.zero_add,w x2 h2,v3,ww,e5];refine aQ _ _ (fin _ s5 ⟨((x1%5:Nat)),((32+x2%100:Nat)),0⟩ (QY (by omega)) ?_ ?_ c5 k5)
  ·simp only[jI,seval]
  ·simp only[jI,seval]
 have Wo:((((x0%8:Nat)):Int)==7)=false:=by rw[beq_eq_false_iff_ne];omega
 simp only[jI,seval,CH,Wo];refine dA _ _ ?_;simp only[jI,seval];refine aQ _ _ (fin _ s4 ⟨((x1%5:Nat)),((x2%6:Nat)),0⟩ (QY (by omega)) ?_ ?_ c4 (.refl k4.ok))
 ·simp only[jI,seval]
 ·simp only[jI,seval]
end
open Go.Proofs
set_option maxRecDepth 100000
set_option maxHeartbeats 4000000
section
variable {kc:Kc} {q:Bool} {s:St} {Φ:Value→St→Prop} {g:Nat} {P:PH} {G:dD}
theorem Bq {L:List cJ} (hl:L.length=G.L.length) (h:∀ o∈L,∃ o'∈G.L,o.rn=o'.rn∧o.dn=o'.dn):∀ y∈({G with L:=L}:dD).bF g,y∈G.bF g:=by
 intro y hy;rcases List.mem_append.1 hy with hy | hy
 ·refine List.mem_append_left _ ?_;unfold dD.own at hy ⊢;simp only[List.mem_cons] at hy ⊢;rcases hy with g | g | g
  ·exact .inl g
  ·exact .inr (.inl g)
  ·obtain⟨o,ho,hm⟩:=List.mem_flatMap.1 g;obtain⟨o',ho',e1,e2⟩:=h o ho;refine .inr (.inr (List.mem_flatMap.2 ⟨o',ho',?_⟩));rw[← e1,← e2];exact hm
 ·refine List.mem_append_right _ ?_;simp only[hl] at hy;exact hy
theorem aFo (hs:Ok s) (H:cE s g G) (S:iM P G) (I:P.Inv) (a i to:Int) (hΦ:∀ G' F s',cE s' g G'→iM (P.setRef a i to) G'→(∀ y∈F,y∈G.bF g)→(∀ y∈G'.bF g,y∈G.bF g∨s.next≤y)→aC F s s'→Φ (int (P.iQ a i to)) s'):okF q X (KO kc) 148 [ptr g,int a,int i,int to] s Φ:=by
 refine aFn hs H S.L I a i to (fun he L n s' H' S' hl hn hm k=>?_) (fun he=>?_)
 ·have hP:(P.setRef a i to).N=P.N∧(P.setRef a i to).bs=P.bs∧(P.setRef a i to).bp=P.bp∧(P.setRef a i to).born=P.born:=by
   unfold PH.setRef;rw[if_pos he];exact⟨rfl,rfl,rfl,rfl⟩
  have:=hΦ _ [n] s' H' ⟨S.N.trans hP.1.symm,S.bs.trans hP.2.1.symm,S.bp.trans hP.2.2.1.symm,S.born.trans hP.2.2.2.symm,S'⟩ (fun y hy=>by rw[List.mem_singleton.1 hy];exact List.mem_append_left _ hm) (fun y hy=>.inl (Bq hl hn y hy)) k;rw[he] at this;exact this
 ·have e:P.setRef a i to=P:=by unfold PH.setRef;rw[if_neg he]
  exact hΦ G [] s H (by rw[e];exact S) (fun y hy=>by cases hy) (fun y hy=>.inl hy) (.refl hs)
theorem aFd (hs:Ok s) (H:cE s g G) (S:iM P G) (I:P.Inv) (a:Int) (hΦ:∀ G' F s',cE s' g G'→iM (if P.has a=true then P.kill a else P) G'→(∀ y∈F,y∈G.bF g)→(∀ y∈G'.bF g,y∈G.bF g∨s.next≤y)→aC F s s'→Φ (int (if P.has a=true then 0 else 4)) s'):okF q X (KO kc) 56 [ptr g,int a] s Φ:=by
 refine aFc hs H S.L I a (fun hh va vc L s' H' S' k hv hL=>?_) (fun hh=>?_)
 ·have:=hΦ _ [g] s' H' (by rw[if_pos hh];exact⟨S.N,S.bs,S.bp,S.born,S'⟩) (fun y hy=>by rw[List.mem_singleton.1 hy];exact List.mem_append_left _ (List.mem_cons_self ..)) (fun y hy=>?_) k
  ·rw[if_pos hh] at this;exact this
  ·rcases List.mem_append.1 hy with hy | hy
   ·left;refine List.mem_append_left _ ?_;unfold dD.own at hy ⊢;simp only[List.mem_cons] at hy ⊢;rcases hy with g | g | g
    ·exact .inl g
    ·exact .inr (.inl g)
    ·obtain⟨o,ho,hm⟩:=List.mem_flatMap.1 g;exact .inr (.inr (List.mem_flatMap.2 ⟨o,hL o ho,hm⟩))
   ·exact .inr (hv y hy)
 ·have:=hΦ G [] s H (by rw[if_neg (by rw[hh];simp)];exact S) (fun y hy=>by cases hy) (fun y hy=>.inl hy) (.refl hs);rw[if_neg (by rw[hh];simp)] at this;exact this
theorem aFj (hs:Ok s) (H:cE s g G) (S:iM P G) (I:P.Inv) (a:Int) (hΦ:∀ G' F s',cE s' g G'→iM (P.gH a 1) G'→(∀ y∈F,y∈G.bF g)→(∀ y∈G'.bF g,y∈G.bF g∨s.next≤y)→aC F s s'→Φ (int (if P.has a=true then 0 else 4)) s'):okF q X (KO kc) 60 [ptr g,int a] s Φ:=by
 refine aFi hs H S.L I a (fun hh L s' H' S' hl hn k=>?_) (fun hh=>?_)
 ·have hP:(P.gH a 1).N=P.N∧(P.gH a 1).bs=P.bs∧(P.gH a 1).bp=P.bp∧(P.gH a 1).born=P.born:=by
   unfold PH.gH;rw[if_pos hh];exact⟨rfl,rfl,rfl,rfl⟩
  have:=hΦ _ _ s' H' ⟨S.N.trans hP.1.symm,S.bs.trans hP.2.1.symm,S.bp.trans hP.2.2.1.symm,S.born.trans hP.2.2.2.symm,S'⟩ (fun y hy=>List.mem_append_right _ hy) (fun y hy=>.inl (Bq hl hn y hy)) k;rw[if_pos hh] at this;exact this
 ·have e:P.gH a 1=P:=by unfold PH.gH;rw[if_neg (by rw[hh];simp)]
  have:=hΦ G [] s H (by rw[e];exact S) (fun y hy=>by cases hy) (fun y hy=>.inl hy) (.refl hs);rw[if_neg (by rw[hh];simp)] at this;exact this
end
open Go.Proofs
set_option maxRecDepth 100000
set_option maxHeartbeats 4000000
structure PR.nN (P:PH) (R:PR):Prop where
 sl:∀ i,R.sl i=0∨P.has (R.sl i)=true
 gl:∀ i,R.gl i=0∨P.has (R.gl i)=true
 q:∀ x∈R.q,P.has x=true
theorem PR.nN.led {P:PH} {R:PR} (h:PR.nN P R):P.Sm R:=by
 refine⟨fun p hp=>?_,h.q⟩;have hh:=R.RY hp;have hne:R.get p≠0:=by
  unfold PR.all PR.upto PR.part at hp;obtain⟨k,_,hp⟩:=List.mem_flatMap.1 hp;obtain⟨i,_,hp⟩:=List.mem_flatMap.1 hp;unfold PR.one at hp;split at hp
  ·cases hp
  ·rename_i hn;rw[List.mem_singleton.1 hp];exact hn
 unfold PR.get at hne ⊢;split
 ·rename_i h0;rw[if_pos h0] at hne;exact(h.sl _).resolve_left hne
 ·rename_i h0;rw[if_neg h0] at hne;split
  ·rename_i h1;rw[if_pos h1] at hne;exact(h.gl _).resolve_left hne
  ·rename_i h1;rw[if_neg h1] at hne;unfold PR.has at hh;rw[if_neg (fun h=>h0 h.1),if_neg (fun h=>h1 h.1)] at hh;split at hh
   ·have:=of_decide_eq_true hh;rw[List.getD_eq_getElem?_getD,List.getElem?_eq_getElem (show p.i.toNat<R.q.length by omega)];exact h.q _ (List.getElem_mem _)
   ·cases hh
theorem PR.nN.set {P:PH} {R:PR} (h:PR.nN P R) {p:eW} {v:Int} (hv:v=0∨P.has v=true) (h2:¬ (v=0∧p.k=2)) (hp:R.has p=true):PR.nN P (R.set p v):=by
 unfold PR.set;split
 ·refine⟨fun i=>?_,h.gl,h.q⟩;show dC R.sl _ v i=0∨P.has (dC R.sl _ v i)=true;unfold dC;split
  ·exact hv
  ·exact h.sl i
 ·rename_i h0;split
  ·refine⟨h.sl,fun i=>?_,h.q⟩;show dC R.gl _ v i=0∨P.has (dC R.gl _ v i)=true;unfold dC;split
   ·exact hv
   ·exact h.gl i
  ·rename_i h1;have hk:p.k=2:=by
    unfold PR.has at hp;rw[if_neg (fun h=>h0 h.1),if_neg (fun h=>h1 h.1)] at hp;split at hp
    ·rename_i h;exact h.1
    ·cases hp
   refine⟨h.sl,h.gl,fun x hx=>?_⟩;rcases List.mem_or_eq_of_mem_set hx with g | g
   ·exact h.q x g
   ·rw[g];exact hv.resolve_left fun e=>h2 ⟨e,hk⟩
theorem PR.nN.push {P:PH} {R:PR} (h:PR.nN P R) {v:Int} (hv:v=0∨P.has v=true):PR.nN P {R with q:=R.zO v}:=by
 refine⟨h.sl,h.gl,fun x hx=>?_⟩;have hx:x∈R.zO v:=hx;unfold PR.zO at hx;split at hx
 ·rename_i he;rcases List.mem_append.1 hx with g | g
  ·exact h.q x g
  ·rw[List.mem_singleton.1 g];refine hv.resolve_left fun e=>?_;unfold PR.KV at he;rw[if_pos (by omega)] at he;cases he
 ·exact h.q x hx
theorem PR.nN.congr {P:PH} {R R':PR} (h:PR.nN P R) (h1:R'.sl=R.sl) (h2:R'.gl=R.gl) (h3:R'.q=R.q):PR.nN P R':=⟨by rw[h1];exact h.sl,by rw[h2];exact h.gl,by rw[h3];exact h.q⟩
section
variable {kc:Kc} {q:Bool} {s:St} {Φ:Value→St→Prop} {N x h r g t:Nat} {P:PH} {R:PR} {G:dD} {Q:RQ} {R2:PR}
theorem zV:type_of% (An @RX<|An @CT<|An @DJ<|An @lY<|An @mD<|An @zH<|An @oI<|An @uW<|@aW):=An @RX<|An @CT<|An @DJ<|An @lY<|An @mD<|An @zH<|An @oI<|An @uW<|@aW
theorem OG (hs:Ok s) (M:Mem N s x h r g t P R G Q R2) (S:iM P G) (I:P.Inv) {n:Nat} (hn:n<100) (hΦ:∀ a s',(a=0∨P.has a=true)→i64 a→aC [] s s'→Φ (int a) s'):okF q X (KO kc) 12 [ptr x,int n] s Φ:=by
 have hlen:=M.K.len;have e1:((n:Int)==-77)=false:=by rw[beq_eq_false_iff_ne];omega
 have e2:¬ ((n:Int)≥1000):=by omega
 have e3:¬ ((n:Int)<0):=by omega
 have e4:¬ ((n:Int)≥100):=by omega
 refine aV rfl Yz rfl (rs:=[.tmp 4]) rfl (N:=53) rfl rfl ?_;refine aA fun bB aF aZ=>?_;simp only[zV,seval];refine aF _ _ ?_;refine aA fun Ψ1 aE aK=>?_;refine cB fun Ψ2 aH vD bM=>?_;refine aA fun Ψ3 aM bN=>?_;simp only[zV,seval,e1];refine aM _ _ ?_;simp only[eG,RV,RG,seval];refine aA fun Ψ4 aQ bZ=>?_;simp only[zV,seval,e2,decide_false];refine aQ _ _ ?_;simp only[eG,RV,RG,seval];refine aA fun cP bI cF=>?_;refine cK [(2,18)] (by kernel_rfl) fun O hO bK hR=>?_;have y2:∀ a,aN O a 2=bC (a.aB 18):=hO (2,18) (by simp);simp only[zV,seval,y2,e3,e4,decide_false];refine hR _ _ (bI _ _ ?_);simp only[eG,RV,RG,seval];refine aA fun dK bO cV=>?_;simp only[zV,seval,M.l2,M.K.l1];refine bO _ _ ?_;by_cases h0:G.L.length=0
 ·have e5:(((G.L.length:Nat):Int)==0)=true:=by rw[h0];rfl
  simp only[zV,seval,e5];refine bM _ _ _ (by simp) (by simp) (aK _ _ _ (by simp) ?_);simp only[zV,seval];exact hΦ 0 s (.inl rfl) ⟨by omega,by omega⟩ (.refl hs)
 ·have e5:(((G.L.length:Nat):Int)==0)=false:=by rw[beq_eq_false_iff_ne];omega
  simp only[zV,seval,e5];refine aH _ _ (aE _ _ ?_);refine aA fun fJ cC eF=>?_;refine dH [] [] [] (by kernel_rfl) (by kernel_rfl) (by rfl) fun O hO bK hR=>?_;obtain⟨vb,dM,hv⟩:=M.K.addr (show 0<G.L.length by omega);have l1:=M.K.l1;rw[hv] at l1;have hi:n%G.L.length<G.L.length:=Nat.mod_lt _ (by omega);have tm:((n:Nat):Int).tmod ((G.L.length:Nat):Int)=((n%G.L.length:Nat):Int):=rfl;have p1:(0:Int)≤((n%G.L.length:Nat):Int):=Int.natCast_nonneg _;have p2:((n%G.L.length:Nat):Int)<((G.L.length:Nat):Int):=by omega
  have hz:¬ (((G.L.length:Nat):Int)=0):=by omega
  have lj:aI s.look ⟨vb,dM+n%G.L.length*8,none⟩=some (int G.L[n%G.L.length].a):=M.K.lo hv hi (j:=0) rfl;simp only[zV,seval,M.l2,l1,tm,hz,p1,p2,and_self,bJ,Int.toNat_natCast,lj];refine hR _ _ (cC _ _ ?_);simp only[zV,seval];have hh:=S.L.has (List.getElem_mem hi);have hsz:=PH.size_pos I.cM hh;have bW:=I.bW;exact hΦ _ _ (.inr hh) ⟨by omega,by omega⟩ (.skip hs _)
theorem rO:type_of% (An @RX<|An @yD<|An @JC<|An @VS<|An @SA<|An @zU<|An @IJ<|@mC):=An @RX<|An @yD<|An @JC<|An @VS<|An @SA<|An @zU<|An @IJ<|@mC
theorem aBp (hs:Ok s) (M:Mem N s x h r g t P R G Q R2) {n:Nat} (hn:n<256) (hΦ:∀ p s',aC [] s s'→Φ (vM p) s'):okF q X (KO kc) 149 [ptr x,int n] s Φ:=by
 have m1:=M.T.m1;have m4:=M.T.m4;refine aV rfl Zw rfl (rs:=[.cell 4 118]) rfl (N:=31) rfl rfl ?_;refine aA fun bB aF aZ=>?_;simp only[rO,seval];obtain⟨s1,e1,k1,c1,n1⟩:=cA hs (L:=[int 0,int 0,int 0]) (n:=3) (e:=118) rfl;rw[e1];refine aF _ _ ?_;have M1:=M.aL k1;have tI:max (n:Int) 0=(n:Int):=by omega
 have tm:(n:Int).tmod 40=((n%40:Nat):Int):=rfl;have fin:∀ (s':St) (p:eW),aC [] s1 s'→∃ s2,dB s' ⟨s.next,0,none⟩ [int p.k,int p.m,int p.i]=some s2∧bD s2.look ⟨s.next,0,none⟩ 3=some [int p.k,int p.m,int p.i]∧aC [] s s2:=fun s' p k=>by
  obtain⟨s2,e2,c2,k2⟩:=(c1.aD k (by simp)).storeAll k.ok (vs:=[int p.k,int p.m,int p.i]) rfl rfl;exact⟨s2,e2,c2.bD (i:=0) (k:=3) (Nat.le_refl _),(k1.trans k).step k2 fun y hy=>.inr (by rw[List.mem_singleton.1 hy];exact hs.fresh _ (Nat.le_refl _))⟩
 refine aA fun Ψ1 aE aK=>?_;simp only[rO,seval,tI,tm];refine aE _ _ ?_;refine aA fun Ψ2 aH bM=>?_;refine cB fun Ψ3 aM oG bN=>?_;refine aA fun Ψ4 aQ bZ=>?_;by_cases g1:n%40<24
 ·have g1':((n%40:Nat):Int)<24:=by omega
  simp only[rO,seval,g1',decide_true];refine aQ _ _ ?_;simp only[eG,RV,RG,seval];refine aA fun cP bI cF=>?_;simp only[rO,seval,M1.l3];refine aJ ?_ (aGi M1.T ?_)
  ·simp only[rO,seval]
  have qq:((n%40:Nat):Int).tmod ((R2.m:Nat):Int)=((n%40%R2.m:Nat):Int):=rfl;have tq:IntKind.i64.wrap (((n%40:Nat):Int).tdiv 4)=((n%40/4:Nat):Int):=by
   rw[show ((n%40:Nat):Int).tdiv 4=((n%40/4:Nat):Int) from rfl,aU (by omega) (by omega)]
  have hz:¬ (((R2.m:Nat):Int)=0):=by omega
  obtain⟨s2,e2,l2,k2⟩:=fin s1 ⟨0,((n%40%R2.m:Nat)),((n%40/4:Nat))⟩ (.refl k1.ok);simp only[rO,seval,qq,tq,hz,e2];refine bI _ _ ?_;simp only[rO,seval];refine bN _ _ _ (by simp) (by simp) (bM _ _ _ (by simp) ?_);simp only[rO,seval,l2];exact hΦ ⟨0,_,_⟩ s2 k2
 have g1':¬ ((n%40:Nat):Int)<24:=by omega
 simp only[rO,seval,g1',decide_false];refine aQ _ _ ?_;simp only[eG,RV,RG,seval];refine aA fun cP bI cF=>?_;by_cases g2:n%40<36
 ·have pO:((n%40:Nat):Int)<36:=by omega
  have ww:IntKind.i64.wrap (((n%40:Nat):Int)-24)=((n%40:Nat):Int)-24:=aU (by omega) (by omega);obtain⟨s2,e2,l2,k2⟩:=fin s1 ⟨1,0,((n%40:Nat):Int)-24⟩ (.refl k1.ok);simp only[rO,seval,pO,decide_true];refine bI _ _ ?_;simp only[rO,seval,ww,e2];refine bN _ _ _ (by simp) (by simp) (bM _ _ _ (by simp) ?_);simp only[rO,seval,l2];exact hΦ ⟨1,_,_⟩ s2 k2
 have pO:¬ ((n%40:Nat):Int)<36:=by omega
 simp only[rO,seval,pO,decide_false];refine bI _ _ ?_;simp only[rO,seval];refine aM _ _ (aH _ _ ?_);have ww:IntKind.i64.wrap (((n%40:Nat):Int)-36)=((n%40:Nat):Int)-36:=aU (by omega) (by omega);obtain⟨s2,e2,l2,k2⟩:=fin s1 ⟨2,0,((n%40:Nat):Int)-36⟩ (.refl k1.ok);simp only[rO,seval,ww,e2,l2];exact hΦ ⟨2,_,_⟩ s2 k2
theorem HZ:type_of% (An @RX<|An @CT<|An @DJ<|An @yS<|@kW):=An @RX<|An @CT<|An @DJ<|An @yS<|@kW
theorem aBh (hs:Ok s) (M:Mem N s x h r g t P R G Q R2) (S:iM P G) (I:P.Inv) {a i to:Int} (ha:i64 a) (ht:i64 to) (hΦ:∀ G' s',Mem N s' x h r g t (P.setRef a i to) R G' Q R2→iM (P.setRef a i to) G'→fD N s s'→Φ (.bool true) s'):okF q X (KO kc) 58 [ptr x,int a,int i,int to] s Φ:=by
 have ks:aC [] s (s.skip 36):=aC.skip hs _;have M':=M.aL ks;refine aV rfl G_ rfl (rs:=[.tmp 8]) rfl (N:=26) rfl rfl ?_;refine aA fun bB aF aZ=>?_;simp only[HZ,seval];refine aF _ _ ?_;refine aA fun Ψ1 aE aK=>?_;refine dH [(11,7)] [x] [] (by kernel_rfl) (by kernel_rfl) (by rfl) fun O hO bK hR=>?_;simp only[HZ,seval,M.l2];refine eQ ?_ (aFo ks.ok M'.K S I a i to fun G1 F s1 H1 S1 hF hf k1=>?_)
 ·simp only[HZ,seval]
 have M1:=M'.PX ks.ok k1 hF H1 hf;have Ej:x∉F:=fun h=>M.xG x (List.mem_singleton.2 rfl) (hF x h);have iH:eT (s.skip 36) s1 x=true:=M'.c.same ks.ok k1 Ej;simp only[HZ,seval,M1.l0];refine⟨gQ iH jR,?_⟩;refine eQ ?_ (X2 k1.ok M1.H I.cM a i to ha ht fun s2 H2 k2=>?_)
 ·simp only[HZ,seval]
 simp only[HZ,seval,beq_self_eq_true];have hfo:=(P.pk a i to).2.2 h;have UT:P.nw∈P.bF h:=by simp[PH.bF]
 refine hR _ _ (aE _ _ ?_);simp only[HZ,seval];exact hΦ G1 s2 (M1.BN k1.ok k2 (fun y hy=>by rw[List.mem_singleton.1 hy];exact UT) H2 hfo.1) S1 (((fD.iA ks).trans (.of k1 fun y hy=>M.lG y (hF y hy))).trans (.of k2 fun y hy=>M.lP y (by rw[List.mem_singleton.1 hy];exact UT)))
theorem kP:type_of% (An @RX<|An @yD<|An @zU<|An @sC<|An @aW<|An @uV<|An @JC<|An @VS<|An @dG<|An @JB<|An @DI<|@mC):=An @RX<|An @yD<|An @zU<|An @sC<|An @aW<|An @uV<|An @JC<|An @VS<|An @dG<|An @JB<|An @DI<|@mC
theorem aBm (hs:Ok s) (M:Mem N s x h r g t P R G Q R) {n:Nat} (hn:n<256) {a:Int} (ha:i64 a) (hp:a=0∨P.has a=true) (hΦ:∀ R' Q' s',Mem N s' x h r g t P R' G Q' R'→(PR.nN P R→PR.nN P R')→R'.m=R.m→fD N s s'→Φ (.bool true) s'):okF q X (KO kc) 59 [ptr x,int n,int a] s Φ:=by
 refine aV rfl H_ rfl (rs:=[.tmp 6]) rfl (N:=53) rfl rfl ?_;refine aA fun bB aF aZ=>?_;simp only[kP,seval];refine aF _ _ ?_;refine aA fun Ψ1 aE aK=>?_;simp only[kP,seval];refine aJ ?_ (aBp hs M hn fun p s1 k1=>?_)
 ·simp only[kP,seval]
 obtain⟨s2,e2,k2,c2,n2⟩:=cA k1.ok (L:=[int 0,int 0,int 0]) (n:=3) (e:=118) rfl;obtain⟨s3,e3,c3,k3⟩:=c2.storeAll k2.ok (vs:=[int p.k,int p.m,int p.i]) rfl rfl;simp only[kP,seval];rw[e2];simp only[kP,seval,e3];refine aE _ _ ?_;have nJ:aC [] s1 s3:=k2.step k3 fun y hy=>.inr (by rw[List.mem_singleton.1 hy];exact k1.ok.fresh _ (Nat.le_refl _));have fF:=k1.trans nJ;have M3:=M.aL fF;have hp1:s1.next<s3.next:=c3.lt k3.ok;have lpx:=c3.bD (i:=0) (k:=3) (Nat.le_refl _);obtain⟨Rn,ew⟩:∃ Rn,Rn=(if R.has p=true∧¬ (a<0∨(a=0∧p.k=2)) then R.set p a else R):=⟨_,rfl⟩;have UC:Rn.bF r=R.bF r∧(∀ Q:RQ,Q.bF t Rn=Q.bF t R)∧Rn.m=R.m∧(PR.nN P R→PR.nN P Rn):=by
  rw[ew];split
  ·rename_i hc;refine⟨?_,fun Q=>?_,?_,fun hl=>hl.set hp (fun h=>hc.2 (.inr h)) hc.1⟩
   ·unfold PR.set;split <;> (try split) <;> rfl
   ·unfold PR.set RQ.bF;split
    ·try rfl
    ·split
     ·try rfl
     ·simp only[List.length_set]
   ·unfold PR.set;split <;> (try split) <;> rfl
  ·exact⟨rfl,fun _=>rfl,rfl,id⟩
 refine aA fun Ψ2 aH bM=>?_;have two:∀ (a':aG) (s':St),aC [] s3 s'→a'.aB 0=ptr x→a'.aB 7=ptr s1.next→a'.aB 2=int a→Ψ2 .normal a' s':=by
  intro a' s' hk r0 r7 r2;have M4:=M3.aL hk;have c4:=c3.aD hk (by simp);have lp4:=c4.bD (i:=0) (k:=3) (Nat.le_refl _);have ks:aC [] s' (s'.skip 32):=aC.skip hk.ok _;refine aH _ _ ?_;refine aA fun RI rH GQ=>?_;refine dH [(10,6),(11,6)] [x,s1.next] [] (by kernel_rfl) (by kernel_rfl) (by rfl) fun O hO bK hR=>?_;simp only[kP,seval,r0,r7,r2,M4.l3,lp4,List.drop_zero,List.take];refine eQ ?_ (Lw ks.ok (M4.aL ks).T p a fun s5 T5 k5=>?_)
  ·simp only[kP,seval]
  rw[← ew] at T5;have M5:=(M4.aL ks).No ks.ok k5 (fun y hy=>hy) T5 (fun y hy=>.inl (by rw[UC.2.1] at hy;exact hy));have nx:x∉Q.bF t R:=fun h=>M.xT x (List.mem_singleton.2 rfl) h;have np:s1.next∉Q.bF t R:=fun h=>by
   have:=M.T.gO hs _ h;have:=k1.next;omega
  have gk:eT (s'.skip 32) s5 x=true:=(M4.aL ks).c.same ks.ok k5 nx;have hsp:eT (s'.skip 32) s5 s1.next=true:=(c4.aD ks (by simp)).same ks.ok k5 np;have lp5:=((c4.aD ks (by simp)).aD k5 np).bD (i:=0) (k:=3) (Nat.le_refl _);simp only[kP,seval,r0,r7,r2,M5.l1,lp5,List.drop_zero,List.take];refine⟨gQ gk (gQ hsp jR),?_⟩;refine eQ ?_ (aG6 k5.ok M5.A p a ha fun s6 A6 k6=>?_)
  ·simp only[kP,seval]
  rw[← ew] at A6;simp only[kP,seval,beq_self_eq_true];refine hR _ _ (rH _ _ ?_);simp only[kP,seval];exact hΦ Rn Q s6 (M5.Nm k5.ok k6 (fun y hy=>hy) A6 (fun y hy=>.inl (by rw[UC.1] at hy;exact hy))) UC.2.2.2 UC.2.2.1
   (((fD.iA ((fF.trans hk).trans ks)).trans (.of k5 M.lT)).trans (.of k6 M.lR))
 have lk:aI s3.look ⟨s1.next,0,none⟩=some (int p.k):=c3.load rfl;have li:aI s3.look ⟨s1.next,2,none⟩=some (int p.i):=c3.load rfl;have kN:aC [] s3 (s3.skip 28):=aC.skip k3.ok _;refine aA fun Ψ3 aM bN=>?_;refine dH [(5,10)] [s1.next] [(3,14)] (by kernel_rfl) (by kernel_rfl) (by rfl) fun O hO bK hR=>?_;have y3:∀ a,aN O a 3=bC (a.aB 14):=hO (3,14) (by simp);cases hk2:(p.k==2) with
 | false =>
  simp only[kP,seval,y3,lk,hk2];refine hR _ _ (aM _ _ ?_);simp only[kP,seval];refine two _ _ kN ?_ ?_ ?_
  all_goals simp only[kP,seval]
 | true =>
  simp only[kP,seval,y3,lk,hk2,li,M3.l3];refine eQ ?_ (aGl kN.ok (M3.aL kN).T fun va vc s4 k4=>?_)
  ·simp only[kP,seval]
  have lL:=kN.trans k4;have iH:eT (s3.skip 28) s4 s1.next=true:=(c3.aD kN (by simp)).same kN.ok k4 (by simp);by_cases hc:p.i≥(R.q.length:Int)
  ·simp only[kP,seval,y3,hc,decide_true];refine⟨gQ iH jR,hR _ _ (aM _ _ ?_)⟩;simp only[eG,RV,RG,seval];have M4:=M3.aL lL;have tK:aC [] s4 (s4.skip 28):=aC.skip k4.ok _;refine aA fun Sa GR Es=>?_;refine dH [(9,5)] [x] [] (by kernel_rfl) (by kernel_rfl) (by rfl) fun O hO bK hR=>?_;simp only[kP,seval,M4.l3];refine eQ ?_ (aGk tK.ok (M4.aL tK).T a fun Q' s5 T5 k5 f5=>?_)
   ·simp only[kP,seval]
   have M5:=(M4.aL tK).No tK.ok k5 (fun y hy=>hy) T5 f5;have nx:x∉Q.bF t R:=fun h=>M.xT x (List.mem_singleton.2 rfl) h;have gk:eT (s4.skip 28) s5 x=true:=(M4.aL tK).c.same tK.ok k5 nx;simp only[kP,seval,M5.l1];refine⟨gQ gk jR,?_⟩;refine eQ ?_ (aG4 k5.ok M5.A a ha fun va vn vc s6 A6 k6 f6=>?_)
   ·simp only[kP,seval]
   simp only[kP,seval,beq_self_eq_true];refine hR _ _ (GR _ _ ?_);simp only[kP,seval];refine bM _ _ _ (by simp) ?_;simp only[kP,seval];have M6:=M5.Nm k5.ok k6 (fun y hy=>hy) A6 (fun y hy=>?_)
   ·have T6:gG s6 t Q' {R with va:=va,vn:=vn,vc:=vc,q:=R.zO a}:=M6.T.congr rfl rfl rfl rfl;refine hΦ {R with va:=va,vn:=vn,vc:=vc,q:=R.zO a} Q' s6 ?_ (fun hl=>(hl.push hp).congr rfl rfl rfl) rfl
     (((fD.iA ((fF.trans lL).trans tK)).trans (.of k5 M.lT)).trans (.of k6 M.lR))
    obtain⟨c,H,A,K,T,m1,m2,m3,m4,m5,m6,m7,m8,m9,OO,Hd,km,ko,kq,kr⟩:=M6;exact⟨c,H,A,K,T6,m1,m2,m3,m4,m5,m6,m7,m8,m9,OO,Hd,km,ko,kq,kr⟩
   ·unfold PR.bF at hy;rcases List.mem_append.1 hy with h | h
    ·exact .inl (List.mem_append_left _ h)
    ·rcases f6 y h with h | h
     ·exact .inl (List.mem_append_right _ h)
     ·exact .inr h
  ·simp only[kP,seval,y3,hc,decide_false];refine⟨gQ iH jR,hR _ _ (aM _ _ ?_)⟩;simp only[kP,seval];refine two _ _ lL ?_ ?_ ?_
   all_goals simp only[kP,seval]
end
end Go.Dust
