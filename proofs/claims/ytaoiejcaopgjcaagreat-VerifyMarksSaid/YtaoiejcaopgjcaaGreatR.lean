/- VerifyMarks walked in D, function by function, and its plain law (M5 M6 M7 M8 F2 F3 F4 F5 F6 S1 M9 M10). -/
import Derived.Test.YtaoiejcaopgjcaaGreatQ
import Derived.Test.YtaoiejcaopgjcaaGreatN
set_option linter.unusedVariables false
set_option linter.unusedSimpArgs false
open Nat renaming reduceEqDiff → zA, reduceMul → zB, reduceAdd → zC, reduceBEq → zD
open Int renaming reduceEq → zE, reduceBEq → zF
namespace Go.Dust
open Go.Proofs
set_option maxRecDepth 100000
set_option maxHeartbeats 2000000
theorem gV.app {m u lo:Nat} {av F F':List Nat} (h:gV m u lo av F) (h':gV m u lo av F'):gV m u lo av (F++F'):=fun x hx=>(List.mem_append.1 hx).elim (h x) (h' x)
theorem gV.less {m u lo:Nat} {av av' F:List Nat} (h:gV m u lo av F) (hh:∀ x∈av',x∈av):gV m u lo av' F:=fun x hx=>(h x hx).imp id fun k=>k.imp id fun⟨a,b⟩=>⟨a,fun c=>b (hh x c)⟩
theorem gV.one {m u lo:Nat} {av:List Nat}:gV m u lo av [m]:=fun x hx=>.inl (List.mem_singleton.1 hx)
theorem gV.nil {m u lo:Nat} {av:List Nat}:gV m u lo av []:=fun x hx=>by cases hx
namespace eO
variable {s s':St} {m h t u lo:Nat} {av av':List Nat} {P:PH} {K W:List Int}
theorem l0 (V:eO s m h t u lo av P K W):aI s.look ⟨m,0,none⟩=some (ptr h):=by
 obtain⟨va,vc,a,b,c,d,e,o1,_⟩:=V.o;exact o1.load rfl
theorem l1 (V:eO s m h t u lo av P K W):aI s.look ⟨m,1,none⟩=some (ptr t):=by
 obtain⟨va,vc,a,b,c,d,e,o1,_⟩:=V.o;exact o1.load rfl
theorem l3 (V:eO s m h t u lo av P K W):aI s.look ⟨m,3,none⟩=some (int 0):=by
 obtain⟨va,vc,a,b,c,d,e,o1,_⟩:=V.o;exact o1.load rfl
theorem l5 (V:eO s m h t u lo av P K W):aI s.look ⟨m,5,none⟩=some (.bool false):=by
 obtain⟨va,vc,a,b,c,d,e,o1,_⟩:=V.o;exact o1.load rfl
theorem l2 (V:eO s m h t u lo av P K W):∃ va vc,aI s.look ⟨m,2,none⟩=some (.slice va W.length vc):=by
 obtain⟨va,vc,a,b,c,d,e,o1,_⟩:=V.o;exact⟨va,vc,o1.load rfl⟩
theorem less (V:eO s m h t u lo av P K W) (hh:∀ x∈av',x∈av):eO s m h t u lo av' P K W:=by
 obtain⟨H,G,M,⟨va,vc,a,b,c,d,e,o1,o2,o3⟩,fl,lt,nd⟩:=V;exact⟨H,G,M,⟨va,vc,a,b,c,d,e,o1,o2,fun x hx=>⟨(o3 x hx).1,fun k=>(o3 x hx).2 (hh x k)⟩⟩,fl,lt,nd⟩
theorem xj (hs:Ok s) (V:eO s m h t u lo av P K W) {i:Nat} (h1:6≤i) (h2:i<11):∃ x,aI s.look ⟨m,i,none⟩=some (int x)∧∀ y,∃ s',dB s ⟨m,i,none⟩ [int y]=some s'∧eO s' m h t u lo av P K W∧aC [m] s s':=by
 obtain⟨H,G,M,⟨va,vc,a,b,c,d,e,o1,o2,o3⟩,fl,lt,nd⟩:=V;obtain⟨BD,KK,DS,zK,wS⟩:=nd;have tH:∀ x,x≠m→x∉[m]:=fun x hm hh=>hm (List.mem_singleton.1 hh);have hm':∀ x∈P.bF h,x≠m:=fun x hx e=>BD (by rw[← e];exact hx);have fin:∀ s',aC [m] s s'→(∃ a b c d e,Obj s' m [ptr h,ptr t,.slice va W.length vc,int 0,int 4096,.bool false,int a,int b,int c,int d,int e])→eO s' m h t u lo av P K W:=by
  rintro s' k ⟨a,b,c,d,e,o⟩;exact⟨H.aD k fun x hx=>tH x (hm' x hx),G,M.aD k (tH t (Ne.symm zK)) (tH u (Ne.symm wS)),⟨va,vc,a,b,c,d,e,o,o2.aD k fun x hx=>tH x (by have:=(o3 x hx).1;have:=lt.1;omega),o3⟩,fl,lt,BD,KK,DS,zK,wS⟩
 have mk:∀ y,∃ s',dB s ⟨m,i,none⟩ [int y]=some s'∧eO s' m h t u lo av P K W∧aC [m] s s':=fun y=>by
  obtain⟨s4,e4,c4,k4⟩:=o1.store hs (i:=i) (vs:=[int y]) (by simp;omega) rfl;refine⟨s4,e4,fin s4 k4 ?_,k4⟩;obtain rfl | rfl | rfl | rfl | rfl:i=6∨i=7∨i=8∨i=9∨i=10:=by omega
  all_goals exact⟨_,_,_,_,_,c4⟩
 obtain rfl | rfl | rfl | rfl | rfl:i=6∨i=7∨i=8∨i=9∨i=10:=by omega
 all_goals exact⟨_,o1.load rfl,mk⟩
end eO
section
variable {kc:Kc} {q:Bool} {s:St} {Φ:Value→St→Prop} {m h t u lo:Nat} {av:List Nat} {P:PH} {K W:List Int}
theorem PH.R6 {s:St} (H:bS s h P) (a:Int):∀ x∈P.dJ a,i64 x:=by
 intro x hx;obtain⟨i,_,_,rfl⟩:=P.WE.1 hx;unfold PH.ref;split
 ·exact H.wr _
 ·exact⟨by omega,by omega⟩
theorem pH:type_of% (An @RX<|An @yP<|An @Au<|An @aW<|An @jG<|An @CP<|An @kW<|An @dG<|@dE):=An @RX<|An @yP<|An @Au<|An @aW<|An @jG<|An @CP<|An @kW<|An @dG<|@dE
theorem aD1 (hs:Ok s) (V:eO s m h t u lo [] P K W) (hlo:lo≤s.next) (hB:W.length+P.free K≤32*P.N) (a:Int) (ha:i64 a)
  (hΦ:∀ s' F,eO s' m h t u lo [] P ((P.dJ a).foldl (eY P) (K,W)).1 ((P.dJ a).foldl (eY P) (K,W)).2→gV m u lo [] F→aC F s s'→Φ (.tuple #[]) s'):okF q X (KO kc) 204 [ptr m,int a] s Φ:=by
 have bW:=V.H.bW;obtain⟨x6,l6,st⟩:=V.xj hs (i:=6) (by omega) (by omega);obtain⟨s1,e1,V1,k1⟩:=st (IntKind.i64.wrap (x6+1));have l0:=V1.l0;have lt:=V.lt;have aJc:(P.dJ a).length≤15:=by
  have:=(PH.PZ V.G a).2;have:=P.Cm a (P.cX a-mU (P.aY a).k);unfold PH.dJ;unfold PH.cX at *;omega
 refine aV rfl w_ rfl (rs:=[]) rfl (N:=30) rfl rfl ?_;refine aA fun bB aF aZ=>?_;simp only[pH,seval,l6,bJ,Nat.add_zero,Nat.zero_add,e1];refine aF _ _ ?_;refine aA fun Ψ1 aE aK=>?_;simp only[pH,seval,l0,bJ,Nat.add_zero,Nat.zero_add];refine aJ ?_ (aIc k1.ok V1.H V1.G a ha ?_)
 ·simp only[pH,seval]
 rintro v s2 b2 ⟨va,vc,rfl⟩ GI k2
 try simp only[pH,seval]
 refine aE _ _ ?_;have V2:eO s2 m h t u lo (nameOf (.slice va (P.dJ a).length vc)) P K W:=V1.off k1.ok k2 GI;have OT:=k1.next;have mh:=k2.next;have hav:∀ x∈nameOf (.slice va (P.dJ a).length vc),x<s2.next:=b2.lt k2.ok;refine cB fun Ψ2 aH vD bM=>?_;refine qP (n:=(P.dJ a).length) (fun j a' s'=>∃ F,a'.aB 0=ptr m∧a'.aB 20=.slice va (P.dJ a).length vc∧a'.aB 21=int (P.dJ a).length∧a'.aB 22=int j∧eO s' m h t u lo (nameOf (.slice va (P.dJ a).length vc)) P (((P.dJ a).take j).foldl (eY P) (K,W)).1 (((P.dJ a).take j).foldl (eY P) (K,W)).2∧gV m u lo (nameOf (.slice va (P.dJ a).length vc)) F∧aC F s2 s')
  (fun j a' s'=>∃ F,a'.aB 0=ptr m∧a'.aB 20=.slice va (P.dJ a).length vc∧a'.aB 21=int (P.dJ a).length∧a'.aB 22=int j∧eO s' m h t u lo (nameOf (.slice va (P.dJ a).length vc)) P (((P.dJ a).take (j+1)).foldl (eY P) (K,W)).1 (((P.dJ a).take (j+1)).foldl (eY P) (K,W)).2∧gV m u lo (nameOf (.slice va (P.dJ a).length vc)) F∧aC F s2 s') ?_ ?_ ?_ ?_ (Nat.zero_le _) ?_
 ·rintro j a' s' hj ⟨F,r0,eR,fA,kY,hV,hF,hk⟩ aR bH;simp only[pH,seval,fA,kY];refine bH _ _ (decide ((j:Int)<(P.dJ a).length)) ?_ (by simp) ⟨F,?_,?_,?_,?_,hV,hF,hk⟩
  all_goals simp only[pH,seval,r0,eR,fA,kY]
 ·rintro j a' s' hj ⟨F,r0,eR,fA,kY,hV,hF,hk⟩ aR h1 h2 h3;obtain⟨vb,dM,rfl⟩:=b2.sl.addr (show 0<(P.dJ a).length by omega);have g1:(0:Int)≤(j:Int):=Int.natCast_nonneg _;have g2:(j:Int)<(((P.dJ a).length:Nat):Int):=by omega
  have FT:vb∉F:=fun hh=>by
   have Eg:=GI vb (by simp[nameOf]);rcases hF vb hh with h | h | h
   ·omega
   ·omega
   ·exact h.2 (by simp[nameOf])
  have lj:aI s'.look ⟨vb,dM+j,none⟩=some (int ((P.dJ a)[j]'hj)):=by
   refine(b2.sl.aD hk (fun x hx=>by simp[nameOf] at hx;rw[hx];exact FT)).load (i:=j) ?_;rw[List.getElem?_map,List.getElem?_eq_getElem hj];rfl
  have hi:i64 ((P.dJ a)[j]'hj):=PH.R6 V.H a _ (List.getElem_mem _);have hroom:=HM ((P.dJ a).take j) (K,W) hB;refine aA fun Ψ3 aM bN=>?_;simp only[pH,seval,eR,kY,g1,g2,and_self,bJ,Int.toNat_natCast,Nat.mul_one,lj];refine aM _ _ ?_;simp only[pH,seval,r0];refine aJ ?_ (lz hk.ok hV (by have:=hk.next;omega) (fun x hx=>by have:=hav x hx;have:=hk.next;omega) (by omega) _ hi fun s5 F5 V5 JH k5=>?_)
  ·simp only[pH,seval]
  simp only[pH,seval];refine h1 _ _ ⟨F++F5,?_,?_,?_,?_,?_,hF.app JH,(hk.mono fun x hx=>List.mem_append_left _ hx).trans (k5.mono fun x hx=>List.mem_append_right _ hx)⟩
  ·simp only[pH,seval,r0]
  ·simp only[pH,seval,eR]
  ·simp only[pH,seval,fA]
  ·simp only[pH,seval,kY]
  ·rw[List.take_add_one,List.getElem?_eq_getElem hj,List.foldl_append];exact V5
 ·rintro j a' s' hj ⟨F,r0,eR,fA,kY,hV,hF,hk⟩ aR h1;have w:IntKind.i64.wrap ((j:Int)+1)=((j+1:Nat):Int):=by rw[aU (by omega) (by omega)];rfl
  simp only[pH,seval,kY,w];refine h1 _ _ ⟨F,?_,?_,?_,?_,hV,hF,hk⟩
  all_goals try simp only[pH,seval,r0,eR,fA]
 ·rintro a' s' ⟨F,r0,eR,fA,kY,hV,hF,hk⟩;rw[List.take_of_length_le (Nat.le_refl _)] at hV;refine vD _ _ ?_;simp only[pH,seval];refine hΦ s' (m::F) (hV.less fun x hx=>by cases hx) (fun x hx=>?_) ?_
  ·rcases List.mem_cons.1 hx with h | h
   ·exact .inl h
   ·exact(hF.less fun x hx=>by cases hx) x h
  ·exact(k1.mono fun x hx=>by rw[List.mem_singleton.1 hx];simp).trans (k2.any.trans (hk.mono fun x hx=>List.mem_cons_of_mem _ hx))
 ·refine⟨[],?_,?_,?_,?_,V2,gV.nil,.refl k2.ok⟩
  all_goals try simp only[pH,seval]
  all_goals rfl
end
open Go.Proofs
set_option maxRecDepth 100000
set_option maxHeartbeats 2000000
theorem PG {q:Bool} {X:Env} {K:eE} {r:Option Nat} {G body:Code} {c:Operand} {e b:Nat} {Φ:dL→aG→St→Prop} (I J:Nat→aG→St→Prop) (E:aG→St→Prop)
  (hG:∀ k a s,I k a s→∀ Ψ:dL→aG→St→Prop,(∀ a' s' bb,a'.eval c=.bool bb→(bb=true→J k a' s')→(bb=false→E a' s')→Ψ .normal a' s')→cN q X K r G a s Ψ)
  (hB:∀ k a s,J k a s→∀ Ψ:dL→aG→St→Prop,(∀ a s j,j<k→I j a s→Ψ .normal a s)→(∀ a s j,j<k→I j a s→Ψ (.exit b) a s)→(∀ e' a s,e'≠.normal→e'≠.exit b→Φ e' a s→Ψ e' a s)→cN q X K r body a s Ψ)
  (hE:∀ a s,E a s→Φ (.exit e) a s) {k0:Nat} {a:aG} {s:St} (h0:I k0 a s) :
  cN q X K r (.loop (.seq (.seq G (.cond c .skip (.exit e))) (.block b body))) a s Φ:=by
 refine cN.loop I ?_ k0 h0;rintro k a s hI;refine aA fun Ψ1 h1 h1'=>?_;refine aA fun Ψ2 h2 h2'=>?_;refine hG k a s hI _ fun a' s' bb hb hJ O_=>h2 _ _ ?_;rw[PF];refine⟨bb,hb,?_⟩;cases bb with
 | true =>
  rw[if_pos rfl,KQ];refine h1 _ _ ?_;refine cB fun Ψ4 h4 h4e h4'=>?_;refine hB k a' s' (hJ rfl) Ψ4 (fun a s j hj hi=>h4 _ _ ⟨j,hj,hi⟩) (fun a s j hj hi=>h4e _ _ ⟨j,hj,hi⟩) fun e' a s hn hb hΦ=>h4' _ _ _ hn hb ?_;cases e' with
  | normal=>exact absurd rfl hn
  | _=>exact hΦ
 | false =>
  rw[if_neg (by simp),KP];exact h1' _ _ _ (by simp) (hE _ _ (O_ rfl))
inductive eU (P:PH) (L:List Int):Int→Prop
 | root {a:Int}:a∈L→P.has a=true→eU P L a
 | dJ {a b:Int}:eU P L a→b∈P.dJ a→P.has b=true→eU P L b
 | uT {a:Int}:eU P L a→(P.aY a).k=2→eU P L (P.ref a 0)→P.has (P.ref a 1)=true→eU P L (P.ref a 1)
theorem eU.has {P:PH} {L:List Int} {a:Int} (h:eU P L a):P.has a=true:=by cases h <;> assumption
section
variable {P:PH} {L K W:List Int} {p:List Int×List Int} {a x:Int}
theorem aF3 (p:List Int×List Int) (a:Int):(eY P p a=p∧(P.has a=true→a∈p.1))∨(eY P p a=(p.1++[a],p.2++[a])∧P.has a=true):=by
 cases hb:nV P p.1 a with
 | false =>
  refine .inl ⟨XP hb,fun h=>?_⟩;unfold nV at hb;rw[h] at hb;simpa using hb
 | true =>
  refine .inr ⟨XO hb,?_⟩;unfold nV at hb;rw[Bool.and_eq_true] at hb;exact hb.1
structure Steps (P:PH) (l:List Int) (p p':List Int×List Int):Prop where
 sub:∀ x∈p.1,x∈p'.1
 RE:∀ x∈p.2,x∈p'.2
 new:∀ x∈p'.1,x∈p.1∨(x∈l∧P.has x=true∧x∈p'.2)
 w:∀ x∈p'.2,x∈p.2∨x∈p'.1
 all:∀ x∈l,P.has x=true→x∈p'.1
theorem steps:∀ (l:List Int) (p:List Int×List Int),Steps P l p (l.foldl (eY P) p)
 | [],p=>⟨fun _ h=>h,fun _ h=>h,fun _ h=>.inl h,fun _ h=>.inl h,fun _ h=>by cases h⟩
 | a::l,p=>by
  rw[List.foldl_cons];have S:=steps l (eY P p a);rcases aF3 (P:=P) p a with ⟨e,hh⟩ | ⟨e,hh⟩
  ·rw[e] at S ⊢;refine⟨S.sub,S.RE,fun x hx=>(S.new x hx).imp id fun h=>⟨List.mem_cons_of_mem _ h.1,h.2⟩,S.w,fun x hx hp=>?_⟩;rcases List.mem_cons.1 hx with rfl | h
   ·exact S.sub _ (hh hp)
   ·exact S.all x h hp
  ·rw[e] at S ⊢;refine⟨fun x hx=>S.sub x (List.mem_append_left _ hx),fun x hx=>S.RE x (List.mem_append_left _ hx),fun x hx=>?_,fun x hx=>?_,fun x hx hp=>?_⟩
   ·rcases S.new x hx with h | h
    ·rcases List.mem_append.1 h with h | h
     ·exact .inl h
     ·rw[List.mem_singleton] at h;subst h;exact .inr ⟨List.mem_cons_self,hh,S.RE _ (List.mem_append_right _ List.mem_cons_self)⟩
    ·exact .inr ⟨List.mem_cons_of_mem _ h.1,h.2⟩
   ·rcases S.w x hx with h | h
    ·rcases List.mem_append.1 h with h | h
     ·exact .inl h
     ·exact .inr (S.sub x (List.mem_append_right _ h))
    ·exact .inr h
   ·rcases List.mem_cons.1 hx with rfl | h
    ·exact S.sub _ (List.mem_append_right _ List.mem_cons_self)
    ·exact S.all x h hp
structure mN (P:PH) (L K W:List Int):Prop where
 pB:∀ x∈K,eU P L x
 cl:∀ x∈K,x∉W→∀ y∈P.dJ x,P.has y=true→y∈K
 wk:∀ x∈W,x∈K
 room:W.length+P.free K≤32*P.N
theorem mN.reach (I:mN P L K W) (l:List Int) (hl:∀ x∈l,P.has x=true→eU P L x):mN P L (l.foldl (eY P) (K,W)).1 (l.foldl (eY P) (K,W)).2:=by
 have S:=steps (P:=P) l (K,W);refine⟨fun x hx=>?_,fun x hx hw y hy hp=>?_,fun x hx=>?_,HM l _ I.room⟩
 ·rcases S.new x hx with h | h
  ·exact I.pB x h
  ·exact hl x h.1 h.2.1
 ·rcases S.new x hx with h | h
  ·exact S.sub y (I.cl x h (fun hh=>hw (S.RE x hh)) y hy hp)
  ·exact absurd h.2.2 hw
 ·rcases S.w x hx with h | h
  ·exact S.sub x (I.wk x h)
  ·exact h
theorem mN.scan (I:mN P L K (W++[a])):mN P L ((P.dJ a).foldl (eY P) (K,W)).1 ((P.dJ a).foldl (eY P) (K,W)).2:=by
 have S:=steps (P:=P) (P.dJ a) (K,W);have ha:a∈K:=I.wk a (List.mem_append_right _ List.mem_cons_self);have hr:=I.room;rw[List.length_append,List.length_singleton] at hr;refine⟨fun x hx=>?_,fun x hx hw y hy hp=>?_,fun x hx=>?_,HM _ _ (by show W.length+P.free K≤_;omega)⟩
 ·rcases S.new x hx with h | h
  ·exact I.pB x h
  ·exact .dJ (I.pB a ha) h.1 h.2.1
 ·rcases S.new x hx with h | h
  ·by_cases e:x=a
   ·subst e;exact S.all y hy hp
   ·refine S.sub y (I.cl x h (fun hh=>?_) y hy hp);rcases List.mem_append.1 hh with h | h
    ·exact hw (S.RE x h)
    ·exact e (List.mem_singleton.1 h)
  ·exact absurd h.2.2 hw
 ·rcases S.w x hx with h | h
  ·exact S.sub x (I.wk x (List.mem_append_left _ h))
  ·exact h
theorem aGt {k:Nat} (hr:(W++[a]).length+P.free K=k):((P.dJ a).foldl (eY P) (K,W)).2.length+P.free ((P.dJ a).foldl (eY P) (K,W)).1<k:=by
 have:=HM (P.dJ a) (K,W) (Nat.le_refl (W.length+P.free K));rw[List.length_append,List.length_singleton] at hr;omega
end
section
variable {kc:Kc} {q:Bool} {s:St} {Φ:Value→St→Prop} {m h t u lo:Nat} {P:PH} {L K W:List Int}
theorem aCz (hs:Ok s) {a:Int} (V:eO s m h t u lo [] P K (W++[a])) (hl:W.length<1000000) (hΦ:∀ s',eO s' m h t u lo [] P K W→aC [m] s s'→Φ (int a) s'):okF q X (KO kc) 234 [.pointer (some ⟨m,2,none⟩)] s Φ:=by
 obtain⟨H,G,M,⟨va,vc,b,c,d,e,f,o1,o2,o3⟩,fl,lt,nd⟩:=V;obtain⟨BD,KK,DS,zK,wS⟩:=nd;have lW:(W++[a]).length=W.length+1:=by rw[List.length_append];rfl
 rw[lW] at o1 o2 o3;rw[List.map_append] at o2;have tH:∀ x,x≠m→x∉[m]:=fun x hm hh=>hm (List.mem_singleton.1 hh);have hm':∀ x∈P.bF h,x≠m:=fun x hx e=>BD (by rw[← e];exact hx);have hnm:∀ x∈nameOf (.slice va W.length vc),lo≤x∧x∉([]:List Nat):=fun x hx=>o3 x (by cases va with | none=>simp[nameOf] at hx | some y=>exact hx);refine aC0 hs o1 (o:=2) rfl o2 (fun hh=>by have:=(hnm _ hh).1;omega) hl fun s' q1 q2 k=>?_;exact hΦ s' ⟨H.aD k fun x hx=>tH x (hm' x hx),G,M.aD k (tH t (Ne.symm zK)) (tH u (Ne.symm wS)),⟨va,vc,b,c,d,e,f,q1,q2,hnm⟩,fl,lt,BD,KK,DS,zK,wS⟩ k
theorem xC:type_of% (An @RX<|An @TO<|An @CO<|An @dF<|An @dG<|An @Ah<|@aW):=An @RX<|An @TO<|An @CO<|An @dF<|An @dG<|An @Ah<|@aW
theorem aCy (hs:Ok s) (V:eO s m h t u lo [] P K W) (hlo:lo≤s.next) (I:mN P L K W)
  (hΦ:∀ s' F K',eO s' m h t u lo [] P K' []→mN P L K' []→(∀ x∈K,x∈K')→gV m u lo [] F→aC F s s'→Φ (.tuple #[]) s'):okF q X (KO kc) 202 [ptr m] s Φ:=by
 have bW:=V.H.bW;refine aV rfl w7 rfl (rs:=[]) rfl (N:=26) rfl rfl ?_;refine cB fun bB aF aAi aZ=>?_;refine PG (fun k a' s'=>∃ F K1 W1,a'.aB 0=ptr m∧eO s' m h t u lo [] P K1 W1∧mN P L K1 W1∧W1.length+P.free K1=k∧(∀ x∈K,x∈K1)∧gV m u lo [] F∧aC F s s')
  (fun k a' s'=>∃ F K1 W1 a,a'.aB 0=ptr m∧eO s' m h t u lo [] P K1 (W1++[a])∧mN P L K1 (W1++[a])∧(W1++[a]).length+P.free K1=k∧(∀ x∈K,x∈K1)∧gV m u lo [] F∧aC F s s')
  (fun a' s'=>∃ F K1,a'.aB 0=ptr m∧eO s' m h t u lo [] P K1 []∧mN P L K1 []∧(∀ x∈K,x∈K1)∧gV m u lo [] F∧aC F s s') ?_ ?_ ?_ (k0:=W.length+P.free K) ?_
 ·rintro k a' s' ⟨F,K1,W1,r0,hV,hI,hk,hsub,hF,hks⟩ aR bH;obtain⟨va,vc,l2⟩:=hV.l2;simp only[xC,seval,r0,l2,bJ,Nat.add_zero,Nat.zero_add];refine bH _ _ (decide ((W1.length:Int)>0)) ?_ (fun hb=>?_) (fun hb=>?_)
  ·simp only[xC,seval]
  ·rw[decide_eq_true_eq] at hb;obtain⟨W2,a,rfl⟩:∃ W2 a,W1=W2++[a]:=⟨W1.dropLast,W1.getLast (by intro e;rw[e] at hb;simp at hb),(List.dropLast_concat_getLast _).symm⟩;refine⟨F,K1,W2,a,?_,hV,hI,hk,hsub,hF,hks⟩;simp only[xC,seval,r0]
  ·rw[decide_eq_false_iff_not] at hb;obtain rfl:W1=[]:=List.length_eq_zero_iff.1 (by omega);refine⟨F,K1,?_,hV,hI,hsub,hF,hks⟩;simp only[xC,seval,r0]
 ·rintro k a' s' ⟨F,K1,W1,a,r0,hV,hI,hk,hsub,hF,hks⟩ aR h1 h2 h3;have hr:=hI.room;rw[List.length_append,List.length_singleton] at hr;have ha:i64 a:=by
   have hh:=(hI.pB a (hI.wk a (List.mem_append_right _ List.mem_cons_self))).has;obtain⟨q1,q2,q3,_⟩:=PH.iN.1 hh;exact⟨by omega,by omega⟩
  have l3:=hV.l3;refine aA fun Ψ1 aE aK=>?_;simp only[xC,seval,r0,l3,bJ,Nat.zero_add];refine aE _ _ ?_;simp only[xC,seval,r0,bJ,Nat.zero_add,beq_self_eq_true];refine aJ ?_ (aCz hks.ok hV (by omega) fun s2 V2 k2=>?_)
  ·simp only[xC,seval]
  refine aJ ?_ (aD1 k2.ok V2 (by have:=k2.next;have:=hks.next;omega) (by omega) a ha fun s3 F3 V3 P3 k3=>?_)
  ·simp only[xC,seval]
  try simp only[xC,seval]
  have Z_:aC (F++([m]++F3)) s s3:=(hks.mono fun x hx=>List.mem_append_left _ hx).trans ((k2.mono fun x hx=>List.mem_append_right _ (List.mem_append_left _ hx)).trans (k3.mono fun x hx=>List.mem_append_right _ (List.mem_append_right _ hx)));refine h1 _ _ _ (aGt hk) ⟨_,_,_,?_,V3,hI.scan,rfl,fun x hx=>(steps (P:=P) (P.dJ a) (K1,W1)).sub x (hsub x hx),hF.app (gV.one.app P3),Z_⟩;simp only[xC,seval,r0]
 ·rintro a' s' ⟨F,K1,r0,hV,hI,hsub,hF,hks⟩;refine aAi _ _ ⟨[],rfl,?_⟩;exact hΦ s' F K1 hV hI hsub hF hks
 ·refine⟨[],K,W,?_,V,I,rfl,fun _ h=>h,gV.nil,.refl hs⟩
  try simp only[xC,seval]
  all_goals rfl
end
open Go.Proofs
set_option maxRecDepth 100000
set_option maxHeartbeats 2000000
section
variable {kc:Kc} {q:Bool} {s:St} {Φ:Value→St→Prop} {m h t u lo:Nat} {P:PH} {L K W:List Int}
theorem LM:type_of% (An @RX<|An @TP<|An @Gf<|An @LI<|An @yP<|An @Aw<|An @aW<|An @jG<|An @CP<|An @kW<|An @CQ<|An @jX<|An @dG<|@dE):=An @RX<|An @TP<|An @Gf<|An @LI<|An @yP<|An @Aw<|An @aW<|An @jG<|An @CP<|An @kW<|An @CQ<|An @jX<|An @dG<|@dE
theorem Ht (hs:Ok s) (V:eO s m h t u lo [] P K W) (hlo:lo≤s.next) (I:mN P L K W)
  (hΦ:∀ s' F K',eO s' m h t u lo [] P K' []→mN P L K' []→(∀ x∈K,x∈K')→gV m u lo [] F→aC F s s'→Φ (.tuple #[]) s'):okF q X (KO kc) 137 [ptr m] s Φ:=by
 refine aV rfl Zj rfl (rs:=[]) rfl (N:=42) rfl rfl ?_;refine aA fun bB aF aZ=>?_;simp only[LM,seval];refine aJ ?_ (aCy hs V hlo I fun s1 F K1 V1 I1 hsub hF k1=>?_)
 ·simp only[LM,seval]
 try simp only[LM,seval]
 refine aF _ _ ?_;refine cB fun Ψ1 aE im aK=>?_;have l5:=V1.l5;refine PG (fun k a' s'=>a'.aB 0=ptr m∧s'=s1) (fun k a' s'=>False) (fun a' s'=>s'=s1) ?_ ?_ ?_ (k0:=0) ?_
 ·rintro k a' s' ⟨r0,rfl⟩ aR bH;simp only[LM,seval,r0,l5,bJ,Nat.zero_add];refine bH _ _ false ?_ (fun hb=>by cases hb) (fun hb=>rfl);simp only[LM,seval]
 ·rintro k a' s' hJ;exact hJ.elim
 ·rintro a' s' rfl;refine im _ _ ⟨[],rfl,?_⟩;exact hΦ _ F K1 V1 I1 hsub hF k1
 ·refine⟨?_,rfl⟩
  try simp only[LM,seval]
  all_goals rfl
end
open Go.Proofs
set_option maxRecDepth 100000
set_option maxHeartbeats 2000000
def ZH (s:St) (b:Nat) (e:TypeId) (off n c:Nat) (L G:List Int) (j:Nat):Prop:=∃ M,Cells s b e M∧off+c*1≤M.length∧(∀ k,k<G.length→M[off+k]?=(G.map int)[k]?)∧∀ k,j≤k→k<n→M[off+k]?=(L.map int)[k]?
theorem Gh (p:Int→Bool) {L:List Int} {j:Nat} (hj:j<L.length):(L.take (j+1)).filter (fun x=>!p x)=(L.take j).filter (fun x=>!p x)++if p L[j]=true then [] else [L[j]]:=by
 rw[List.take_add_one,List.getElem?_eq_getElem hj,List.filter_append];cases h:p L[j] <;> simp[h]
theorem aHn {X:Env} {H:bG} {t e N b off n c l:Nat} (hd:((X.ty t).map fun i=>i.desc)=some (.slice e)) (he:((X.ty e).map fun i=>i.size)=some N)
  (ho:∃ c z n e room ro aT,H b=some (.cells c z n e room ro aT)) (h1:l≤n) (h2:n≤c) (h3:l<c) :
  eI X H t (.slice (some ⟨b,off,none⟩) n c) (some (int l)) none none=some (.slice (some ⟨b,off+l*N,none⟩) (n-l) (c-l)):=by
 obtain⟨cc,z,m,e0,room,ro,aT,ho⟩:=ho;cases hi:X.ty t with
 | none=>rw[hi] at hd;cases hd
 | some i =>
  cases hj:X.ty e with
  | none=>rw[hj] at he;cases he
  | some j =>
   rw[hi] at hd;rw[hj] at he;obtain⟨d,sz,bs,zz,ag,ms,cm⟩:=i;simp only[Option.map_some,Option.some.injEq] at hd he;subst hd;have hb:lU n c (some (l:Int)) none=some (l,n):=by
    unfold lU;simp only;rw[if_pos (by omega)];simp only[Int.toNat_natCast]
   simp only[eI,hi,hj,kC,hb,ho];rw[if_pos ⟨h1,h2⟩,if_neg (by omega),bJ,he]
section
variable {kc:Kc} {q:Bool} {s:St} {Φ:Value→St→Prop} {a:Option Addr} {n c:Nat} {L:List Int}
theorem gZ:type_of% (An @RX<|An @dG<|An @dE<|An @aW<|@jG):=An @RX<|An @dG<|An @dE<|An @aW<|@jG
theorem aHe {f:FuncId} {ca:Array Value} {p:Int→Bool} (hs:Ok s) (h:bE s 3 1 (.slice a n c) (L.map int)) (tI:n<1000000)
  (hf:∀ x,x∈L→∀ s' Ψ,aC (nameOf (.slice a n c)) s s'→(∀ s'',aC [] s' s''→Ψ (.bool (p x)) s'')→okF q X (KO kc) f ([int x]++ca.toList) s' Ψ)
  (hΦ:∀ s',bE s' 3 1 (.slice a (L.filter fun x=>!p x).length c) ((L.filter fun x=>!p x).map int)→aC (nameOf (.slice a n c)) s s'→Φ (.slice a (L.filter fun x=>!p x).length c) s'):okF q X (KO kc) 236 [.slice a n c,.func (.func f) #[] ca] s Φ:=by
 have hlen:L.length=n:=by have:=h.sl.len;simpa using this
 refine aV rfl D0 rfl (rs:=[.tmp 4]) rfl (N:=42) rfl rfl ?_;refine aA fun bB aF aZ=>?_;simp only[gZ,seval];refine aF _ _ ?_;refine aA fun Ψ1 aE aK=>?_;simp only[gZ,seval];refine aJ ?_ (Nz (p:=p) h.sl (by omega) hs (fun x hx s' Ψ k=>hf x hx s' Ψ k.any) fun s1 k1=>?_)
 ·simp only[gZ,seval]
 try simp only[gZ,seval]
 refine aE _ _ ?_;refine aA fun Ψ2 aH bM=>?_;refine aA fun Ψ3 aM bN=>?_;have h1:=h.aD k1 (by simp);cases hi:L.findIdx? p with
 | none =>
  have e1:idxOf p L=-1:=by unfold idxOf;rw[hi]
  have e2:(L.filter fun x=>!p x)=L:=by
   rw[List.filter_eq_self];intro x hx;rw[List.findIdx?_eq_none_iff] at hi;rw[hi x hx];rfl
  rw[e2,hlen] at hΦ;simp only[gZ,seval,e1,beq_self_eq_true];refine aM _ _ ?_;simp only[gZ,seval];refine bM _ _ _ (by simp) ?_;simp only[gZ,seval];exact hΦ s1 h1 k1.any
 | some i0 =>
  have e1:idxOf p L=(i0:Int):=by unfold idxOf;rw[hi]
  have hi':=hi;rw[List.findIdx?_eq_some_iff_getElem] at hi';obtain⟨hi0,Dv,aA4⟩:=hi';have e2:((i0:Int)==-1)=false:=by rw[beq_eq_false_iff_ne];omega
  have w1:IntKind.i64.wrap ((i0:Int)+1)=((i0+1:Nat):Int):=by rw[aU (by omega) (by omega)];rfl
  simp only[gZ,seval,e1,e2];refine aM _ _ ?_;simp only[gZ,seval];refine aH _ _ ?_;refine aA fun Ψ4 aQ bZ=>?_;refine aA fun cP bI cF=>?_;simp only[gZ,seval,w1];refine bI _ _ ?_;generalize hv:Value.slice a n c=v at h1;generalize Cc:L.map int=Lm at h1;cases h1 with
  | nil =>
   have:=congrArg List.length Cc;simp at this;rw[this] at hi0;exact absurd hi0 (Nat.not_lt_zero _)
  | own hM hc hn hL hl =>
   rename_i b off n' cap M0;cases hv;subst Cc;have Db:(L.take (i0+1)).filter (fun x=>!p x)=L.take i0:=by
    rw[Gh p hi0,if_pos Dv,List.append_nil,List.filter_eq_self];intro x hx;obtain⟨k,hk⟩:=List.getElem?_of_mem hx;obtain⟨hk1,hk2⟩:=List.getElem?_eq_some_iff.1 hk;rw[List.length_take] at hk1;rw[List.getElem_take] at hk2;have:=aA4 k (by omega);rw[hk2] at this;simpa using this
   have O9:ZH s1 b 3 off n c L ((L.take (i0+1)).filter fun x=>!p x) (i0+1):=by
    rw[Db];refine⟨M0,hM,hc,fun k hk=>?_,fun k _ hk=>hl k (by rw[List.length_map];omega)⟩;rw[List.length_take] at hk;rw[hl k (by rw[List.length_map];omega),List.map_take,List.getElem?_take,if_pos (by omega)]
   refine cB fun dK bO pA cV=>?_;refine gD (n:=n) (fun j a' s'=>a'.aB 0=.slice (some ⟨b,off,none⟩) n c∧a'.aB 1=.func (.func f) #[] ca∧a'.aB 5=int ((L.take j).filter fun x=>!p x).length∧a'.aB 6=int j∧i0<j∧ZH s' b 3 off n c L ((L.take j).filter fun x=>!p x) j∧aC [b] s s')
    (fun j a' s'=>a'.aB 0=.slice (some ⟨b,off,none⟩) n c∧a'.aB 1=.func (.func f) #[] ca∧a'.aB 5=int ((L.take (j+1)).filter fun x=>!p x).length∧a'.aB 6=int j∧i0<j∧ZH s' b 3 off n c L ((L.take (j+1)).filter fun x=>!p x) (j+1)∧aC [b] s s') ?_ ?_ ?_ ?_ (j0:=i0+1) (by omega) ?_
   ·rintro j a' s' hj ⟨r0,r1,r5,r6,hij,hD,hk⟩ aR bH;simp only[gZ,seval,r0,r6];refine bH _ _ (decide ((j:Int)<n)) ?_ (by simp) ⟨?_,?_,?_,?_,hij,hD,hk⟩
    all_goals simp only[gZ,seval,r0,r1,r5,r6]
   ·rintro j a' s' hj ⟨r0,r1,r5,r6,hij,⟨M,d1,d2,d3,d4⟩,hk⟩ aR h1 h2 h3;have Dk:j<L.length:=by omega
    have g1:(0:Int)≤(j:Int):=Int.natCast_nonneg _;have g2:(j:Int)<(n:Int):=by omega
    have lj:aI s'.look ⟨b,off+j,none⟩=some (int L[j]):=d1.load (by rw[d4 j (Nat.le_refl _) hj,List.getElem?_map,List.getElem?_eq_getElem Dk];rfl);have hle:((L.take j).filter fun x=>!p x).length≤j:=Nat.le_trans (List.length_filter_le _ _) (by rw[List.length_take];omega);have hs1:=Gh p Dk;refine aA fun fJ cC eF=>?_;simp only[gZ,seval,r0,r6,g1,g2,and_self,bJ,Int.toNat_natCast,Nat.mul_one,lj];refine cC _ _ ?_;refine aA fun jC dA iI=>?_;simp only[gZ,seval,r1];refine HD (fi:=#[]) (ca:=ca) ?_ ?_ (hf L[j] (List.getElem_mem _) s' _ hk fun s5 k5=>?_)
    ·simp only[gZ,seval,r1,List.append_nil]
    ·simp only[gZ,seval,r1,List.append_nil]
    try simp only[gZ,seval]
    refine dA _ _ ?_;cases hp:p L[j] with
    | true =>
     rw[if_pos hp,List.append_nil] at hs1;simp only[gZ,seval];refine h1 _ _ ⟨?_,?_,?_,?_,hij,⟨M,d1.aD k5 (by simp),d2,by rw[hs1];exact d3,fun k hk1 hk2=>d4 k (by omega) hk2⟩,hk.trans k5.any⟩
     ·simp only[gZ,seval,r0]
     ·simp only[gZ,seval,r1]
     ·rw[hs1];simp only[gZ,seval,r5]
     ·simp only[gZ,seval,r6]
    | false =>
     rw[if_neg (by rw[hp];simp)] at hs1;obtain⟨i,sH⟩:∃ i,i=((L.take j).filter fun x=>!p x).length:=⟨_,rfl⟩;rw[← sH] at hle r5;obtain⟨s6,e6,c6,k6⟩:=(d1.aD k5 (by simp)).gJ k5.ok (i:=off+i) (v:=int L[j]) (by omega) rfl;have w2:IntKind.i64.wrap ((i:Int)+1)=((i+1:Nat):Int):=by rw[aU (by omega) (by omega)];rfl
     have g3:(0:Int)≤(i:Int):=Int.natCast_nonneg _;have g4:(i:Int)<(n:Int):=by omega
     simp only[gZ,seval,r0,r5,g3,g4,and_self,bJ,Int.toNat_natCast,Nat.mul_one,e6,w2];refine h1 _ _ ⟨?_,?_,?_,?_,hij,⟨_,c6,by rw[List.length_set];exact d2,fun k hk=>?_,fun k hk1 hk2=>?_⟩,(hk.trans k5.any).trans k6⟩
     ·simp only[gZ,seval,r0]
     ·simp only[gZ,seval,r1]
     ·rw[hs1,List.length_append,← sH];simp only[gZ,seval]
     ·simp only[gZ,seval,r6]
     ·rw[hs1,List.length_append,← sH,List.length_singleton] at hk;rw[hs1,List.getElem?_set,List.map_append];by_cases Z9:k=i
      ·subst Z9;rw[if_pos rfl,if_pos (by omega),List.getElem?_append_right (by rw[List.length_map];omega),List.length_map,← sH,Nat.sub_self]
       try rfl
      ·rw[if_neg (by omega),d3 k (by omega),List.getElem?_append_left (by rw[List.length_map];omega)]
     ·rw[List.getElem?_set,if_neg (by omega)];exact d4 k (by omega) hk2
   ·rintro j a' s' hj ⟨r0,r1,r5,r6,hij,hD,hk⟩ aR h1;have w:IntKind.i64.wrap ((j:Int)+1)=((j+1:Nat):Int):=by rw[aU (by omega) (by omega)];rfl
    simp only[gZ,seval,r6,w];refine h1 _ _ ⟨?_,?_,?_,?_,by omega,hD,hk⟩
    all_goals try simp only[gZ,seval,r0,r1,r5]
   ·rintro a' s' ⟨r0,r1,r5,r6,hij,⟨M,d1,d2,d3,d4⟩,hk⟩;rw[List.take_of_length_le (by omega)] at r5 d3;refine pA _ _ (aQ _ _ ?_);obtain⟨i,sH⟩:∃ i,i=(L.filter fun x=>!p x).length:=⟨_,rfl⟩;have hin:i<n:=by
     rw[sH,← hlen];refine List.length_filter_lt_length_iff_exists.2 ⟨L[i0],List.getElem_mem _,by rw[Dv];simp⟩
    rw[← sH] at r5;have Y_:∃ c z n e room ro aT,s'.look b=some (.cells c z n e room ro aT):=by
     obtain⟨c,z,n,aT,h1,_⟩:=d1;exact⟨_,_,_,_,_,_,_,h1⟩
    have CL:eI X s'.look 62 (.slice (some ⟨b,off,none⟩) n c) (some (int i)) none none=some (.slice (some ⟨b,off+i*1,none⟩) (n-i) (c-i)):=aHn (e:=3) (by kernel_rfl) (by kernel_rfl) Y_ (by omega) (by omega) (by omega);rw[Nat.mul_one] at CL;obtain⟨s6,e6,c6,k6⟩:=d1.store hk.ok (i:=off+i) (vs:=List.replicate (n-i) (int 0)) (by rw[List.length_replicate];omega) (by rw[List.all_replicate];simp;right;rfl);have e7:uQ X s' #[62] [.slice (some ⟨b,off+i,none⟩) (n-i) (c-i)]=some (.tuple #[],s6):=xx (z:=.int .i64 0) (e:=3) (by kernel_rfl) (by kernel_rfl) (by omega) (by rw[Ky];exact e6);have Y7:∃ c z n e room ro aT,s6.look b=some (.cells c z n e room ro aT):=by
     obtain⟨c,z,n,aT,h1,_⟩:=c6;exact⟨_,_,_,_,_,_,_,h1⟩
    have e8:=QC (X:=X) (H:=s6.look) (t:=62) (e:=3) (N:=1) (b:=b) (off:=off) (n:=n) (c:=c) (l:=0) (h:=i) (by kernel_rfl) (by kernel_rfl) Y7 (by omega) (by omega) (by omega);have Wp:eI X s6.look 62 (.slice (some ⟨b,off,none⟩) n c) none (some (int i)) none=some (.slice (some ⟨b,off,none⟩) i c):=e8;refine aA fun lJ dW jP=>?_;simp only[gZ,seval,r0,r5,CL];refine Jb ?_ e7 ?_
    ·simp only[gZ,seval]
    simp only[gZ,seval];refine dW _ _ ?_;refine aA fun mZ eB nH=>?_;simp only[gZ,seval,r0,r5,Wp];refine eB _ _ ?_;simp only[gZ,seval];rw[← sH] at hΦ;refine hΦ s6 (.own c6 (by rw[HS (by rw[List.length_replicate];omega)];exact d2) (by omega) (by rw[List.length_map,← sH,Nat.mul_one]) fun k hk'=>?_) (hk.trans k6);rw[List.length_map,← sH] at hk';rw[HR (by rw[List.length_replicate];omega),if_neg (by omega)];exact d3 k (by omega)
   ·refine⟨?_,?_,?_,?_,by omega,O9,k1.any⟩
    all_goals try simp only[gZ,seval]
    ·rw[Db,List.length_take,Nat.min_eq_left (by omega)]
end
open Go.Proofs
set_option maxRecDepth 100000
set_option maxHeartbeats 1000000
section
variable {kc:Kc} {q:Bool} {s:St} {Φ:Value→St→Prop} {h:Nat} {P:PH}
end
open Go.Proofs
set_option maxRecDepth 100000
set_option maxHeartbeats 1000000
section
variable {kc:Kc} {q:Bool} {s:St} {Φ:Value→St→Prop}
theorem QT:type_of% (An @RX<|An @KA<|An @KG<|@Oo):=An @RX<|An @KA<|An @KG<|@Oo
theorem aB3 {v f:Value} {n:Nat} (hn:n≤1) (hΦ:Φ (.tuple #[]) s):okF q X (KO kc) 244 [v,int 0,int n,f] s Φ:=by
 refine aV rfl D8 rfl (rs:=[]) rfl (N:=53) rfl rfl ?_;refine aA fun bB aF aZ=>?_;have w:IntKind.i64.wrap ((0:Int)+1)=1:=rfl;simp only[QT,↓reduceIte,zA,reduceCtorEq,zE,zB,zC,zD,zF,w];refine aF _ _ ?_;refine cB fun Ψ1 aE im aK=>?_;refine cN.loop (fun k a' s'=>a'.aB 8=int 1∧a'.aB 2=int n∧s'=s) ?_ 0 ?_
 ·rintro k a' s' ⟨r8,r2,rfl⟩;have g:¬ (1:Int)<(n:Int):=by omega
  refine aA fun Ψ2 aH bM=>?_;refine aA fun Ψ3 aM bN=>?_;simp only[QT,↓reduceIte,zA,reduceCtorEq,zE,zB,zC,zD,zF,r8,r2,g,decide_false];refine aM _ _ ?_;simp only[QT,↓reduceIte,zA,reduceCtorEq,zE,zB,zC,zD,zF];refine bM _ _ _ (by simp) ?_;refine im _ _ ?_;simp only[QT,↓reduceIte,zA,reduceCtorEq,zE,zB,zC,zD,zF];exact hΦ
 ·refine⟨?_,?_,rfl⟩
  all_goals simp only[QT,↓reduceIte,zA,reduceCtorEq,zE,zB,zC,zD,zF]
theorem BU:type_of% (An @RX<|An @KA<|@KG):=An @RX<|An @KA<|@KG
theorem aEh {v f:Value} {n:Nat} {l:Int} (hn:n≤1) (hΦ:Φ (.tuple #[]) s):okF q X (KO kc) 219 [v,int 0,int n,int l,f] s Φ:=by
 refine aV rfl A9 rfl (rs:=[]) rfl (N:=148) rfl rfl ?_;refine aA fun bB aF aZ=>?_;simp only[BU,↓reduceIte,zA,reduceCtorEq,zE,zB,zC,zD,zF];refine aF _ _ ?_;refine aA fun Ψ1 aE aK=>?_;simp only[BU,↓reduceIte,zA,reduceCtorEq,zE,zB,zC,zD,zF];refine aE _ _ ?_;refine cB fun Ψ2 aH vD bM=>?_;refine cN.loop (fun k a' s'=>a'.aB 0=v∧a'.aB 1=int 0∧a'.aB 2=int n∧a'.aB 4=f∧s'=s) ?_ 0 ?_
 ·rintro k a' s' ⟨r0,r1,r2,r4,rfl⟩;have w:IntKind.i64.wrap ((n:Int)-0)=n:=by rw[Int.sub_zero];exact aU (by omega) (by omega)
  have g:(n:Int)≤12:=by omega
  refine cB fun Ψ3 aM oG bN=>?_;refine aA fun Ψ4 aQ bZ=>?_;simp only[BU,↓reduceIte,zA,reduceCtorEq,zE,zB,zC,zD,zF,r1,r2,w];refine aQ _ _ ?_;refine aA fun cP bI cF=>?_;refine aA fun dK bO cV=>?_;simp only[BU,↓reduceIte,zA,reduceCtorEq,zE,zB,zC,zD,zF,g,decide_true];refine bO _ _ ?_;simp only[BU,↓reduceIte,zA,reduceCtorEq,zE,zB,zC,zD,zF,r0,r1,r2,r4];refine aJ ?_ (aB3 (v:=v) (f:=f) (n:=n) hn ?_)
  ·simp only[BU,↓reduceIte,zA,reduceCtorEq,zE,zB,zC,zD,zF]
  try simp only[BU,↓reduceIte,zA,reduceCtorEq,zE,zB,zC,zD,zF]
  refine cF _ _ _ (by simp) (bN _ _ _ (by simp) (by simp) (bM _ _ _ (by simp) (by simp) ?_));simp only[BU,↓reduceIte,zA,reduceCtorEq,zE,zB,zC,zD,zF];exact hΦ
 ·refine⟨?_,?_,?_,?_,rfl⟩
  all_goals simp only[BU,↓reduceIte,zA,reduceCtorEq,zE,zB,zC,zD,zF]
theorem zW:type_of% (An @RX<|An @yd<|@CJ):=An @RX<|An @yd<|@CJ
theorem Tu {x:Nat} (hx:x≤1) (hΦ:∀ y,Φ (int y) s):okF q X (KO kc) 253 [.int .u64 x] s Φ:=by
 refine aV rfl D_ rfl (rs:=[.tmp 2]) rfl (N:=25) rfl rfl ?_;refine aA fun bB aF aZ=>?_;simp only[zW,↓reduceIte,zA,reduceCtorEq,zE,zB,zC,zD,zF];refine aF _ _ ?_;refine aA fun Ψ1 aE aK=>?_;refine aA fun Ψ2 aH bM=>?_;rcases(show x=0∨x=1 by omega) with rfl | rfl
 all_goals
  have b1:∀ x:Int,binop X s.look .geq 221 (.int .u64 x) (.int .u64 4294967296)=some (.bool (decide (x≥4294967296))):=fun _=>by kernel_rfl
  have b2:∀ x:Int,binop X s.look .geq 221 (.int .u64 x) (.int .u64 65536)=some (.bool (decide (x≥65536))):=fun _=>by kernel_rfl
  have b3:∀ x:Int,binop X s.look .geq 221 (.int .u64 x) (.int .u64 256)=some (.bool (decide (x≥256))):=fun _=>by kernel_rfl
  simp only[zW,↓reduceIte,zA,reduceCtorEq,zE,zB,zC,zD,zF,b1,show ¬ ((0:Nat):Int)≥4294967296 by decide,show ¬ ((1:Nat):Int)≥4294967296 by decide,decide_false];refine aH _ _ ?_;simp only[zW,↓reduceIte,zA,reduceCtorEq,zE,zB,zC,zD,zF];refine aE _ _ ?_;refine aA fun Ψ3 aM bN=>?_;refine aA fun Ψ4 aQ bZ=>?_;simp only[zW,↓reduceIte,zA,reduceCtorEq,zE,zB,zC,zD,zF,b2,show ¬ ((0:Nat):Int)≥65536 by decide,show ¬ ((1:Nat):Int)≥65536 by decide,decide_false];refine aQ _ _ ?_;simp only[zW,↓reduceIte,zA,reduceCtorEq,zE,zB,zC,zD,zF];refine aM _ _ ?_;refine aA fun cP bI cF=>?_;refine aA fun dK bO cV=>?_;simp only[zW,↓reduceIte,zA,reduceCtorEq,zE,zB,zC,zD,zF,b3,show ¬ ((0:Nat):Int)≥256 by decide,show ¬ ((1:Nat):Int)≥256 by decide,decide_false];refine bO _ _ ?_;simp only[zW,↓reduceIte,zA,reduceCtorEq,zE,zB,zC,zD,zF];refine bI _ _ ?_;simp only[zW,↓reduceIte,zA,reduceCtorEq,zE,zB,zC,zD,zF];generalize hz:AT X 9 _ _=z
 ·have hz':z=some (.int .u8 0):=by rw[← hz];kernel_rfl
  clear hz;subst hz';simp only[zW,↓reduceIte,zA,reduceCtorEq,zE,zB,zC,zD,zF];exact hΦ _
 ·have hz':z=some (.int .u8 1):=by rw[← hz];kernel_rfl
  clear hz;subst hz';simp only[zW,↓reduceIte,zA,reduceCtorEq,zE,zB,zC,zD,zF];exact hΦ _
theorem YW:type_of% (An @RX<|@ye):=An @RX<|@ye
theorem Tt {x:Nat} (hx:x≤1) (hΦ:∀ y,Φ (int y) s):okF q X (KO kc) 220 [.int .u64 x] s Φ:=by
 refine aV rfl A_ rfl (rs:=[.tmp 2]) rfl (N:=8) rfl rfl ?_;refine aA fun bB aF aZ=>?_;simp only[YW,↓reduceIte,zA,reduceCtorEq,zE,zB,zC,zD,zF];refine aF _ _ ?_;simp only[YW,↓reduceIte,zA,reduceCtorEq,zE,zB,zC,zD,zF];refine aJ ?_ (Tu hx ?_)
 ·simp only[YW,↓reduceIte,zA,reduceCtorEq,zE,zB,zC,zD,zF]
 intro y;simp only[YW,↓reduceIte,zA,reduceCtorEq,zE,zB,zC,zD,zF];exact hΦ y
theorem LO:type_of% (An @RX<|An @Gk<|@yg):=An @RX<|An @Gk<|@yg
theorem aHp {va:Option Addr} {n c:Nat} {f:Value} (hn:n≤1) (hΦ:Φ (.tuple #[]) s):okF q X (KO kc) 155 [.slice va n c,f] s Φ:=by
 refine aV rfl b9 rfl (rs:=[]) rfl (N:=14) rfl rfl ?_;refine aA fun bB aF aZ=>?_;simp only[LO,↓reduceIte,zA,reduceCtorEq,zE,zB,zC,zD,zF];refine aF _ _ ?_;have w:IntKind.u64.wrap (n:Int)=(n:Int):=by
  rcases(show n=0∨n=1 by omega) with rfl | rfl <;> rfl
 simp only[LO,↓reduceIte,zA,reduceCtorEq,zE,zB,zC,zD,zF,w];refine aJ ?_ (Tt hn ?_)
 ·simp only[LO,↓reduceIte,zA,reduceCtorEq,zE,zB,zC,zD,zF]
 intro y;simp only[LO,↓reduceIte,zA,reduceCtorEq,zE,zB,zC,zD,zF];refine aJ ?_ (aEh (v:=.slice va n c) (f:=f) (n:=n) (l:=y) hn ?_)
 ·simp only[LO,↓reduceIte,zA,reduceCtorEq,zE,zB,zC,zD,zF]
 simp only[LO,↓reduceIte,zA,reduceCtorEq,zE,zB,zC,zD,zF];exact hΦ
theorem LV:type_of% (An @RC<|An @RO<|An @RD<|An @RV<|An @RB<|@RG):=An @RC<|An @RO<|An @RD<|An @RV<|An @RB<|@RG
theorem Xu {va:Option Addr} {n c:Nat} (hn:n≤1) (hΦ:Φ (.slice va n c) s):okF q X (KO kc) 66 [.slice va n c] s Φ:=by
 refine aV rfl J0 rfl (rs:=[.tmp 2]) rfl (N:=6) rfl rfl ?_;refine aA fun bB aF aZ=>?_;simp only[LV,↓reduceIte,zA,reduceCtorEq,zE,zB,zC,zD,zF];refine aF _ _ ?_;refine aA fun Ψ1 aE aK=>?_;simp only[LV,↓reduceIte,zA,reduceCtorEq,zE,zB,zC,zD,zF];refine aJ ?_ (aHp (va:=va) (n:=n) (c:=c) (f:=.func (.func 156) #[] #[]) hn ?_)
 ·simp only[LV,↓reduceIte,zA,reduceCtorEq,zE,zB,zC,zD,zF]
 try simp only[LV,↓reduceIte,zA,reduceCtorEq,zE,zB,zC,zD,zF]
 refine aE _ _ ?_;refine aA fun Ψ2 aH bM=>?_;simp only[LV,↓reduceIte,zA,reduceCtorEq,zE,zB,zC,zD,zF];refine aH _ _ ?_;simp only[LV,↓reduceIte,zA,reduceCtorEq,zE,zB,zC,zD,zF];exact hΦ
end
open Go.Proofs
set_option maxRecDepth 100000
set_option maxHeartbeats 1000000
abbrev AF:=Int×Int×Int
def wJ (f:AF):List Value:=[int f.1,int f.2.1,int f.2.2]
namespace PH
variable (P:PH)
end PH
def AG (s:St) (cb:Nat) (lo:Nat) (av:List Nat) (C:List AF):Prop:=∃ va vc,Obj s cb [.slice va C.length vc]∧bE s 51 3 (.slice va C.length vc) (C.flatMap wJ)∧(∀ b∈nameOf (.slice va C.length vc),lo≤b∧b∉av)∧cb<lo
theorem AG.aD {s s':St} {cb lo:Nat} {av:List Nat} {C:List AF} (h:AG s cb lo av C) (k:aC [] s s'):AG s' cb lo av C:=by
 obtain⟨va,vc,h1,h2,h3,h4⟩:=h;exact⟨va,vc,h1.aD k (by simp),h2.aD k (by simp),h3,h4⟩
theorem AG.off {s s':St} {cb lo:Nat} {av av':List Nat} {C:List AF} (hs:Ok s) (h:AG s cb lo av C) (k:aC [] s s') (ha:∀ b∈av',s.next≤b):AG s' cb lo av' C:=by
 obtain⟨va,vc,h1,h2,h3,h4⟩:=h;refine⟨va,vc,h1.aD k (by simp),h2.aD k (by simp),fun b hb=>⟨(h3 b hb).1,fun hh=>?_⟩,h4⟩;have:=h2.lt hs b hb;have:=ha b hh;omega
section
variable {kc:Kc} {q:Bool} {s:St} {Φ:Value→St→Prop} {h:Nat} {P:PH}
theorem AG.add (hs:Ok s) {cb lo:Nat} {av:List Nat} {C:List AF} (h:AG s cb lo av C) (hlo:lo≤s.next) (hav:∀ x∈av,x<s.next) (hm:C.length<1000000) (f:AF)
  (hΦ:∀ s',AG s' cb lo av (C++[f])→(∀ b m n c v L,(∀ b∈nameOf v,b∈av∧b≠cb)→v=.slice b n c→Sl s m v L→Sl s' m v L)→(∀ s0,Ok s0→aC [cb] s0 s→s0.next≤lo→aC [cb] s0 s')→s.next≤s'.next→Φ (.tuple #[]) s') :
  okF q X (KO kc) 65 [ptr cb,int f.1,int f.2.1,int f.2.2] s Φ:=by
 obtain⟨va,vc,h1,h2,h3,h4⟩:=h;refine Qr hs h1 (o:=0) rfl h2 (fun hb=>by have:=(h3 _ hb).1;omega) hm _ _ _ fun pJ pK s' o1 o2 o3 o4=>?_;refine hΦ s' ⟨pJ,pK,?_,?_,fun b hb=>?_,h4⟩ (fun b m n c v L hb hv hc=>hc.aD o4 fun x hx hh=>?_) (fun s0 ok0 k0 hs0=>?_) o4.next
 ·rw[List.length_append];exact o1
 ·rw[List.length_append,List.flatMap_append,List.flatMap_singleton];exact o2
 ·rw[List.length_append] at hb;rcases o3 b hb with h | h
  ·exact h3 b h
  ·exact⟨by omega,fun hh=>by have:=hav b hh;omega⟩
 ·rcases List.mem_cons.1 hh with h | h
  ·exact(hb x hx).2 h
  ·exact(h3 x h).2 (hb x hx).1
 ·refine k0.step o4 fun g hg=>?_;rcases List.mem_cons.1 hg with h | h
  ·subst h;exact .inl (by simp)
  ·exact .inr (ok0.fresh g (by have:=(h3 g h).1;omega))
end
open Go.Proofs
set_option maxRecDepth 100000
set_option maxHeartbeats 1000000
section
variable {kc:Kc} {q:Bool} {s:St} {Φ:Value→St→Prop} {h:Nat} {P:PH}
theorem bE.cells {s:St} {e m b off n c:Nat} {L:List Value} (h:bE s e m (.slice (some ⟨b,off,none⟩) n c) L):∃ L0,Cells s b e L0:=by
 cases h with
 | own h _ _ _ _=>exact⟨_,h⟩
end
open Go.Proofs
set_option maxRecDepth 100000
set_option maxHeartbeats 1000000
section
variable {kc:Kc} {q:Bool} {s:St} {Φ:Value→St→Prop} {h r:Nat} {P:PH} {R:PR}
theorem PR.RY (R:PR) {p:eW} (hp:p∈R.all):R.has p=true:=by
 have aAa:∀ k n,k<3→n≤R.len k→∀ p∈R.part k n,R.has p=true:=by
  intro k n hk hn p hp;unfold PR.part at hp;obtain⟨i,hi,h⟩:=List.mem_flatMap.1 hp;unfold PR.one at h;split at h
  ·cases h
  ·rw[List.mem_singleton.1 h];have:=List.mem_range.1 hi;exact R.NM hk (by omega)
 unfold PR.all PR.upto at hp;obtain⟨k,hk,h⟩:=List.mem_flatMap.1 hp;exact aAa k _ (List.mem_range.1 hk) (Nat.le_refl _) p h
theorem PR.Bw {s:St} {r:Nat} {R:PR} (H:dV s r R) (p:eW):i64 (R.get p):=by
 unfold PR.get;split
 ·exact H.bs _
 ·split
  ·exact H.bg _
  ·rw[List.getD_eq_getElem?_getD];cases hx:R.q[p.i.toNat]? with
   | none=>exact⟨by simp,by simp⟩
   | some y=>exact H.bq y (List.mem_of_getElem? hx)
theorem TW (L:List eW) {j:Nat} (hj:j<L.length):((L.flatMap kD).drop (j*3)).take 3=kD L[j]:=by
 induction L generalizing j with
 | nil=>cases hj
 | cons p L ih =>
  cases j with
  | zero=>rfl
  | succ j =>
   rw[List.flatMap_cons,List.drop_append,List.drop_of_length_le (by simp[kD];omega),List.nil_append,show (j+1)*3-(kD p).length=j*3 by simp[kD];omega];exact ih (by simpa using hj)
end
open Go.Proofs
set_option maxRecDepth 100000
set_option maxHeartbeats 1000000
theorem QE:∀ {l m:List Int},l.Pairwise (·<·)→m.Pairwise (·<·)→(∀ x,x∈l↔x∈m)→l=m
 | [],[],_,_,_=>rfl
 | [],y::m,_,_,h=>by have:=(h y).2 (List.mem_cons_self ..);cases this
 | x::l,[],_,_,h=>by have:=(h x).1 (List.mem_cons_self ..);cases this
 | x::l,y::m,hl,hm,h=>by
  rw[List.pairwise_cons] at hl hm;have hxy:x=y:=by
   rcases List.mem_cons.1 ((h x).1 (List.mem_cons_self ..)) with e | e
   ·exact e
   ·rcases List.mem_cons.1 ((h y).2 (List.mem_cons_self ..)) with e' | e'
    ·exact e'.symm
    ·have:=hm.1 x e;have:=hl.1 y e';omega
  subst hxy;congr 1;refine QE hl.2 hm.2 fun z=>?_;constructor
  ·intro hz;rcases List.mem_cons.1 ((h z).1 (List.mem_cons_of_mem _ hz)) with e | e
   ·have:=hl.1 z hz;omega
   ·exact e
  ·intro hz;rcases List.mem_cons.1 ((h z).2 (List.mem_cons_of_mem _ hz)) with e | e
   ·have:=hm.1 z hz;omega
   ·exact e
namespace PH
variable {P:PH}
theorem qN {a:Int}:a∈P.all↔P.has a=true:=by
 unfold all mP;rw[List.mem_map,iN];constructor
 ·rintro⟨i,hi,rfl⟩;obtain⟨h1,h2⟩:=List.mem_filter.1 hi;have h1:=List.mem_range.1 h1;unfold jF at h2;have h2:=of_decide_eq_true h2;exact⟨by omega,by omega,by omega,by rw[show (2*(i:Int)/2).toNat=i by omega];exact h2⟩
 ·rintro⟨h1,h2,h3,h4⟩;refine⟨(a/2).toNat,List.mem_filter.2 ⟨List.mem_range.2 (by omega),?_⟩,by omega⟩;unfold jF;exact decide_eq_true h4
theorem RZ:P.all.Pairwise (·<·):=by
 unfold all mP;refine List.Pairwise.map (R:=(·<·)) _ (fun a b h=>by omega) ?_;exact List.Pairwise.filter _ List.pairwise_lt_range
theorem size_pos (G:P.cM) {a:Int} (h:P.has a=true):2≤P.size a∧P.size a%2=0∧a%2=0∧0≤a∧a+P.size a≤64*P.N:=by
 obtain⟨h1,h2⟩:=G.val a h;have h3:=cI.sX h1;have h4:=(P.shape a).CA;have h5:=iN.1 h;unfold size at h2 ⊢;omega
theorem Fv {L:Nat→Nat} {v:Int}:∀ {k i:Nat},pS L v k=some i→∀ j,j<k→(L j:Int)=v→j≤i
 | k+1,i,h,j,hj,he=>by
  rw[pS] at h;split at h
  ·cases h;omega
  ·rename_i hn;by_cases hk:j=k
   ·subst hk;exact absurd he hn
   ·exact Fv h j (by omega) he
theorem Fw {L:Nat→Nat} {v:Int}:∀ {k:Nat},pS L v k=none→∀ j,j<k→¬ (L j:Int)=v
 | k+1,h,j,hj=>by
  rw[pS] at h;split at h
  ·cases h
  ·rename_i hn;by_cases hk:j=k
   ·subst hk;exact hn
   ·exact Fw h j (by omega)
theorem Bc (G:P.cM) {a o:Int} (ho:P.has o=true) (h1:o≤a) (h2:a<o+P.size o):P.find a=some o:=by
 obtain⟨s1,s2,s3,s4,s5⟩:=size_pos G ho;have hh:=iN.1 ho;unfold find;rw[if_pos ⟨by omega,by omega⟩];cases hl:pS P.S 1 (a/2+1).toNat with
 | none=>exact absurd (show ((P.S (o/2).toNat:Nat):Int)=1 by rw[hh.2.2.2];rfl) (Fw hl _ (by omega))
 | some i =>
  have hm:=Fv hl (o/2).toNat (by omega) (by rw[hh.2.2.2];rfl);obtain⟨g1,g2⟩:=VL hl;have hi:P.has (2*(i:Int))=true:=iN.2 ⟨by omega,by omega,by omega,by rw[show (2*(i:Int)/2).toNat=i by omega];omega⟩;have he:2*(i:Int)=o:=by
   rcases Int.lt_or_le o (2*(i:Int)) with bY | hge
   ·have:=G.sB o _ ho hi bY;omega
   ·omega
  simp only;rw[he,if_neg (by omega)]
theorem Yb (G:P.cM) {a o:Int}:P.find a=some o↔P.has o=true∧o≤a∧a<o+P.size o:=by
 constructor
 ·intro h;have:=Yc h;exact⟨this.2.2.2.2.2.2,this.2.2.2.1,this.2.2.2.2.2.1⟩
 ·rintro⟨h1,h2,h3⟩;exact Bc G h1 h2 h3
theorem Dh (G:P.cM) {a n:Int} (ha:a%2=0) (h0:0≤a) (hn:n%2=0) (hp:0<n):P.kJ a (-1) ((n+1)/2).toNat=true↔∃ o,P.has o=true∧o<a+n∧a<o+P.size o:=by
 unfold kJ;rw[List.any_eq_true];constructor
 ·rintro⟨k,hk,hf⟩;have hk:=List.mem_range.1 hk;cases hc:P.find (a+2*k) with
  | none=>rw[hc] at hf;cases hf
  | some o =>
   have:=(Yb G).1 hc;exact⟨o,this.1,by omega,by omega⟩
 ·rintro⟨o,h1,h2,h3⟩;obtain⟨s1,s2,s3,s4,s5⟩:=size_pos G h1;refine⟨((max a o-a)/2).toNat,List.mem_range.2 (by omega),?_⟩;rw[Bc G h1 (o:=o) (by omega) (by omega)];simp only[decide_eq_true_eq];omega
end PH
open Go.Proofs
set_option maxRecDepth 100000
set_option maxHeartbeats 2000000
def gB (P:PH) (K:List Int):List Int:=P.all.filter fun x=>!(!(P.has x&&K.contains x))
theorem kz {P:PH} {K:List Int} {x:Int}:x∈gB P K↔x∈P.all∧P.has x=true∧x∈K:=by
 unfold gB;rw[List.mem_filter,Bool.not_not,Bool.and_eq_true,List.contains_iff_mem]
section
variable {kc:Kc} {q:Bool} {s:St} {Φ:Value→St→Prop} {t u h:Nat} {P:PH} {K:List Int}
theorem QQ:type_of% (An @RX<|An @kW<|@jX):=An @RX<|An @kW<|@jX
theorem aI7 (hs:Ok s) (H:bS s h P) (M:sZ s t u P K) {bh bt:Nat} (lh:Obj s bh [ptr h]) (lt:Obj s bt [ptr t]) (x:Int) (hx:i64 x)
  (hΦ:∀ s',aC [] s s'→Φ (.bool (!(P.has x&&K.contains x))) s'):okF q X (KO kc) 237 [int x,ptr bh,ptr bt] s Φ:=by
 have l1:aI s.look ⟨bh,0,none⟩=some (ptr h):=lh.load rfl;have l2:aI s.look ⟨bt,0,none⟩=some (ptr t):=lt.load rfl;refine aV rfl D1 rfl (rs:=[.tmp 4]) rfl (N:=10) rfl rfl ?_;refine aA fun bB aF aZ=>?_;simp only[QQ,seval];refine aF _ _ ?_;refine aA fun Ψ1 aE aK=>?_;simp only[QQ,seval,l1,l2];refine aJ ?_ (Qh hs H M x hx fun s1 k1=>?_)
 ·simp only[QQ,seval]
 try simp only[QQ,seval]
 refine aE _ _ ?_;simp only[QQ,seval];exact hΦ _ k1
theorem EK:type_of% (An @RX<|@kW):=An @RX<|@kW
theorem aI6 (hs:Ok s) (H:bS s h P) (M:sZ s t u P K)
  (hΦ:∀ s' aa n c,bE s' 3 1 (.slice aa n c) ((gB P K).map int)→n=(gB P K).length→(∀ b∈nameOf (.slice aa n c),s.next≤b)→aC [] s s'→Φ (.slice aa n c) s'):okF q X (KO kc) 203 [ptr h,ptr t] s Φ:=by
 have bW:=H.bW;have ht:t<s.next:=M.c.lt hs;obtain⟨U,hU,_⟩:=M.ws;have hu:u<s.next:=hU.lt hs;obtain⟨s1,e1,k1,c1,n1⟩:=cA hs (L:=[ptr h]) (n:=1) (e:=34) rfl;obtain⟨s2,e2,k2,c2,n2⟩:=cA k1.ok (L:=[ptr t]) (n:=1) (e:=68) rfl;have eC:=k1.trans k2;have yG:=c1.aD k2 (by simp);have l1:aI s2.look ⟨s.next,0,none⟩=some (ptr h):=yG.load rfl;refine aV rfl w9 rfl (rs:=[.tmp 4]) rfl (N:=9) rfl rfl ?_;refine aA fun bB aF aZ=>?_;simp only[EK,seval];rw[e1,e2]
 try simp only[EK,seval]
 refine aF _ _ ?_;refine aA fun Ψ1 aE aK=>?_;simp only[EK,seval,l1];refine aJ ?_ (fe eC.ok (H.aL eC) fun s3 aa an ac b3 GF gf k3=>?_)
 ·simp only[EK,seval]
 try simp only[EK,seval]
 have OT:=k1.next;have n02:=eC.next;have hall:=P.tB;have fF:=eC.trans k3;have hav:∀ x,x<s2.next→x∉nameOf (.slice aa an ac):=fun x hx hh=>by have:=gf x hh;omega
 refine aJ ?_ (aHe (f:=237) (p:=fun x=>!(P.has x&&K.contains x)) (ca:=#[ptr s.next,ptr s1.next]) k3.ok b3 (by omega) (fun x hx s' Ψ k kU=>?_) fun s4 b4 k4=>?_)
 ·simp only[EK,seval]
 ·refine aI7 k.ok ((H.aL fF).aD k fun y hy=>hav y (by have:=H.gO hs y hy;omega)) ((M.aD fF (by simp) (by simp)).aD k (hav t (by omega)) (hav u (by omega))) ((yG.aD k3 (by simp)).aD k (hav _ (by omega))) ((c2.aD k3 (by simp)).aD k (hav _ (by omega))) x (P.ML bW hx) fun s'' k''=>kU s'' k''
 try simp only[EK,seval]
 refine aE _ _ ?_;simp only[EK,seval];refine hΦ s4 _ _ _ b4 rfl (fun b hb=>?_) (fF.step k4 fun g hg=>.inr ?_)
 ·have:=gf b (by cases aa with | none=>simp[nameOf] at hb | some y=>exact hb);omega
 ·exact hs.fresh g (by have:=gf g hg;omega)
end
open Go.Proofs
set_option maxRecDepth 100000
set_option maxHeartbeats 2000000
def FH (P:PH) (K:List Int) (a:Int):Bool:=((P.aY a).k==2)&&(P.has (P.ref a 0)&&K.contains (P.ref a 0))
def kQ (P:PH) (K l:List Int):List Int:=(l.filter (FH P K)).map fun a=>P.ref a 1
theorem Wg (P:PH) (K l:List Int) (a:Int):kQ P K (l++[a])=kQ P K l++if FH P K a=true then [P.ref a 1] else []:=by
 unfold kQ;rw[List.filter_append,List.map_append,List.filter_cons,List.filter_nil];split <;> rfl
theorem yp (P:PH) (K l:List Int):(kQ P K l).length≤l.length:=by
 unfold kQ;rw[List.length_map];exact List.length_filter_le _ _
theorem Hh (P:PH) (K:List Int):(gB P K).length≤32*P.N:=Nat.le_trans (List.length_filter_le _ _) P.tB
section
variable {kc:Kc} {q:Bool} {s:St} {Φ:Value→St→Prop} {t u h:Nat} {P:PH} {K:List Int}
theorem fX:type_of% (An @RX<|An @dG<|An @dE<|An @aW<|An @nD<|An @mI<|An @oE<|@jE):=An @RX<|An @dG<|An @dE<|An @aW<|An @nD<|An @mI<|An @oE<|@jE
theorem aI8 (hs:Ok s) (H:bS s h P) (G:P.cM) (M:sZ s t u P K)
  (hΦ:∀ s' aa n c,bE s' 3 1 (.slice aa n c) ((kQ P K (gB P K)).map int)→n=(kQ P K (gB P K)).length→(∀ b∈nameOf (.slice aa n c),s.next≤b)→aC [] s s'→Φ (.slice aa n c) s'):okF q X (KO kc) 205 [ptr h,ptr t] s Φ:=by
 have bW:=H.bW;have hml:=Hh P K;refine aV rfl x_ rfl (rs:=[.tmp 4]) rfl (N:=55) rfl rfl ?_;refine aA fun bB aF aZ=>?_;simp only[fX,seval];refine aF _ _ ?_;refine aA fun Ψ1 aE aK=>?_;simp only[fX,seval];refine aE _ _ ?_;refine aA fun Ψ2 aH bM=>?_;refine aA fun Ψ3 aM bN=>?_;simp only[fX,seval];refine aJ ?_ (aI6 hs H M fun s7 aa an ac b7 DA aA7 k7=>?_)
 ·simp only[fX,seval]
 try simp only[fX,seval]
 refine aM _ _ ?_;subst DA;have H7:=H.aL k7;have M7:=M.aD k7 (by simp) (by simp);refine cB fun Ψ4 aQ yY bZ=>?_;refine qP (n:=(gB P K).length) (fun j a' s'=>∃ va vn vc,a'.aB 0=ptr h∧a'.aB 1=ptr t∧a'.aB 5=.slice va vn vc∧vn=(kQ P K ((gB P K).take j)).length∧bE s' 3 1 (.slice va vn vc) ((kQ P K ((gB P K).take j)).map int)∧(∀ b∈nameOf (.slice va vn vc),s7.next≤b)∧a'.aB 16=.slice aa (gB P K).length ac∧a'.aB 17=int (gB P K).length∧a'.aB 18=int j∧aC [] s7 s')
  (fun j a' s'=>∃ va vn vc,a'.aB 0=ptr h∧a'.aB 1=ptr t∧a'.aB 5=.slice va vn vc∧vn=(kQ P K ((gB P K).take (j+1))).length∧bE s' 3 1 (.slice va vn vc) ((kQ P K ((gB P K).take (j+1))).map int)∧(∀ b∈nameOf (.slice va vn vc),s7.next≤b)∧a'.aB 16=.slice aa (gB P K).length ac∧a'.aB 17=int (gB P K).length∧a'.aB 18=int j∧aC [] s7 s') ?_ ?_ ?_ ?_ (Nat.zero_le _) ?_
 ·rintro j a' s' hj ⟨va,vn,vc,r0,r1,r5,kK,hb,hnm,BI,BJ,iY,hk⟩ aR bH;simp only[fX,seval,BJ,iY];refine bH _ _ (decide ((j:Int)<(gB P K).length)) ?_ (by simp) ⟨va,vn,vc,?_,?_,?_,kK,hb,hnm,?_,?_,?_,hk⟩
  all_goals simp only[fX,seval,r0,r1,r5,BI,BJ,iY]
 ·rintro j a' s' hj ⟨va,vn,vc,r0,r1,r5,kK,hb,hnm,BI,BJ,iY,hk⟩ aR h1 h2 h3;obtain⟨vb,dM,rfl⟩:=b7.sl.addr (show 0<(gB P K).length by omega);have g1:(0:Int)≤(j:Int):=Int.natCast_nonneg _;have g2:(j:Int)<(((gB P K).length:Nat):Int):=by omega
  obtain⟨x,hx⟩:∃ x,x=(gB P K)[j]:=⟨_,rfl⟩;have lj:aI s'.look ⟨vb,dM+j,none⟩=some (int x):=by
   refine(b7.sl.aD hk (by simp)).load (i:=j) ?_;rw[List.getElem?_map,List.getElem?_eq_getElem hj,hx];rfl
  have hxm:x∈gB P K:=by rw[hx];exact List.getElem_mem _
  have hxi:i64 x:=P.ML bW (kz.1 hxm).1;have DB:(gB P K).take (j+1)=(gB P K).take j++[x]:=by rw[List.take_add_one,List.getElem?_eq_getElem hj,hx];rfl
  have sI:=Wg P K ((gB P K).take j) x;rw[← DB] at sI;have hlen:(kQ P K ((gB P K).take j)).length≤(gB P K).length:=by
   have h1:=yp P K ((gB P K).take j);rw[List.length_take] at h1;omega
  have H8:=H7.aL hk;refine aA fun cP bI cF=>?_;simp only[fX,seval,BI,iY,g1,g2,and_self,bJ,Int.toNat_natCast,Nat.mul_one,lj];refine bI _ _ ?_;refine aA fun dK bO cV=>?_;simp only[fX,seval,r0];refine aJ ?_ (JN hk.ok H8 x hxi fun s2 k2=>?_)
  ·simp only[fX,seval]
  obtain⟨s3,e3,k3,c3,n3⟩:=cA k2.ok (L:=[int 0,int 0,int 0]) (n:=3) (e:=44) rfl;obtain⟨s4,e4,c4,k4⟩:=c3.storeAll k3.ok (vs:=[int (P.aY x).r,int (P.aY x).d,int (P.aY x).k]) rfl rfl;have rJ:aC [] s2 s4:=k3.step k4 fun g hg=>.inr (by rw[List.mem_singleton.1 hg];exact k2.ok.fresh _ (Nat.le_refl _));simp only[fX,seval];rw[e3,e4];simp only[fX,seval];refine bO _ _ ?_;have lL:=hk.trans (k2.trans rJ);refine aA fun fJ cC eF=>?_;simp only[fX,seval,r0];refine aJ ?_ (FZ lL.ok (H7.aL lL) G x 0 hxi fun s5 k5=>?_)
  ·simp only[fX,seval]
  try simp only[fX,seval]
  refine cC _ _ ?_;have wL:=lL.trans k5;have l2:aI s5.look ⟨s2.next,2,none⟩=some (int (P.aY x).k):=(c4.aD k5 (by simp)).load rfl;have hri:i64 (P.ref x 0):=by
   unfold PH.ref;split
   ·exact H.wr _
   ·exact⟨by omega,by omega⟩
  have ez:bE s5 3 1 (.slice va vn vc) ((kQ P K ((gB P K).take j)).map int):=((hb.aD k2 (by simp)).aD rJ (by simp)).aD k5 (by simp);refine aA fun jC dA iI=>?_;refine cK [(3,37)] (by kernel_rfl) fun O hO bK hR=>?_;have y3:∀ a,aN O a 3=bC (a.aB 37):=hO (3,37) (by simp);cases AO:((P.aY x).k==2) with
  | false =>
   have hd:kQ P K ((gB P K).take (j+1))=kQ P K ((gB P K).take j):=by rw[sI,if_neg (by unfold FH;rw[AO];simp),List.append_nil]
   simp only[fX,seval,l2,bJ,Nat.zero_add,AO,y3];refine hR _ _ (dA _ _ ?_);simp only[fX,seval];refine h1 _ _ ⟨va,vn,vc,?_,?_,?_,by rw[hd];exact kK,by rw[hd];exact ez,hnm,?_,?_,?_,wL⟩
   all_goals simp only[fX,seval,r0,r1,r5,BI,BJ,iY]
  | true =>
   simp only[fX,seval,l2,bJ,Nat.zero_add,AO,y3,r0,r1];refine aJ ?_ (Qh wL.ok (H7.aL wL) (M7.aD wL (by simp) (by simp)) (P.ref x 0) hri fun s6 k6=>?_)
   ·simp only[fX,seval]
   have pP:=wL.trans k6;cases hc:(P.has (P.ref x 0)&&K.contains (P.ref x 0)) with
   | false =>
    have hd:kQ P K ((gB P K).take (j+1))=kQ P K ((gB P K).take j):=by rw[sI,if_neg (by unfold FH;rw[hc];simp),List.append_nil]
    simp only[fX,seval,y3];refine hR _ _ (dA _ _ ?_);simp only[fX,seval];refine h1 _ _ ⟨va,vn,vc,?_,?_,?_,by rw[hd];exact kK,by rw[hd];exact ez.aD k6 (by simp),hnm,?_,?_,?_,pP⟩
    all_goals simp only[fX,seval,r0,r1,r5,BI,BJ,iY]
   | true =>
    have hd:kQ P K ((gB P K).take (j+1))=kQ P K ((gB P K).take j)++[P.ref x 1]:=by rw[sI,if_pos (by unfold FH;rw[AO,hc];rfl)]
    simp only[fX,seval,y3];refine hR _ _ (dA _ _ ?_);simp only[eG,RV,RG,seval];refine aA fun lJ dW jP=>?_;simp only[fX,seval,r0];refine aJ ?_ (FZ pP.ok (H7.aL pP) G x 1 hxi fun t1 q1=>?_)
    ·simp only[fX,seval]
    try simp only[fX,seval]
    refine dW _ _ ?_;have GL:=pP.trans q1;obtain⟨t2,f2,q2,d2,u2⟩:=cA GL.ok (L:=[int (P.ref x 1)]) (n:=1) (e:=3) rfl;obtain⟨w,t3,f3,b3,q3,m3,a3,qG,rfl⟩:=iT (X:=X) (t:=62) (e:=3) (N:=1) (B:=8) (z:=.int .i64 0) (x:=.slice (some ⟨t1.next,0,none⟩) 1 1) (k:=1) (new:=[int (P.ref x 1)]) (by kernel_rfl) (by kernel_rfl) rfl q2.ok (by omega) (((ez.aD k6 (by simp)).aD q1 (by simp)).aD q2 (by simp)) rfl (kT (by omega) (d2.bD (i:=0) (k:=1) (Nat.le_refl _))) rfl rfl (by omega) (by omega);simp only[fX,seval,r5];rw[f2];refine iX ?_ f3 ?_
    ·simp only[fX,seval]
    simp only[fX,seval];have DA:=(GL.trans q2).next;refine h1 _ _ ⟨a3,vn+1,qG,?_,?_,?_,by rw[hd,List.length_append,← kK];rfl,by rw[hd,List.map_append];exact b3,?_,?_,?_,?_,(GL.trans q2).step q3 fun g hg=>.inr (k7.ok.fresh _ (hnm g hg))⟩
    ·simp only[fX,seval,r0]
    ·simp only[fX,seval,r1]
    ·simp only[fX,seval]
    ·intro b hb';rcases m3 b hb' with h | h
     ·exact hnm b h
     ·omega
    ·simp only[fX,seval,BI]
    ·simp only[fX,seval,BJ]
    ·simp only[fX,seval,iY]
 ·rintro j a' s' hj ⟨va,vn,vc,r0,r1,r5,kK,hb,hnm,BI,BJ,iY,hk⟩ aR h1;have w:IntKind.i64.wrap ((j:Int)+1)=((j+1:Nat):Int):=by rw[aU (by omega) (by omega)];rfl
  simp only[fX,seval,iY,w];refine h1 _ _ ⟨va,vn,vc,?_,?_,?_,kK,hb,hnm,?_,?_,?_,hk⟩
  all_goals try simp only[fX,seval,r0,r1,r5,BI,BJ]
 ·rintro a' s' ⟨va,vn,vc,r0,r1,r5,kK,hb,hnm,BI,BJ,iY,hk⟩;rw[List.take_of_length_le (Nat.le_refl _)] at kK hb;refine yY _ _ (aH _ _ ?_);simp only[fX,seval,r5];exact hΦ _ _ _ _ hb kK (fun b hb=>by have:=hnm b hb;have:=k7.next;omega) (k7.trans hk)
 ·refine⟨none,0,0,?_,?_,?_,rfl,.nil,by simp[nameOf],?_,?_,?_,.refl k7.ok⟩
  all_goals try simp only[fX,seval]
  all_goals rfl
end
end Go.Dust
