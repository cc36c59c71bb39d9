/- VerifySound walked in D, function by function, and its plain law (I1 F7 Eo G1 K7). -/
import Derived.Test.YtaoiejcaopgjcaaGreatZ
import Derived.Test.YtaoiejcaopgjcaaGreat1
import Derived.Test.YtaoiejcaopgjcaaGreatO
import Derived.Test.YtaoiejcaopgjcaaGreata
import Derived.Test.YtaoiejcaopgjcaaGreat4
set_option linter.unusedVariables false
set_option linter.unusedSimpArgs false
open Nat renaming reduceEqDiff → zA, reduceMul → zB, reduceAdd → zC, reduceBEq → zD
open Int renaming reduceEq → zE, reduceBEq → zF
namespace Go.Dust
open Go.Proofs
set_option maxRecDepth 100000
set_option maxHeartbeats 1000000
section
variable {q:Bool} {Y:Env} {K:qT} {ops:Array Oper} {d:Option Tmp} {op:Op} {ty:TypeId} {pos:String} {af:Array Edge} {l:List Oper} {a:bD} {s:St} {Φ:bD→St→Prop}
theorem WQ (hk:bN op=.effect) {r:cQ (Value×St)} (he:∀ c k,bL Y c k s a.eval op=r) (h:r.jO q fun p=>eE q Y K ops l (a.put d p.1) p.2 Φ):eE q Y K ops (⟨d,op,ty,pos,af,none⟩::l) a s Φ:=by
 obtain⟨m,hm⟩:=cQ.jH (Q:=fun m (p:Value×St)=>(dL Y (dN Y K m) (dH Y K m) ops l (a.put d p.1) p.2).jO q fun(p:bD×St)=>Φ p.1 p.2)
  (fun m p hq=>tL (Φ:=fun p=>Φ p.1 p.2) (Nat.le_succ m) hq) h
 refine⟨m,?_⟩
 rw[dL,if_pos (show Region.wanted ⟨d,op,ty,pos,af,none⟩ (aE ops a)=true from rfl),kD,hk]
 simp only[he]
 rw[cQ.dS]
 exact hm
theorem pk {t k v:TypeId} {x:Operand} {mb cM:Nat} {es:List MapEntry} (hx:a.eval x=.map (some mb)) (ht:(Y.ty t).map (fun i=>i.desc)=some (.map k v)) (hM:mapOf s.look mb=some (es,cM))
  (h:eE q Y K ops l (a.put d (ptr s.next)) (s.new fun v=>.eU (some mb) cM [] cM v) Φ):eE q Y K ops (⟨d,.range t x,ty,pos,af,none⟩::l) a s Φ:=by
 obtain⟨i,hi,hd⟩:∃ i,Y.ty t=some i∧i.desc=.map k v:=by
  cases hy:Y.ty t with
  | none=>rw[hy] at ht;cases ht
  | some i=>rw[hy] at ht;exact⟨i,rfl,by simpa using ht⟩
 refine WQ (r:=.ret (ptr s.next,s.new fun v=>.eU (some mb) cM [] cM v)) rfl (fun c k=>?_) h
 simp only[bL,hi,hd,hx,hM]
theorem ko {es:List MapEntry} {since:Nat} {seen:List Nat} {e:MapEntry} (h:some e∈iQ es since seen):e∈es∧e.born∉seen:=by
 unfold iQ at h
 simp only[List.mem_append,List.mem_map,Option.some.injEq,exists_eq_right] at h
 rcases h with h | h
 ·split at h
  ·rw[List.mem_singleton] at h;cases h
  ·cases h
 ·have:e∈es.filter fun e=>!seen.contains e.born:=by
   rcases h with h | h <;> exact(List.mem_filter.1 h).1
  obtain⟨h1,h2⟩:=List.mem_filter.1 this
  refine⟨h1,fun hc=>?_⟩
  rw[List.contains_iff_mem.2 hc] at h2
  cases h2
theorem YQ {es:List MapEntry} {since:Nat} {seen:List Nat} (h:none∈iQ es since seen):∀ e∈es,e.born<since→e.born∈seen:=by
 unfold iQ at h
 simp only[List.mem_append,List.mem_map,reduceCtorEq,and_false,exists_false,or_false] at h
 intro e he hb
 split at h
 ·rename_i hn
  rw[List.isEmpty_iff,List.filter_eq_nil_iff] at hn
  by_cases hc:e.born∈seen
  ·exact hc
  ·exact absurd (decide_eq_true hb) (hn e (List.mem_filter.2 ⟨he,by rw[Bool.not_eq_true',← Bool.not_eq_true];exact fun h=>hc (List.contains_iff_mem.1 h)⟩))
 ·cases h
theorem sr {es:List MapEntry} {since:Nat} {seen:List Nat}:iQ es since seen≠[]:=by
 unfold iQ
 simp only
 intro h
 rw[List.append_eq_nil_iff] at h
 obtain⟨h1,h2⟩:=h
 rw[List.map_eq_nil_iff,List.append_eq_nil_iff] at h2
 rw[h2.1] at h1
 cases h1
theorem yr {x:Operand} {it mb cM since dF:Nat} {es:List MapEntry} {seen:List Nat} (hq:q=true) (hx:a.eval x=ptr it) (hI:s.heap.get it=some (.eU (some mb) since seen cM dF)) (hM:mapOf s.look mb=some (es,cM)) (hb:∀ e∈es,e.born<cM)
  (h1:∀ e∈es,e.born∉seen→eE q Y K ops l (a.put d (.tuple #[.bool true,e.key,e.val])) (s.put it fun v=>.eU (some mb) since (e.born::seen) cM v) Φ)
  (h2:(∀ e∈es,e.born<since→e.born∈seen)→eE q Y K ops l (a.put d (.tuple #[.bool false])) s Φ):eE q Y K ops (⟨d,.next x false,ty,pos,af,none⟩::l) a s Φ:=by
 refine WQ (r:=FT s (a.eval x) false) rfl (fun c k=>rfl) ?_
 rw[hx]
 have hall:(!seen.isEmpty&&!es.isEmpty&&es.all fun e=>decide (e.born≥cM))=false:=by
  cases es with
  | nil=>simp
  | cons e es =>
   have:=hb e (List.mem_cons_self ..)
   rw[List.all_cons,decide_eq_false (by omega)]
   simp
 have hp:∀ i,i<(iQ es since seen).length→(FY s it mb since seen cM (iQ es since seen) i).jO q fun p=>eE q Y K ops l (a.put d p.1) p.2 Φ:=by
  intro i hi
  unfold FY
  rw[List.getElem?_eq_getElem hi]
  cases hc:(iQ es since seen)[i] with
  | none =>
   have:(none:Option MapEntry)∈iQ es since seen:=by rw[← hc];exact List.getElem_mem _
   exact h2 (YQ this)
  | some e =>
   have:some e∈iQ es since seen:=by rw[← hc];exact List.getElem_mem _
   obtain⟨g1,g2⟩:=ko this
   exact h1 e g1 g2
 have hlen:0<(iQ es since seen).length:=List.length_pos_iff.2 sr
 simp only[FT,ptr,and_self,if_true,hI,Bool.false_eq_true,if_false,hM,hall]
 split
 ·exact hp 0 hlen
 ·exact⟨hq,fun i hi=>hp i hi⟩
theorem tl {H:aY} {it mb cM since dF:Nat} {es:List MapEntry} {seen:List Nat} {e:MapEntry} (hI:H it=some (.eU (some mb) since (e.born::seen) cM dF)) (hM:mapOf H mb=some (es,cM)) (he:e∈es):∃ e'∈es,nZ H (ptr it)=some (.tuple #[e'.key,e'.val]):=by
 cases hf:es.find? (·.born==e.born) with
 | none =>
  have:=List.find?_eq_none.1 hf e he
  simp at this
 | some e' =>
  refine⟨e',List.mem_of_find?_eq_some hf,?_⟩
  simp only[nZ,ptr,and_self,if_true,hI,hM,hf]
end
def VU (es:List MapEntry) (seen:List Nat):Nat:=(es.filter fun e=>!seen.contains e.born).length
theorem vy {es:List MapEntry} {seen:List Nat} {e:MapEntry} (he:e∈es) (hs:e.born∉seen):VU es (e.born::seen)<VU es seen:=by
 unfold VU
 induction es with
 | nil=>cases he
 | cons x es ih =>
  have hle:∀ l:List MapEntry,(l.filter fun x=>!(e.born::seen).contains x.born).length≤(l.filter fun x=>!seen.contains x.born).length:=by
   intro l
   induction l with
   | nil=>exact Nat.le_refl _
   | cons y l ih =>
    rw[List.filter_cons,List.filter_cons]
    cases h1:seen.contains y.born with
    | true=>rw[show (e.born::seen).contains y.born=true from List.contains_iff_mem.2 (List.mem_cons_of_mem _ (List.contains_iff_mem.1 h1))];simpa using ih
    | false =>
     simp only[Bool.not_false,if_true]
     split
     ·simpa using ih
     ·rw[List.length_cons];omega
  rw[List.filter_cons,List.filter_cons]
  rcases List.mem_cons.1 he with rfl | he'
  ·rw[show (e.born::seen).contains e.born=true from List.contains_iff_mem.2 (List.mem_cons_self ..),show seen.contains e.born=false from by rw[← Bool.not_eq_true];exact fun h=>hs (List.contains_iff_mem.1 h)]
   have:=hle es
   simp only[Bool.not_true,Bool.not_false,if_true,Bool.false_eq_true,if_false,List.length_cons]
   omega
  ·have:=ih he'
   cases h1:seen.contains x.born with
   | true=>rw[show (e.born::seen).contains x.born=true from List.contains_iff_mem.2 (List.mem_cons_of_mem _ (List.contains_iff_mem.1 h1))];simpa using this
   | false =>
    simp only[Bool.not_false,if_true,List.length_cons]
    split
    ·rw[List.length_cons];omega
    ·omega
theorem vo {es:List MapEntry} {K:List Int} (h:es.map (fun e=>(e.key,e.val))=(keys K).map (fun p=>(int p.1,p.2))) {e:MapEntry} (he:e∈es):∃ a∈K,e.key=int a:=by
 have h1:(e.key,e.val)∈es.map (fun e=>(e.key,e.val)):=List.mem_map_of_mem he
 rw[h] at h1
 simp only[keys,List.map_map,List.mem_map,Function.comp] at h1
 obtain⟨a,ha,hb⟩:=h1
 refine⟨a,ha,?_⟩
 simp only[Prod.mk.injEq] at hb
 exact hb.1.symm
open Go.Proofs
set_option maxRecDepth 100000
set_option maxHeartbeats 1000000
section
variable {kc:Kc} {s:St} {Φ:Value→St→Prop} {h r:Nat} {P:PH} {R:PR}
theorem PR.oq {s:St} {r:Nat} {R:PR} (A:bB s r R):∀ x∈R.leads,i64 x:=by
 have:∀ (L:List tS) (x:Int),x∈R.gL L→∃ p,x=R.get p:=by
  have hf:∀ (L:List Int) (l:List Int) (x:Int),x∈L.foldl once l→x∈l∨x∈L:=by
   intro L
   induction L with
   | nil=>intro l x h;exact .inl h
   | cons y L ih =>
    intro l x h
    rcases ih _ x h with h | h
    ·unfold once at h
     split at h
     ·exact .inl h
     ·rcases List.mem_append.1 h with h | h
      ·exact .inl h
      ·exact .inr (by rw[List.mem_singleton.1 h];exact List.mem_cons_self ..)
    ·exact .inr (List.mem_cons_of_mem _ h)
  intro L x hx
  rcases hf _ _ x hx with h | h
  ·cases h
  ·obtain⟨p,_,rfl⟩:=List.mem_map.1 h
   exact⟨p,rfl⟩
 intro x hx
 obtain⟨p,rfl⟩:=this _ x hx
 exact PR.BV A p
theorem cK:type_of% (An @RX<|An @IC<|An @BM<|An @SV<|An @wH<|An @yB<|An @DT<|An @iH<|An @mY<|An @nO<|An @BN<|@wG):=An @RX<|An @IC<|An @BM<|An @SV<|An @wH<|An @yB<|An @DT<|An @iH<|An @mY<|An @nO<|An @BN<|@wG
theorem YC (hs:Ok s) (H:aP s h P) (A:bB s r R) (G:P.cZ) (hM:∀ a,P.has a=true→P.M.lookup (P.w a.toNat)=some a)
  (hΦ:∀ s',aC [] s s'→Φ (.tuple #[.slice none 0 0,int 0]) s'):okF true X (KO noKc) 11 [ptr h,ptr r,ptr h,ptr r] s Φ:=by
 have n2:=H.n2
 have hm1:=A.m1
 have hN:¬ (P.N:Int)≤0:=by omega
 have hMm:((R.m:Int)==0)=false:=by rw[beq_eq_false_iff_ne];omega
 refine aG rfl fn_11 rfl (rs:=[.tmp 8,.tmp 9]) rfl (N:=107) rfl rfl ?_
 refine aA fun Ψ0 hΨ0 hΨ0'=>?_
 simp only[cK,↓reduceIte,zA,reduceCtorEq,zE,zB,zC,zD,zF]
 refine hΨ0 _ _ ?_
 refine aA fun Ψ1 hΨ1 hΨ1'=>?_
 refine aA fun Ψ2 hΨ2 hΨ2'=>?_
 refine aH [(3,22),(8,27),(13,32)] (by kernel_rfl) fun O hO ΨR hR=>?_
 have y3:∀ a,aE O a 3=aM (a.aD 22):=hO (3,22) (by simp)
 have y8:∀ a,aE O a 8=aM (a.aD 27):=hO (8,27) (by simp)
 have y13:∀ a,aE O a 13=aM (a.aD 32):=hO (13,32) (by simp)
 simp only[cK,↓reduceIte,zA,reduceCtorEq,zE,zB,zC,zD,zF]
 refine aB ?_ (mR H ?_)
 ·simp only[cK,↓reduceIte,zA,reduceCtorEq,zE,zB,zC,zD,zF]
 simp only[cK,↓reduceIte,zA,reduceCtorEq,zE,zB,zC,zD,zF,y3,hN,decide_false]
 refine aB ?_ (mR H ?_)
 ·simp only[cK,↓reduceIte,zA,reduceCtorEq,zE,zB,zC,zD,zF]
 simp only[cK,↓reduceIte,zA,reduceCtorEq,zE,zB,zC,zD,zF,y3,y8,hN,decide_false]
 refine aB ?_ (rP A ?_)
 ·simp only[cK,↓reduceIte,zA,reduceCtorEq,zE,zB,zC,zD,zF]
 simp only[cK,↓reduceIte,zA,reduceCtorEq,zE,zB,zC,zD,zF,y3,y8,y13,hMm]
 refine aB ?_ (rP A ?_)
 ·simp only[cK,↓reduceIte,zA,reduceCtorEq,zE,zB,zC,zD,zF]
 try simp only[cK,↓reduceIte,zA,reduceCtorEq,zE,zB,zC,zD,zF,y3,y8,y13,hMm]
 refine hR _ _ (hΨ2 _ _ ?_)
 simp only[cK,↓reduceIte,zA,reduceCtorEq,zE,zB,zC,zD,zF]
 refine hΨ1 _ _ ?_
 refine aA fun Ψ3 hΨ3 hΨ3'=>?_
 simp only[cK,↓reduceIte,zA,reduceCtorEq,zE,zB,zC,zD,zF]
 obtain⟨s1,e1,k1,c1,n1⟩:=aT hs (L:=[ptr h,ptr h,.map none,.slice none 0 0]) (n:=4) (e:=123) rfl
 rw[e1]
 refine hΨ3 _ _ ?_
 have H1:=H.aN k1
 have A1:=A.aN k1
 refine aA fun Ψ4 hΨ4 hΨ4'=>?_
 simp only[cK,↓reduceIte,zA,reduceCtorEq,zE,zB,zC,zD,zF]
 refine aB ?_ (XH k1.ok A1 ?_)
 ·simp only[cK,↓reduceIte,zA,reduceCtorEq,zE,zB,zC,zD,zF]
 rintro v s2 b2 ⟨va,vc,rfl⟩ k2 hnm2
 try simp only[cK,↓reduceIte,zA,reduceCtorEq,zE,zB,zC,zD,zF]
 have k02:=k1.trans k2
 have hal:=R.xI A.m4 A.ql
 have hll:=R.FO R.all
 refine aB ?_ (SK k2.ok (H.aN k02) G b2.sl (by show (R.gL R.all).length<100000;omega) (b2.lt k2.ok) (PR.oq A) ?_)
 ·simp only[cK,↓reduceIte,zA,reduceCtorEq,zE,zB,zC,zD,zF]
 rintro mb s3 M3 k3 hmb
 have c3:=(c1.aF k2 (by simp)).aF k3 (by simp)
 obtain⟨s4,h4,c4,k4⟩:=c3.dU k3.ok (i:=2) (v:=.map (some mb)) (by simp) rfl
 have n12:=k2.next
 simp only[cK,↓reduceIte,zA,reduceCtorEq,zE,zB,zC,zD,zF,h4]
 refine hΨ4 _ _ ?_
 have k04:aC [] s s4:=(k02.trans k3).step k4 fun g hg=>.inr (by rw[List.mem_singleton.1 hg];exact hs.fresh _ (Nat.le_refl _))
 have M4:=M3.aF k4 (by simp;omega)
 obtain⟨es,cM,dF,m1,m2,m3⟩:=M4
 have c4:Obj s4 s.next [ptr h,ptr h,.map (some mb),.slice none 0 0]:=c4
 have l2:aI s4.look ⟨s.next,2,none⟩=some (.map (some mb)):=c4.load rfl
 have hmo:mapOf s4.look mb=some (es,cM):=by simp only[mapOf,St.look,m1]
 have n04:=k04.next
 have n24:s2.next≤s4.next:=Nat.le_trans k3.next k4.next
 refine aA fun Ψ5 hΨ5 hΨ5'=>?_
 refine aA fun Ψ6 hΨ6 hΨ6'=>?_
 simp only[cK,↓reduceIte,zA,reduceCtorEq,zE,zB,zC,zD,zF,l2]
 refine pk (mb:=mb) (es:=es) (cM:=cM) (k:=3) (v:=4) ?_ (by kernel_rfl) hmo ?_
 ·simp only[cK,↓reduceIte,zA,reduceCtorEq,zE,zB,zC,zD,zF]
 simp only[cK,↓reduceIte,zA,reduceCtorEq,zE,zB,zC,zD,zF]
 obtain⟨s5,e5,k5,i5⟩:∃ s5,(s4.new fun v=>.eU (some mb) cM [] cM v)=s5∧aC [] s4 s5∧∃ v,s5.heap.get s4.next=some (.eU (some mb) cM [] cM v) :=
  ⟨_,rfl,(aC.refl k04.ok).new (.inr (Nat.le_refl _)),s4.cM,by simp only[St.new,PT.bU,if_true]⟩
 rw[e5]
 refine hΨ6 _ _ ?_
 have k05:=k04.trans k5
 have c5:=c4.aF k5 (by simp)
 have m5:=k5.mC _ _ m1 (by simp)
 have hlt5:∀ b,b<s4.next→b∉[s4.next]:=fun b hb hm=>by simp at hm;omega
 have hmb4:mb<s4.next:=Ok.lt k04.ok m1
 have hpb4:s.next<s4.next:=by have:=c4.lt k04.ok;exact this
 refine aL fun Ψ7 hΨ7 hΨ7e hΨ7'=>?_
 obtain⟨v5,i5⟩:=i5
 refine jU.loop (fun k a' s'=>∃ seen v',k=VU es seen∧a'.aD 0=ptr h∧a'.aD 1=ptr r∧a'.aD 2=ptr h∧a'.aD 3=ptr r∧a'.aD 10=ptr s.next∧a'.aD 55=ptr s4.next∧s'.heap.get s4.next=some (.eU (some mb) cM seen cM v')∧aC [s4.next] s5 s') ?_ (VU es []) ?_
 ·rintro k a' s' ⟨seen,v',rfl,r0,r1,r2,r3,r10,r55,hI,hk⟩
  have ms:=hk.mC _ _ m5 (hlt5 _ hmb4)
  have hms:mapOf s'.look mb=some (es,cM):=by simp only[mapOf,St.look,ms]
  refine aA fun Ψ8 hΨ8 hΨ8'=>?_
  simp only[cK,↓reduceIte,zA,reduceCtorEq,zE,zB,zC,zD,zF]
  refine yr (it:=s4.next) (mb:=mb) (es:=es) (cM:=cM) (since:=cM) (seen:=seen) rfl ?_ hI hms m3 (fun e he hb=>?_) fun _=>?_
  ·simp only[cK,↓reduceIte,zA,reduceCtorEq,zE,zB,zC,zD,zF,r55]
  ·simp only[cK,↓reduceIte,zA,reduceCtorEq,zE,zB,zC,zD,zF]
   refine hΨ8 _ _ ?_
   refine aA fun Ψ9 hΨ9 hΨ9'=>?_
   simp only[cK,↓reduceIte,zA,reduceCtorEq,zE,zB,zC,zD,zF]
   refine hΨ9 _ _ ?_
   refine aL fun Ψ10 hΨ10 hΨ10e hΨ10'=>?_
   refine aA fun Ψ11 hΨ11 hΨ11'=>?_
   have kp:aC [s4.next] s' (s'.put s4.next fun v=>.eU (some mb) cM (e.born::seen) cM v):=.uU hk.ok hI (.inr (Nat.le_refl _)) (List.mem_singleton.2 rfl)
   obtain⟨s6,e6,k6,i6⟩:∃ s6,(s'.put s4.next fun v=>.eU (some mb) cM (e.born::seen) cM v)=s6∧aC [s4.next] s' s6∧∃ v,s6.heap.get s4.next=some (.eU (some mb) cM (e.born::seen) cM v) :=
    ⟨_,rfl,kp,s'.cM,by simp only[St.put,PT.bU,if_true]⟩
   rw[e6]
   obtain⟨v6,i6⟩:=i6
   have hk6:=hk.trans k6
   have ms6:=hk6.mC _ _ m5 (hlt5 _ hmb4)
   have hms6:mapOf s6.look mb=some (es,cM):=by simp only[mapOf,St.look,ms6]
   obtain⟨e',he',hen⟩:=tl (H:=s6.look) (it:=s4.next) i6 hms6 he
   obtain⟨a,haK,hak⟩:=vo m2 he'
   have hha:=P.bt _ a haK
   have hai:i64 a:=PH.HD P H.iJ (PH.yD.2 hha)
   rw[hak] at hen
   simp only[cK,↓reduceIte,zA,reduceCtorEq,zE,zB,zC,zD,zF,r55,hen]
   refine hΨ11 _ _ ?_
   simp only[cK,↓reduceIte,zA,reduceCtorEq,zE,zB,zC,zD,zF,r10]
   have M6:fW s6 mb (keys (P.rounds R.leads).1):=⟨es,cM,dF,ms6,m2,m3⟩
   have H6:aP s6 h P:=(H.aN k05).aF hk6 fun y hy=>hlt5 _ (Nat.lt_of_lt_of_le (H.cH hs y hy) n04)
   refine aB ?_ (ND hk6.ok H6 G (c5.aF hk6 (hlt5 _ hpb4)) M6 hai hha (hM a hha) fun s7 k7=>?_)
   ·simp only[cK,↓reduceIte,zA,reduceCtorEq,zE,zB,zC,zD,zF]
   simp only[cK,↓reduceIte,zA,reduceCtorEq,zE,zB,zC,zD,zF]
   refine hΨ10 _ _ ⟨_,vy he hb,e.born::seen,v6,rfl,?_,?_,?_,?_,?_,?_,k7.mC _ _ i6 (by simp),hk6.trans k7.any⟩
   all_goals try simp only[cK,↓reduceIte,zA,reduceCtorEq,zE,zB,zC,zD,zF,r0,r1,r2,r3,r10,r55]
  ·simp only[cK,↓reduceIte,zA,reduceCtorEq,zE,zB,zC,zD,zF]
   refine hΨ8 _ _ ?_
   refine aA fun Ψ9 hΨ9 hΨ9'=>?_
   simp only[cK,↓reduceIte,zA,reduceCtorEq,zE,zB,zC,zD,zF]
   refine hΨ9' _ _ _ (by simp) (hΨ7e _ _ (hΨ5 _ _ ?_))
   have hk_:=hk
   refine aA fun Ψ12 hΨ12 hΨ12'=>?_
   refine aA fun Ψ13 hΨ13 hΨ13'=>?_
   simp only[cK,↓reduceIte,zA,reduceCtorEq,zE,zB,zC,zD,zF,r1]
   have H6:aP s' h P:=(H.aN k05).aF hk fun y hy=>hlt5 _ (Nat.lt_of_lt_of_le (H.cH hs y hy) n04)
   have A6:bB s' r R:=(A.aN k05).aF hk fun y hy=>hlt5 _ (Nat.lt_of_lt_of_le (A.cH hs y hy) n04)
   refine aB ?_ (uV hk.ok A6 ?_)
   ·simp only[cK,↓reduceIte,zA,reduceCtorEq,zE,zB,zC,zD,zF]
   rintro v s6 b6 ⟨va,vc,rfl⟩ k6 hnm6
   try simp only[cK,↓reduceIte,zA,reduceCtorEq,zE,zB,zC,zD,zF]
   refine hΨ13 _ _ ?_
   have c6:=(c5.aF hk (hlt5 _ hpb4)).aF k6 (by simp)
   have H6:=H6.aN k6
   have A6:=A6.aN k6
   refine aL fun Ψ14 hΨ14 hΨ14e hΨ14'=>?_
   refine dP (n:=R.all.length) (fun j a' s'=>a'.aD 0=ptr h∧a'.aD 1=ptr r∧a'.aD 2=ptr h∧a'.aD 3=ptr r∧a'.aD 10=ptr s.next∧a'.aD 64=.slice va R.all.length vc∧a'.aD 65=int R.all.length∧a'.aD 66=int j∧aC [] s6 s')
    (fun j a' s'=>a'.aD 0=ptr h∧a'.aD 1=ptr r∧a'.aD 2=ptr h∧a'.aD 3=ptr r∧a'.aD 10=ptr s.next∧a'.aD 64=.slice va R.all.length vc∧a'.aD 65=int R.all.length∧a'.aD 66=int j∧aC [] s6 s') ?_ ?_ ?_ ?_ (Nat.zero_le _) ?_
   ·rintro j a' s' hj ⟨r0,r1,r2,r3,r10,r64,r65,r66,hk⟩ Ψ' hΨ'
    simp only[cK,↓reduceIte,zA,reduceCtorEq,zE,zB,zC,zD,zF,r65,r66]
    refine hΨ' _ _ (decide ((j:Int)<R.all.length)) ?_ (by simp) ⟨?_,?_,?_,?_,?_,?_,?_,?_,hk⟩
    all_goals simp only[cK,↓reduceIte,zA,reduceCtorEq,zE,zB,zC,zD,zF,r0,r1,r2,r3,r10,r64,r65,r66]
   ·rintro j a' s' hj ⟨r0,r1,r2,r3,r10,r64,r65,r66,hk⟩ Ψ' w1 w2 w3
    obtain⟨vb,voff,rfl⟩:=b6.sl.addr (show 0<R.all.length by omega)
    have g1:(0:Int)≤(j:Int):=Int.natCast_nonneg _
    have g2:(j:Int)<((R.all.length:Nat):Int):=by omega
    obtain⟨p,hp⟩:∃ p,p=R.all[j]:=⟨_,rfl⟩
    have lj:aS s'.look ⟨vb,voff+j*3,none⟩ 3=some [int p.k,int p.m,int p.i]:=by
     have:=(b6.sl.aF hk (fun b hb=>by simp)).aS (i:=j*3) (k:=3) (by omega) (by rw[uq];omega)
     rw[DM _ hj,← hp] at this
     exact this
    have hpm:p∈R.all:=by rw[hp];exact List.getElem_mem _
    have hph:=R.HC hpm
    refine aA fun Ψ15 hΨ15 hΨ15'=>?_
    obtain⟨t1,e1,u1,d1,v1⟩:=aT hk.ok (L:=[int 0,int 0,int 0]) (n:=3) (e:=118) rfl
    obtain⟨t2,e2,d2,u2⟩:=d1.storeAll u1.ok (vs:=[int p.k,int p.m,int p.i]) rfl rfl
    have u12:aC [] s' t2:=u1.step u2 fun g hg=>.inr (by rw[List.mem_singleton.1 hg];exact hk.ok.fresh _ (Nat.le_refl _))
    simp only[cK,↓reduceIte,zA,reduceCtorEq,zE,zB,zC,zD,zF,r64,r66,g1,g2,and_self,aJ,Int.toNat_natCast,lj]
    rw[e1,e2]
    simp only[cK,↓reduceIte,zA,reduceCtorEq,zE,zB,zC,zD,zF]
    refine hΨ15 _ _ ?_
    have lp:=d2.aS (i:=0) (k:=3) (Nat.le_refl _)
    have hk2:=hk.trans u12
    refine aA fun Ψ16 hΨ16 hΨ16'=>?_
    simp only[cK,↓reduceIte,zA,reduceCtorEq,zE,zB,zC,zD,zF,r1,lp,List.drop_zero,List.take]
    refine aB ?_ (yN u12.ok (A6.aN hk2) p fun s8 k8=>?_)
    ·simp only[cK,↓reduceIte,zA,reduceCtorEq,zE,zB,zC,zD,zF]
    rw[if_pos hph,if_pos hph]
    try simp only[cK,↓reduceIte,zA,reduceCtorEq,zE,zB,zC,zD,zF]
    refine hΨ16 _ _ ?_
    have lp8:=(d2.aF k8 (by simp)).aS (i:=0) (k:=3) (Nat.le_refl _)
    have hk8:=hk2.trans k8
    refine aA fun Ψ17 hΨ17 hΨ17'=>?_
    simp only[cK,↓reduceIte,zA,reduceCtorEq,zE,zB,zC,zD,zF,r3,lp8,List.drop_zero,List.take]
    refine aB ?_ (yN k8.ok (A6.aN hk8) p fun s9 k9=>?_)
    ·simp only[cK,↓reduceIte,zA,reduceCtorEq,zE,zB,zC,zD,zF]
    rw[if_pos hph,if_pos hph]
    try simp only[cK,↓reduceIte,zA,reduceCtorEq,zE,zB,zC,zD,zF]
    refine hΨ17 _ _ ?_
    have hk9:=hk8.trans k9
    refine aA fun Ψ18 hΨ18 hΨ18'=>?_
    simp only[cK,↓reduceIte,zA,reduceCtorEq,zE,zB,zC,zD,zF,r0]
    refine aB ?_ (lE k9.ok (H6.aN hk9) (R.get p) (PR.BV A6 p) fun s10 k10=>?_)
    ·simp only[cK,↓reduceIte,zA,reduceCtorEq,zE,zB,zC,zD,zF]
    try simp only[cK,↓reduceIte,zA,reduceCtorEq,zE,zB,zC,zD,zF]
    refine hΨ18 _ _ ?_
    have hk10:=hk9.trans k10
    obtain⟨id,hid⟩:∃ id,id=(if P.has (R.get p)=true then P.w (R.get p).toNat else 0):=⟨_,rfl⟩
    rw[← hid]
    refine aA fun Ψ19 hΨ19 hΨ19'=>?_
    refine aH [(2,88)] (by kernel_rfl) fun O hO ΨR hR=>?_
    have y2:∀ a,aE O a 2=aM (a.aD 88):=hO (2,88) (by simp)
    by_cases h0:id=0
    ·subst h0
     simp only[cK,↓reduceIte,zA,reduceCtorEq,zE,zB,zC,zD,zF,y2]
     refine hR _ _ (hΨ19 _ _ ?_)
     simp only[cK,↓reduceIte,zA,reduceCtorEq,zE,zB,zC,zD,zF]
     refine w1 _ _ ⟨?_,?_,?_,?_,?_,?_,?_,?_,hk10⟩
     all_goals try simp only[cK,↓reduceIte,zA,reduceCtorEq,zE,zB,zC,zD,zF,r0,r1,r2,r3,r10,r64,r65,r66]
    ·have h0':(id==0)=false:=by rw[beq_eq_false_iff_ne];exact h0
     simp only[cK,↓reduceIte,zA,reduceCtorEq,zE,zB,zC,zD,zF,y2,h0',r2]
     refine aB ?_ (lE k10.ok (H6.aN hk10) (R.get p) (PR.BV A6 p) fun s11 k11=>?_)
     ·simp only[cK,↓reduceIte,zA,reduceCtorEq,zE,zB,zC,zD,zF]
     rw[← hid]
     try simp only[cK,↓reduceIte,zA,reduceCtorEq,zE,zB,zC,zD,zF,y2,h0',beq_self_eq_true]
     refine hR _ _ (hΨ19 _ _ ?_)
     simp only[cK,↓reduceIte,zA,reduceCtorEq,zE,zB,zC,zD,zF]
     refine w1 _ _ ⟨?_,?_,?_,?_,?_,?_,?_,?_,hk10.trans k11⟩
     all_goals try simp only[cK,↓reduceIte,zA,reduceCtorEq,zE,zB,zC,zD,zF,r0,r1,r2,r3,r10,r64,r65,r66]
   ·rintro j a' s' hj ⟨r0,r1,r2,r3,r10,r64,r65,r66,hk⟩ Ψ' w1
    have w:IntKind.i64.wrap ((j:Int)+1)=((j+1:Nat):Int):=by rw[aR (by omega) (by omega)];rfl
    simp only[cK,↓reduceIte,zA,reduceCtorEq,zE,zB,zC,zD,zF,r66,w]
    refine w1 _ _ ⟨?_,?_,?_,?_,?_,?_,?_,?_,hk⟩
    all_goals try simp only[cK,↓reduceIte,zA,reduceCtorEq,zE,zB,zC,zD,zF,r0,r1,r2,r3,r10,r64,r65]
   ·rintro a' s' ⟨r0,r1,r2,r3,r10,r64,r65,r66,hk⟩
    refine hΨ14e _ _ (hΨ12 _ _ ?_)
    have lf:aI s'.look ⟨s.next,3,none⟩=some (.slice none 0 0):=(c6.aF hk (by simp)).load rfl
    simp only[cK,↓reduceIte,zA,reduceCtorEq,zE,zB,zC,zD,zF,r10,lf]
    refine aB ?_ (sS (va:=none) (n:=0) (c:=0) (by omega) ?_)
    ·simp only[cK,↓reduceIte,zA,reduceCtorEq,zE,zB,zC,zD,zF]
    simp only[cK,↓reduceIte,zA,reduceCtorEq,zE,zB,zC,zD,zF]
    refine hΦ s' ?_
    refine(((k05.step hk_ fun g hg=>.inr ?_).trans k6).trans hk)
    rw[List.mem_singleton.1 hg]
    exact hs.fresh _ (by have:=k04.next;omega)
   ·refine⟨?_,?_,?_,?_,?_,?_,?_,?_,.refl k6.ok⟩
    all_goals try simp only[cK,↓reduceIte,zA,reduceCtorEq,zE,zB,zC,zD,zF,r0,r1,r2,r3,r10]
    rfl
 ·refine⟨[],v5,rfl,?_,?_,?_,?_,?_,?_,i5,.refl k5.ok⟩
  all_goals try simp only[cK,↓reduceIte,zA,reduceCtorEq,zE,zB,zC,zD,zF]
end
end Go.Dust
namespace Go.Dust
theorem VR.back {ι ι':cR} (hle:ι.le ι') {v u:Value} (h:VR ι v u):∀ {u':Value},VR ι' v u'→VR ι v u':=by
 have arr:∀ {a a' b:Array Value},a.size=a'.size→(∀ (i:Nat) v u,a[i]?=some v→a'[i]?=some u→∀ {u'},VR ι' v u'→VR ι v u')→(∀ (i:Nat) v u,a[i]?=some v→b[i]?=some u→VR ι' v u)→∀ (i:Nat) v u,a[i]?=some v→b[i]?=some u→VR ι v u:=by
  intro a a' b hs ih h i v u hv hu
  have hi:i<a'.size:=by
   rw[← hs]
   exact(Array.getElem?_eq_some_iff.1 hv).1
  exact ih i v a'[i] hv (Array.getElem?_eq_getElem hi) (h i v u hv hu)
 have nm:∀ {b:Nat} {l l':Loc},ι b=some l→ι' b=some l'→l'=l:=by
  intro b l l' h h'
  have:=hle _ _ h
  rw[h'] at this
  exact Option.some.inj this
 induction h with
 | bool b=>intro u' k;cases k;exact .bool b
 | int k n=>intro u' k;cases k;exact .int _ n
 | float k n=>intro u' k;cases k;exact .float _ n
 | string s=>intro u' k;cases k;exact .string s
 | DZ=>intro u' k;cases k;exact .DZ
 | ptr h =>
  intro u' k
  cases k with
  | ptr k=>cases nm h k;exact .ptr h
 | nF n c=>intro u' k;cases k;exact .nF n c
 | slice n c h =>
  intro u' k
  cases k with
  | slice _ _ k=>cases nm h k;exact .slice _ _ h
 | nN h =>
  intro u' k
  cases k with
  | nN k=>cases nm h k;exact .nN h
 | KC=>intro u' k;cases k;exact .KC
 | map h =>
  intro u' k
  cases k with
  | map k=>cases nm h k;exact .map h
 | func ha hc _ _ ih1 ih2 =>
  intro u' k
  cases k with
  | func ha' hc' k1 k2=>exact .func ha' hc' (arr ha ih1 k1) (arr hc ih2 k2)
 | ak ha hc _ _ ih1 ih2 =>
  intro u' k
  cases k with
  | ak ha' hc' k1 k2=>exact .ak ha' hc' (arr ha ih1 k1) (arr hc ih2 k2)
 | yield h =>
  intro u' k
  cases k with
  | yield k=>cases nm h k;exact .yield h
 | nilFunc=>intro u' k;cases k;exact .nilFunc
 | nilIface=>intro u' k;cases k;exact .nilIface
 | iface t _ ih =>
  intro u' k
  cases k with
  | iface _ k=>exact .iface t (ih k)
 | agg ha _ ih =>
  intro u' k
  cases k with
  | agg ha' k=>exact .agg ha' (arr ha ih k)
 | tuple ha _ ih =>
  intro u' k
  cases k with
  | tuple ha' k=>exact .tuple ha' (arr ha ih k)
theorem ER.back {ι ι':cR} (hle:ι.le ι') {e x y:MapEntry} (h:ER ι e x) (k:ER ι' e y):ER ι e y:=⟨h.1.back hle k.1,h.2.back hle k.2,k.3⟩
theorem sN.back {ι ι':cR} (hle:ι.le ι'):∀ {l l' l'':List MapEntry},sN ι l l'→sN ι' l l''→sN ι l l''
 | _,_,_,.nil,.nil=>.nil
 | _,_,_,.cons h t,.cons k u=>.cons (h.back hle k) (sN.back hle t u)
theorem nV.back {X:Env} {ι ι':cR} {w w':World} {l:Loc} (hle:ι.le ι'):∀ {o:bX},nV X ι w l o→nV X ι' w' l o→nV X ι w' l o
 | .cells ..,h,k=>by
  obtain⟨arr,e',fz,h1,h2,h3,h4,h5,h6,h7⟩:=h
  obtain⟨arr',e'',fz',k1,k2,k3,k4,k5,k6,k7⟩:=k
  refine⟨arr',e'',fz',k1,k2,k3,k4,k5,k6,fun i hi=>?_⟩
  obtain⟨v,u,a,b,c⟩:=h7 i hi
  obtain⟨v',u',a',b',c'⟩:=k7 i hi
  rw[a] at a';cases a'
  exact⟨v,u',a,b',c.back hle c'⟩
 | .map ..,h,k=>by
  obtain⟨h0,h1,h2,es',h3,h4⟩:=h
  obtain⟨_,_,_,es'',k3,k4⟩:=k
  exact⟨h0,h1,h2,es'',k3,h4.back hle k4⟩
 | .eU none ..,h,k=>k
 | .eU (some m) ..,h,k=>by
  obtain⟨h0,h1,h2,lm,h3,h4⟩:=h
  obtain⟨_,_,_,lm',k3,k4⟩:=k
  have:=hle _ _ h3
  rw[k3] at this;cases this
  exact⟨h0,h1,h2,lm,h3,k4⟩
 | .nW ..,h,k=>k
 | .loop ..,h,k=>by
  obtain⟨h0,h1,h2,h3,h4,h4',r,h5,h6,h7,h8,h9,h10,h11,h12⟩:=h
  obtain⟨_,_,_,_,_,_,r',k5,k6,k7,k8,k9,k10,k11,k12⟩:=k
  exact⟨h0,h1,h2,h3,h4,h4',r',k5,k6,k7,k8,k9,k10,k11,fun i hi=>(h12 i hi).back hle (k12 i hi)⟩
 | .dead,_,_=>trivial
theorem R.back {X:Env} {ι ι':cR} {H H':aY} {n n':Nat} {w w':World} (h:R X ι H n w) (k:R X ι' H' n' w') (e:Ext ι H n w ι' H' n' w') (hk:∀ b o,H b=some o→o.bC=false→H' b=some o):R X ι H n w':=by
 refine⟨h.even,h.GZ,h.fresh,fun b l hb hl=>Nat.lt_of_lt_of_le (h.qx b l hb hl) e.size,fun b o hb hd=>?_,h.inj⟩
 obtain⟨l,h1,h2⟩:=h.obj b o hb hd
 obtain⟨l',k1,k2⟩:=k.obj b o (hk b o hb hd) hd
 have:=e.le _ _ h1
 rw[k1] at this;cases this
 exact⟨l,h1,h2.back e.le k2⟩
theorem Ext.back {ι ι':cR} {H H':aY} {n n':Nat} {w w':World} (e:Ext ι H n w ι' H' n' w'):Ext ι H n w ι H n w' :=
 ⟨cR.le_refl _,fun _ h _=>h,Nat.le_refl _,e.os,e.tape,e.output,e.size,e.aF,fun _ h=>.inl h⟩
end Go.Dust
namespace Go.Dust
open Go.Proofs Go.ChangeShapes Go.RowKit Go.WideShapes
set_option maxRecDepth 100000
set_option maxHeartbeats 1000000
theorem nV.dR {Y:Env} {ι:cR} {w:World} {l:Loc} {o:bX} (h:nV Y ι w l o) (hd:o.bC=false):l.dR<w.heap.size:=by
 have:∀ x,w.heap[l.dR]?=some x→l.dR<w.heap.size:=fun x hx=>(Array.getElem?_eq_some_iff.1 hx).1
 cases o with
 | cells c z n e room ro dF=>obtain⟨arr,e',fz,h1,_⟩:=h;exact this _ h1
 | map es cM dF=>obtain⟨_,_,_,es',h1,_⟩:=h;exact this _ h1
 | eU m a b c d =>
  cases m with
  | none=>obtain⟨_,_,_,a,b,c,h1⟩:=h;exact this _ h1
  | some m=>obtain⟨_,_,_,lm,_,h1⟩:=h;exact this _ h1
 | nW a b c=>exact this _ h.2.2.2
 | loop st p t nt ps sa bd v=>obtain⟨_,_,_,_,_,_,r,h1,_⟩:=h;exact this _ h1
 | dead=>cases hd
theorem re {P:Program} {ι:cR} {s:St} {W W':World} (hR:RS P ι s W) (hb:Below W.heap.size W W'):RS P ι s W'∧ES ι s W ι s W':=by
 refine⟨⟨hR.even,hR.GZ,hR.fresh,fun b l hl hr=>Nat.lt_of_lt_of_le (hR.qx b l hl hr) hb.size,fun b o hb' hd=>?_,hR.inj⟩,cR.le_refl _,fun _ h _=>h,Nat.le_refl _,hb.os,hb.tape,hb.output,hb.size,fun c hc _=>hb.block c hc,fun _ h=>.inl h⟩
 obtain⟨l,h1,h2⟩:=hR.obj b o hb' hd
 exact⟨l,h1,h2.mono (cR.le_refl _) (hb.block _ (h2.dR hd))⟩
theorem okAll:SC Tryz.prog.funcs.toList=true:=by kernel_rfl
theorem envX:env Tryz.prog=X:=tn okAll
theorem mixed:Tryz.prog.follows .mixedOrders=true:=by kernel_rfl
theorem kf:goK (envF Tryz.prog) 100000 (.call 15 []) GN oy gp=true:=by kernel_rfl
theorem YJ:isTrue (kC (env Tryz.prog) 100000 15 [] GN)=true:=by
 rw[tn okAll]
 exact nv kf
theorem WR {kc:Kc} (h1:∀ args s r,kc args s=some r→r.Lv fun p=>eZ s p.2)
  (h2:∀ args (args':Array Value) s r w ι Φ,kc args s=some r→r.yY Φ→eF ι args args'.toList→RS Tryz.prog ι s w→Calls Tryz.prog 11 args' w (ka Tryz.prog ι s w Φ)):HV Tryz.prog (KO kc):=by
 refine⟨fun f args s r h=>?_,fun f args s r h=>?_,fun f args args' s r w ι Φ h ha hv hR=>?_⟩
 ·unfold KO at h
  split at h
  ·cases h;exact .refl _
  ·split at h
   ·exact h1 _ _ _ h
   ·cases h
 ·rw[envX]
  unfold KO at h
  split at h
  ·rename_i hf
   rw[hf.1]
   exact⟨_,rfl,by kernel_rfl⟩
  ·split at h
   ·rename_i hf
    rw[hf]
    exact⟨_,rfl,by kernel_rfl⟩
   ·cases h
 ·unfold KO at h
  split at h
  ·rename_i hf
   obtain⟨rfl,hargs⟩:=hf
   cases h
   obtain rfl:args=[]:=List.isEmpty_iff.1 hargs
   have hv':eF zX [] args'.toList:=by
    cases hl:args'.toList with
    | nil=>exact .nil
    | cons x l=>rw[hl] at hv;cases hv
   obtain⟨fn,hfn,hb⟩:∃ fn,Tryz.prog.funcs[15]?=some fn∧fn.body.isSome=true:=⟨_,rfl,by kernel_rfl⟩
   refine(YP mixed hfn hb hv' YJ).mono ?_
   rintro e W' ⟨rfl,hbl⟩
   obtain⟨g1,g2⟩:=re hR hbl
   exact⟨.bool true,.bool true,s,ι,rfl,ha,.bool true,g1,g2⟩
  ·split at h
   ·rename_i hf
    subst hf
    exact h2 _ _ _ _ _ _ _ h ha hv hR
   ·cases h
theorem yv:HV Tryz.prog (KO noKc):=WR (fun _ _ _ h=>by cases h) (fun _ _ _ _ _ _ _ h=>by cases h)
def qz (args:List Value) (s:St):Prop:=∃ h r P R,args=[ptr h,ptr r,ptr h,ptr r]∧Ok s∧aP s h P∧bB s r R∧P.cZ∧∀ a,P.has a=true→P.M.lookup (P.w a.toNat)=some a
open Classical in
noncomputable def wF:Kc:=fun args s=>if qz args s then some (.ret (.tuple #[.slice none 0 0,int 0],s)) else none
theorem bh:HV Tryz.prog (KO wF):=by
 refine WR (fun args s r h=>?_) (fun args args' s r w ι Φ h ha hv hR=>?_)
 ·unfold wF at h
  split at h
  ·cases h;exact .refl _
  ·cases h
 ·unfold wF at h
  split at h
  ·rename_i hk
   cases h
   obtain⟨hp,rp,P,R,rfl,hs,H,A,G,hM⟩:=hk
   obtain⟨fn,hfn,hb⟩:∃ fn,Tryz.prog.funcs[11]?=some fn∧fn.body.isSome=true:=⟨_,rfl,by kernel_rfl⟩
   have hok:=YC (Φ:=fun v s'=>v=.tuple #[.slice none 0 0,int 0]∧aC [] s s') hs H A G hM fun s' k=>⟨rfl,k⟩
   rw[← envX] at hok
   refine(NN mixed yv hfn hb hR hv hok).mono ?_
   rintro e W' ⟨v,s',ι',v',rfl,hvv,hR',hE,rfl,hk⟩
   refine⟨_,v',s,ι,rfl,ha,?_,Go.Dust.R.back hR hR' hE fun b o hb _=>hk.mC b o hb (by simp),hE.back⟩
   cases hvv with
   | tuple hsz hav =>
    refine .tuple hsz fun i v u h1 h2=>?_
    have:=hav i v u h1 h2
    rcases i with _ | _ | i
    ·cases h1;cases this;exact .nF _ _
    ·cases h1;cases this;exact .int _ _
    ·simp at h1
  ·cases h
theorem kept_ok {q:Bool} {s:St} {Φ:Value→St→Prop} {h r:Nat} {P:PH} {R:PR} (hs:Ok s) (H:aP s h P) (A:bB s r R) (G:P.cZ) (hM:∀ a,P.has a=true→P.M.lookup (P.w a.toNat)=some a) (hΦ:Φ (.tuple #[.slice none 0 0,int 0]) s) :
  okF q X (KO wF) 11 [ptr h,ptr r,ptr h,ptr r] s Φ:=by
 refine okF.orc (r:=.ret (.tuple #[.slice none 0 0,int 0],s)) ?_ hΦ
 show wF _ s=_
 unfold wF
 rw[if_pos ⟨h,r,P,R,rfl,hs,H,A,G,hM⟩]
end Go.Dust
namespace Go.Dust
open Go.Proofs
set_option maxRecDepth 100000
set_option maxHeartbeats 4000000
theorem wE {α β:Type} {f:α→List β} {l:List α} {a:α} (hn:l.Nodup) (ha:a∈l) (h:∀ x∈l,x≠a→f x=[]):l.flatMap f=f a:=by
 induction l with
 | nil=>cases ha
 | cons x l ih =>
  rw[List.nodup_cons] at hn
  rw[List.flatMap_cons]
  rcases List.mem_cons.1 ha with rfl | ha'
  ·have:l.flatMap f=[]:=by
    rw[List.flatMap_eq_nil_iff]
    intro y hy
    exact h y (List.mem_cons_of_mem _ hy) (fun e=>hn.1 (by rw[← e];exact hy))
   rw[this,List.append_nil]
  ·have hx:f x=[]:=h x (List.mem_cons_self ..) (fun e=>hn.1 (by rw[e];exact ha'))
   rw[hx,List.nil_append]
   exact ih hn.2 ha' fun y hy=>h y (List.mem_cons_of_mem _ hy)
namespace PH
variable {P:PH}
theorem kd:P.all.Nodup:=tT.imp fun h=>by omega
theorem YH {v:Int} (h:v=0∨P.has v=true):P.mU v=-1:=by unfold mU;rw[if_pos h]
theorem Sound.bK (h:P.Sound):P.bK=[]:=by
 unfold PH.bK
 rw[List.flatMap_eq_nil_iff]
 intro a _
 unfold vF vG
 rw[List.flatMap_eq_nil_iff]
 intro i _
 unfold BR
 rw[YH (h a i),if_neg (by omega)]
theorem JF (h:P.Sound) (I:P.Inv) {a k v:Int} (hc:P.has a=true∧0≤k∧k<(P.shape a).r) (hv:v≠0) (hh:P.has v=false):(P.gG (a+2+k) v).bK=[((P.gG (a+2+k) v).mU v,a,k)]:=by
 have G:=I.cZ
 obtain⟨h1,h2,h3⟩:=wR G hc
 have B:P.Body a (a+2+k):=⟨hc.1,by omega,by omega⟩
 have hr:=LK I hc (v:=v)
 have hwv:(P.gG (a+2+k) v).mU v≥0:=by
  unfold mU
  rw[if_neg]
  ·split
   ·omega
   ·split <;> omega
  ·rintro(e | e)
   ·exact hv e
   ·rw[show (P.gG (a+2+k) v).has v=P.has v from rfl,hh] at e;cases e
 have hother:∀ b i,¬ (b=a∧i=k)→(P.gG (a+2+k) v).mU ((P.gG (a+2+k) v).ref b i)=-1:=fun b i hn=>by
  rw[hr,if_neg hn]
  exact YH (P:=P.gG (a+2+k) v) (h b i)
 unfold PH.bK
 have hall:(P.gG (a+2+k) v).all=P.all:=rfl
 rw[hall,wE kd (yD.2 hc.1)]
 ·unfold vF vG
  have hrn:(P.gG (a+2+k) v).cA a=(P.shape a).r.toNat:=by
   unfold cA lD
   rw[show (P.gG (a+2+k) v).has a=P.has a from rfl,if_pos hc.1,mL G B hc.1]
  rw[hrn,wE List.nodup_range (a:=k.toNat) (List.mem_range.2 (by omega))]
  ·unfold BR
   have e1:(k.toNat:Int)=k:=by omega
   have e2:(P.gG (a+2+k) v).ref a (k.toNat:Int)=v:=by
    rw[hr,e1]
    exact if_pos ⟨rfl,rfl⟩
   rw[e2,e1,if_pos hwv]
  ·intro i _ hi
   unfold BR
   rw[hother _ _ (fun e=>hi (by omega)),if_neg (by omega)]
 ·intro b _ hb
  unfold vF vG
  rw[List.flatMap_eq_nil_iff]
  intro i _
  unfold BR
  rw[hother _ _ (fun e=>hb e.1),if_neg (by omega)]
theorem yy (I:P.Inv) {a k v:Int} (hc:P.has a=true∧0≤k∧k<(P.shape a).r):P.ix (a+2+k)=0∧P.poke (a+2+k) v=P.gG (a+2+k) v:=by
 have G:=I.cZ
 obtain⟨h1,h2,h3⟩:=wR G hc
 have hsz:=size_pos G hc.1
 have hf:=QT G hc.1 (a:=a+2+k) (by omega) (by omega)
 have hp:P.zO (a+2+k)=true:=by
  unfold zO
  rw[hf]
  have h4:=iV.dX.1 (G.val a hc.1).1
  exact decide_eq_true (by omega)
 unfold ix poke
 rw[if_pos ⟨by omega,by omega⟩,if_pos hp,if_pos hp]
 exact⟨rfl,rfl⟩
theorem ow (h:P.Sound) (I:P.Inv) {a k v:Int} (hc:P.has a=true∧0≤k∧k<(P.shape a).r) (hv:v≠0) (hh:P.has v=false):((P.gG (a+2+k) v).lH (P.gG (a+2+k) v).bK).Sound:=by
 have G:=I.cZ
 obtain⟨h1,h2,h3⟩:=wR G hc
 have B:P.Body a (a+2+k):=⟨hc.1,by omega,by omega⟩
 have I1:=I.gG B (v:=v)
 have hr:=LK I hc (v:=v)
 rw[JF h I hc hv hh]
 have hfe:(P.gG (a+2+k) v).mH a k false=0:=by
  unfold mH
  rw[show (P.gG (a+2+k) v).has a=P.has a from rfl,if_pos hc.1,if_neg]
  show ¬ (k<0∨k≥((P.gG (a+2+k) v).shape a).r)
  rw[mL G B hc.1]
  omega
 have he:(P.gG (a+2+k) v).yV a k 0=0:=by unfold yV;rw[if_pos hfe,if_neg (by omega)]
 have hm:(P.gG (a+2+k) v).lH [((P.gG (a+2+k) v).mU v,a,k)]=(P.gG (a+2+k) v).setRef a k 0:=rfl
 rw[hm]
 intro b i
 rw[LJ I1 he,((P.gG (a+2+k) v).pH a k 0).2.1]
 split
 ·exact .inl rfl
 ·rename_i hn
  rw[hr,if_neg hn]
  exact h b i
end PH
end Go.Dust
