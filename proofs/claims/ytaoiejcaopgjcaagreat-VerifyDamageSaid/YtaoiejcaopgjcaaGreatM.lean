/- VerifyDamage walked in D, function by function, and its plain law (I1 F7 H3 N6 H4). -/
import Derived.Test.YtaoiejcaopgjcaaGreatJ
import Derived.Test.YtaoiejcaopgjcaaGreatL
set_option linter.unusedVariables false
set_option linter.unusedSimpArgs false
namespace Go.Dust
open Go.Proofs
set_option maxRecDepth 100000
set_option maxHeartbeats 1000000
section
variable {q:Bool} {Y:Env} {K:eI} {ops:Array Oper} {d:Option Tmp} {op:Op} {ty:TypeId} {pos:String} {af:Array Edge} {l:List Oper} {a:aK} {s:St} {Φ:aK→St→Prop}
theorem Lt (hk:fB op=.effect) {r:bN (Value×St)} (he:∀ c k,gI Y c k s a.eval op=r) (h:r.gK q fun p=>bS q Y K ops l (a.put d p.1) p.2 Φ):bS q Y K ops (⟨d,op,ty,pos,af,none⟩::l) a s Φ:=by
 obtain⟨m,hm⟩:=bN.FT (Q:=fun m (p:Value×St)=>(iM Y (eW Y K m) (gN Y K m) ops l (a.put d p.1) p.2).gK q fun(p:aK×St)=>Φ p.1 p.2)
  (fun m p hq=>RW (Φ:=fun p=>Φ p.1 p.2) (Nat.le_succ m) hq) h
 refine⟨m,?_⟩;rw[iM,if_pos (show Region.wanted ⟨d,op,ty,pos,af,none⟩ (aO ops a)=true from rfl),nK,hk];simp only[he];rw[bN.oW];exact hm
theorem aD2 {t k v:TypeId} {x:Operand} {mb aR:Nat} {es:List MapEntry} (hx:a.eval x=.map (some mb)) (ht:(Y.ty t).map (fun i=>i.desc)=some (.map k v)) (hM:mapOf s.look mb=some (es,aR))
  (h:bS q Y K ops l (a.put d (ptr s.next)) (s.new fun v=>.hY (some mb) aR [] aR v) Φ):bS q Y K ops (⟨d,.range t x,ty,pos,af,none⟩::l) a s Φ:=by
 obtain⟨i,hi,hd⟩:∃ i,Y.ty t=some i∧i.desc=.map k v:=by
  cases hy:Y.ty t with
  | none=>rw[hy] at ht;cases ht
  | some i=>rw[hy] at ht;exact⟨i,rfl,by simpa using ht⟩
 refine Lt (r:=.ret (ptr s.next,s.new fun v=>.hY (some mb) aR [] aR v)) rfl (fun c k=>?_) h;simp only[gI,hi,hd,hx,hM]
theorem Xa {es:List MapEntry} {since:Nat} {seen:List Nat} {e:MapEntry} (h:some e∈nZ es since seen):e∈es∧e.born∉seen:=by
 unfold nZ at h;simp only[List.mem_append,List.mem_map,Option.some.injEq,exists_eq_right] at h;rcases h with h | h
 ·split at h
  ·rw[List.mem_singleton] at h;cases h
  ·cases h
 ·have:e∈es.filter fun e=>!seen.contains e.born:=by
   rcases h with h | h <;> exact(List.mem_filter.1 h).1
  obtain⟨h1,h2⟩:=List.mem_filter.1 this;refine⟨h1,fun hc=>?_⟩;rw[List.contains_iff_mem.2 hc] at h2;cases h2
theorem Xc {es:List MapEntry} {since:Nat} {seen:List Nat} (h:none∈nZ es since seen):∀ e∈es,e.born<since→e.born∈seen:=by
 unfold nZ at h;simp only[List.mem_append,List.mem_map,reduceCtorEq,and_false,exists_false,or_false] at h;intro e he hb;split at h
 ·rename_i hn;rw[List.isEmpty_iff,List.filter_eq_nil_iff] at hn;by_cases hc:e.born∈seen
  ·exact hc
  ·exact absurd (decide_eq_true hb) (hn e (List.mem_filter.2 ⟨he,by rw[Bool.not_eq_true',← Bool.not_eq_true];exact fun h=>hc (List.contains_iff_mem.1 h)⟩))
 ·cases h
theorem Xb {es:List MapEntry} {since:Nat} {seen:List Nat}:nZ es since seen≠[]:=by
 unfold nZ;simp only;intro h;rw[List.append_eq_nil_iff] at h;obtain⟨h1,h2⟩:=h;rw[List.map_eq_nil_iff,List.append_eq_nil_iff] at h2;rw[h2.1] at h1;cases h1
theorem aD1 {x:Operand} {it mb aR since bB:Nat} {es:List MapEntry} {seen:List Nat} (hq:q=true) (hx:a.eval x=ptr it) (hI:s.heap.get it=some (.hY (some mb) since seen aR bB)) (hM:mapOf s.look mb=some (es,aR)) (hb:∀ e∈es,e.born<aR)
  (h1:∀ e∈es,e.born∉seen→bS q Y K ops l (a.put d (.tuple #[.bool true,e.key,e.val])) (s.put it fun v=>.hY (some mb) since (e.born::seen) aR v) Φ)
  (h2:(∀ e∈es,e.born<since→e.born∈seen)→bS q Y K ops l (a.put d (.tuple #[.bool false])) s Φ):bS q Y K ops (⟨d,.next x false,ty,pos,af,none⟩::l) a s Φ:=by
 refine Lt (r:=ID s (a.eval x) false) rfl (fun c k=>rfl) ?_;rw[hx];have hall:(!seen.isEmpty&&!es.isEmpty&&es.all fun e=>decide (e.born≥aR))=false:=by
  cases es with
  | nil=>simp
  | cons e es =>
   have:=hb e (List.mem_cons_self ..);rw[List.all_cons,decide_eq_false (by omega)];simp
 have hp:∀ i,i<(nZ es since seen).length→(EO s it mb since seen aR (nZ es since seen) i).gK q fun p=>bS q Y K ops l (a.put d p.1) p.2 Φ:=by
  intro i hi;unfold EO;rw[List.getElem?_eq_getElem hi];cases hc:(nZ es since seen)[i] with
  | none =>
   have:(none:Option MapEntry)∈nZ es since seen:=by rw[← hc];exact List.getElem_mem _
   exact h2 (Xc this)
  | some e =>
   have:some e∈nZ es since seen:=by rw[← hc];exact List.getElem_mem _
   obtain⟨g1,g2⟩:=Xa this;exact h1 e g1 g2
 have hlen:0<(nZ es since seen).length:=List.length_pos_iff.2 Xb;simp only[ID,and_self,if_true,hI,Bool.false_eq_true,if_false,hM,hall];split
 ·exact hp 0 hlen
 ·exact⟨hq,fun i hi=>hp i hi⟩
end
def QL (es:List MapEntry) (seen:List Nat):Nat:=(es.filter fun e=>!seen.contains e.born).length
theorem aAu {es:List MapEntry} {seen:List Nat} {e:MapEntry} (he:e∈es) (hs:e.born∉seen):QL es (e.born::seen)<QL es seen:=by
 unfold QL
 induction es with
 | nil=>cases he
 | cons x es ih =>
  have hle:∀ l:List MapEntry,(l.filter fun x=>!(e.born::seen).contains x.born).length≤(l.filter fun x=>!seen.contains x.born).length:=by
   intro l
   induction l with
   | nil=>exact Nat.le_refl _
   | cons y l ih =>
    rw[List.filter_cons,List.filter_cons];cases h1:seen.contains y.born with
    | true=>rw[show (e.born::seen).contains y.born=true from List.contains_iff_mem.2 (List.mem_cons_of_mem _ (List.contains_iff_mem.1 h1))];simpa using ih
    | false =>
     simp only[Bool.not_false,if_true];split
     ·simpa using ih
     ·rw[List.length_cons];omega
  rw[List.filter_cons,List.filter_cons];rcases List.mem_cons.1 he with rfl | he'
  ·rw[show (e.born::seen).contains e.born=true from List.contains_iff_mem.2 (List.mem_cons_self ..),show seen.contains e.born=false from by rw[← Bool.not_eq_true];exact fun h=>hs (List.contains_iff_mem.1 h)];have:=hle es;simp only[Bool.not_true,Bool.not_false,if_true,Bool.false_eq_true,if_false,List.length_cons];omega
  ·have:=ih he';cases h1:seen.contains x.born with
   | true=>rw[show (e.born::seen).contains x.born=true from List.contains_iff_mem.2 (List.mem_cons_of_mem _ (List.contains_iff_mem.1 h1))];simpa using this
   | false =>
    simp only[Bool.not_false,if_true,List.length_cons];split
    ·rw[List.length_cons];omega
    ·omega
theorem aA8 {es:List MapEntry} {K:List Int} (h:es.map (fun e=>(e.key,e.val))=(keys K).map (fun p=>(int p.1,p.2))) {e:MapEntry} (he:e∈es):∃ a∈K,e.key=int a:=by
 have h1:(e.key,e.val)∈es.map (fun e=>(e.key,e.val)):=List.mem_map_of_mem he;rw[h] at h1;simp only[keys,List.map_map,List.mem_map,Function.comp] at h1;obtain⟨a,ha,hb⟩:=h1;refine⟨a,ha,?_⟩;simp only[Prod.mk.injEq] at hb;exact hb.1.symm
open Go.Proofs
set_option maxRecDepth 100000
set_option maxHeartbeats 1000000
section
variable {kc:Kc} {s:St} {Φ:Value→St→Prop} {h r:Nat} {P:PH} {R:PR}
theorem PR.aAs {s:St} {r:Nat} {R:PR} (A:cV s r R):∀ x∈R.leads,i64 x:=by
 have:∀ (L:List eJ) (x:Int),x∈R.nV L→∃ p,x=R.get p:=by
  have hf:∀ (L:List Int) (l:List Int) (x:Int),x∈L.foldl once l→x∈l∨x∈L:=by
   intro L
   induction L with
   | nil=>intro l x h;exact .inl h
   | cons y L ih =>
    intro l x h;rcases ih _ x h with h | h
    ·unfold once at h;split at h
     ·exact .inl h
     ·rcases List.mem_append.1 h with h | h
      ·exact .inl h
      ·exact .inr (by rw[List.mem_singleton.1 h];exact List.mem_cons_self ..)
    ·exact .inr (List.mem_cons_of_mem _ h)
  intro L x hx;rcases hf _ _ x hx with h | h
  ·cases h
  ·obtain⟨p,_,rfl⟩:=List.mem_map.1 h;exact⟨p,rfl⟩
 intro x hx;obtain⟨p,rfl⟩:=this _ x hx;exact PR.VN A p
end
open Go.Proofs
set_option maxRecDepth 100000
set_option maxHeartbeats 2000000
theorem bf {Y:Env} {s:St} {t e N n c l h:Nat} {a:Option Addr} {L:List Value} {lo hi:Option Value} (hd:((Y.ty t).map fun i=>i.desc)=some (.slice e)) (he:((Y.ty e).map fun i=>i.size)=some N) (hN:0<N) (B:bJ s e N (.slice a n c) L)
  (h1:l≤h) (h2:h≤n) (hlo:(lo=none∧l=0)∨lo=some (int l)) (hhi:(hi=none∧h=n)∨hi=some (int h)) :
  ∃ a' c',mM Y s.look t (.slice a n c) lo hi none=some (.slice a' (h-l) c')∧kP s.look N (h-l) (.slice a' (h-l) c')=some ((L.drop (l*N)).take ((h-l)*N)):=by
 have hs:=B.sl;have hlen:=hs.len;cases hti:Y.ty t with
 | none=>rw[hti] at hd;cases hd
 | some i =>
 cases hj:Y.ty e with
 | none=>rw[hj] at he;cases he
 | some j =>
 rw[hti] at hd;rw[hj] at he;have hd':i.desc=.slice e:=by simpa using hd
 have he':j.size=N:=by simpa using he
 have hb:∀ lo' hi',qO lo=some lo'→qO hi=some hi'→n≤c→qF n c lo' hi'=some (l,h):=by
  intro lo' hi' e1 e2 hnc;unfold qF;rcases hhi with ⟨rfl,rfl⟩ | rfl
  ·cases e2;rcases hlo with ⟨rfl,rfl⟩ | rfl
   ·cases e1;rfl
   ·cases e1;simp only;rw[if_pos ⟨by omega,by omega⟩];rfl
  ·cases e2;simp only;rw[if_pos ⟨by omega,by omega⟩];rcases hlo with ⟨rfl,rfl⟩ | rfl
   ·cases e1;rfl
   ·cases e1;simp only[Int.toNat_natCast];rw[if_pos ⟨by omega,by omega⟩]
 obtain⟨lo',e1⟩:∃ x,qO lo=some x:=by rcases hlo with ⟨rfl,_⟩ | rfl <;> exact⟨_,rfl⟩
 obtain⟨hi',e2⟩:∃ x,qO hi=some x:=by rcases hhi with ⟨rfl,_⟩ | rfl <;> exact⟨_,rfl⟩
 cases B with
 | nil =>
  have:=hb lo' hi' e1 e2 (Nat.le_refl _);obtain rfl:h=0:=by omega
  obtain rfl:l=0:=by omega
  refine⟨none,0,?_,?_⟩
  ·simp only[mM,hti,e1,e2,hd',this,hj]
  ·simp[kP]
 | @own b off n c L0 L hh hc hn hL hl =>
  obtain⟨cc,z,room,bB,g1,g2⟩:=hh;have g1':s.look b=some (.cells cc z L0.length e room false bB):=g1;have:=hb lo' hi' e1 e2 hn;have hz:mM Y s.look t (.slice (some ⟨b,off,none⟩) n c) lo hi none=if c=l then some (.slice (some (if room then⟨b,off,some (l*j.size)⟩ else⟨b,off,none⟩)) (h-l) (c-l)) else some (.slice (some ((⟨b,off,none⟩:Addr).add (l*j.size))) (h-l) (c-l)):=by
   simp only[mM,hti,e1,e2,hd',this,hj,g1'];rw[if_pos ⟨by omega,by omega⟩]
  by_cases hcl:c=l
  ·rw[if_pos hcl] at hz;have h0:h-l=0:=by omega
   refine⟨_,_,hz,?_⟩;rw[h0,Nat.zero_mul,List.take_zero];simp[kP]
  ·rw[if_neg hcl,he'] at hz;simp only[bQ] at hz;refine⟨_,_,hz,?_⟩;simp only[kP];by_cases h0:(h-l)*N=0
   ·rw[if_pos h0,h0,List.take_zero]
   ·rw[if_neg h0];have hm:l*N+(h-l)*N=h*N:=by rw[← Nat.add_mul];congr 1;omega
    have hm2:h*N≤n*N:=Nat.mul_le_mul_right _ h2;exact hs.bI (by omega) (by omega)
theorem ig {α:Type} {f:α→List Value} {m:Nat} (hf:∀ x,(f x).length=m):∀ (L:List α) (i:Nat),(L.flatMap f).take (i*m)=(L.take i).flatMap f
 | [],i=>by simp
 | x::L,0=>by simp
 | x::L,i+1=>by
  rw[List.flatMap_cons,List.take_append,hf,List.take_of_length_le (by rw[hf,Nat.succ_mul];omega),show (i+1)*m-m=i*m by rw[Nat.succ_mul];omega,ig hf L i,List.take_succ_cons,List.flatMap_cons]
theorem ib {α:Type} {f:α→List Value} {m:Nat} (hf:∀ x,(f x).length=m):∀ (L:List α) (i:Nat),(L.flatMap f).drop (i*m)=(L.drop i).flatMap f
 | [],i=>by simp
 | x::L,0=>by simp
 | x::L,i+1=>by
  rw[List.flatMap_cons,List.drop_append,hf,List.drop_of_length_le (by rw[hf,Nat.succ_mul];omega),show (i+1)*m-m=i*m by rw[Nat.succ_mul];omega,ib hf L i,List.drop_succ_cons,List.nil_append]
theorem m_ {α β:Type} {f:α→List β} {l m:List α} (h:l.Sublist m):(l.flatMap f).Sublist (m.flatMap f):=by
 induction h with
 | slnil=>exact .slnil
 | cons a _ ih=>rw[List.flatMap_cons];exact ih.trans (List.sublist_append_right ..)
 | cons_cons a _ ih=>rw[List.flatMap_cons,List.flatMap_cons];exact List.Sublist.append (List.Sublist.refl _) ih
theorem aCd (L:List cS):(L.flatMap cS.C).all hZ=true:=by
 rw[List.all_flatMap,List.all_eq_true];intro o _
 try rfl
theorem cM.Kn {s s':St} {g:Nat} {G:dI} (H:cM s g G) {F:List Nat} (k:aC F s s') (hF:∀ x∈G.own g,x≠g→x∉F) {va:Option Addr} {vc:Nat} {L:List cS}
  (hc:Obj s' g [.slice (some ⟨G.bn,0,none⟩) G.N G.N,.slice va L.length vc,.slice none 0 0,int G.born]) (hl:bJ s' 133 8 (.slice va L.length vc) (L.flatMap cS.C))
  (hr:∀ o∈L,Obj s' o.rn (o.rs.map int)∧Obj s' o.dn (o.ds.map int)) (hn:(({G with L:=L}:dI).own g).Nodup) (hv:∀ b∈nameOf (.slice va L.length vc),b∉({G with L:=L}:dI).own g) (hlen:L.length≤2048):cM s' g {G with va:=va,vc:=vc,L:=L}:=by
 obtain⟨c,cb,cl,cr,nd,nl,n2,bY,len⟩:=H;have hne:G.bn≠g:=fun e=>by
  unfold dI.own at nd;rw[List.nodup_cons] at nd;exact nd.1 (by rw[← e];exact List.mem_cons_self ..)
 exact⟨hc,cb.aD k (hF _ (List.mem_cons_of_mem _ (List.mem_cons_self ..)) hne),hl,hr,hn,hv,n2,bY,hlen⟩
section
variable {kc:Kc} {q:Bool} {s:St} {Φ:Value→St→Prop} {g:Nat} {G:dI} {P:PH}
theorem eu:((X.ty 133).map fun i=>(i.bytes,i.size,i.zero))=some (96,8,some (.agg #[int 0,int 0,int 0,int 0,int 0,.slice none 0 0,.slice none 0 0,.bool false])):=by kernel_rfl
theorem bo:((X.ty 133).map fun i=>i.size)=some 8:=by kernel_rfl
theorem GC:((X.ty 128).map fun i=>i.desc)=some (.slice 133):=by kernel_rfl
theorem OC {s:St} {n c k:Nat} {x:Value} {a:Option Addr} {L:List Value} {M:List cS} (hs:Ok s) (hb:bJ s 133 8 (.slice a n c) L) (hx:wA x=some k) (hf:kP s.look 8 k x=some (M.flatMap cS.C)) (hk:M.length=k) (hm:n+k<1000000) :
  ∃ a' c' s',oY X s #[128,128] [.slice a n c,x]=some (.slice a' (n+k) c',s')∧bJ s' 133 8 (.slice a' (n+k) c') (L++M.flatMap cS.C)∧aC (nameOf (.slice a n c)) s s'∧(∀ b∈nameOf (.slice a' (n+k) c'),b∈nameOf (.slice a n c)∨s.next≤b):=by
 obtain⟨v,s',h1,h2,h3,h4,a',c',rfl⟩:=iE (X:=X) (t:=128) GC eu rfl hs (by omega) hb hx hf (by rw[vO cS.qB,hk]) (aCd M) (by omega) (by omega);exact⟨a',c',s',h1,h2,h3,h4⟩
theorem JD:type_of% (B4 @RX @kX @lA @FD):=B4 @RX @kX @lA @FD
theorem aEs (hs:Ok s) (H:cM s g G) {i:Nat} (hi:i<G.L.length)
  (hΦ:∀ va vc s',cM s' g {G with va:=va,vc:=vc,L:=G.L.eraseIdx i}→aC [g] s s'→(∀ b∈nameOf (.slice va (G.L.eraseIdx i).length vc),s.next≤b)→Φ (.tuple #[]) s'):okF q X (KO kc) 147 [ptr g,int i] s Φ:=by
 have hlen:=H.len;have pC:=H.eM hs;have hg:g<s.next:=H.c.lt hs;refine aW Tryz.func147 (by kernel_rfl) rfl rfl (rs:=[]) rfl (N:=25) rfl rfl ?_;refine aA fun bF aF bD=>?_;simp only[JD,seval];refine aF _ _ ?_;refine aA fun Ψ1 aE aL=>?_;obtain⟨w1,um,x1,f1⟩:=bf (Y:=X) (t:=128) (lo:=none) (hi:=some (int i)) (l:=0) (h:=i) GC bo (by omega) H.cl (by omega) (by omega) (.inl ⟨rfl,rfl⟩) (.inr rfl);rw[Nat.zero_mul,List.drop_zero,ig cS.qB] at f1;rw[Nat.sub_zero] at x1 f1;obtain⟨a1,c1,s1,e1,b1,k1,m1⟩:=OC (n:=0) (c:=0) (a:=none) hs .nil (x:=.slice w1 i um) rfl f1 (by rw[List.length_take];omega) (by omega);rw[Nat.zero_add,List.nil_append] at *;simp only[JD,seval,H.l1,x1];refine iS ?_ e1 ?_
 ·simp only[JD,seval]
 simp only[JD,seval];refine aE _ _ ?_;have k1:aC [] s s1:=k1;have m1:∀ b∈nameOf (.slice a1 i c1),s.next≤b:=fun b hb=>(m1 b hb).elim (fun h=>by cases h) id;have H1:=H.aJ k1;obtain⟨w2,wc2,x2,f2⟩:=bf (Y:=X) (t:=128) (lo:=some (int ((i+1:Nat)))) (hi:=none) (l:=i+1) (h:=G.L.length) GC bo (by omega) H1.cl (by omega) (by omega) (.inr rfl) (.inl ⟨rfl,rfl⟩);rw[ib cS.qB,List.take_of_length_le (by rw[vO cS.qB,List.length_drop];omega)] at f2;obtain⟨a2,c2,s2,e2,b2,k2,m2⟩:=OC k1.ok b1 (x:=.slice w2 (G.L.length-(i+1)) wc2) rfl f2 (by rw[List.length_drop]) (by omega);have hw:IntKind.i64.wrap ((i:Int)+1)=((i+1:Nat):Int):=by rw[aU (by omega) (by omega)];rfl
 simp only[JD,seval,H1.l1,hw,x2];refine iS ?_ e2 ?_
 ·simp only[JD,seval]
 have jy:g∉nameOf (.slice a1 i c1):=fun h=>by have:=m1 _ h;omega
 obtain⟨s3,e3,o3,k3⟩:=((H1.c).aD k2 jy).fK k2.ok (i:=1) (v:=.slice a2 (i+(G.L.length-(i+1))) c2) (by simp) rfl;simp only[JD,seval,e3];have eL:(G.L.eraseIdx i)=G.L.take i++G.L.drop (i+1):=List.eraseIdx_eq_take_drop_succ ..;have eN:(G.L.eraseIdx i).length=i+(G.L.length-(i+1)):=by rw[eL,List.length_append,List.length_take,List.length_drop];omega
 have m2:∀ b∈nameOf (.slice a2 (i+(G.L.length-(i+1))) c2),s.next≤b:=fun b hb=>by
  rcases m2 b hb with h | h
  ·exact m1 b h
  ·have:=k1.next;omega
 have dD:aC [] s s2:=k1.step k2 fun y hy=>.inr (hs.fresh y (m1 y hy));have fC:aC [g] s s3:=dD.any.trans k3;have own:∀ x∈({G with L:=G.L.eraseIdx i}:dI).own g,x∈G.own g:=by
  intro x hx;unfold dI.own at hx ⊢;simp only[List.mem_cons] at hx ⊢;rcases hx with h | h | h
  ·exact .inl h
  ·exact .inr (.inl h)
  ·obtain⟨o,ho,hx⟩:=List.mem_flatMap.1 h;exact .inr (.inr (List.mem_flatMap.2 ⟨o,List.mem_of_mem_eraseIdx ho,hx⟩))
 have aDd:∀ x∈G.own g,x<s.next:=fun x hx=>pC x (List.mem_append_left _ hx);have vT:=H.nd;refine hΦ a2 c2 s3 (H.Kn fC (fun x _ hne hm=>hne (List.mem_singleton.1 hm)) ?_ ?_ (fun o ho=>?_) ?_ ?_ (by rw[eN];omega)) fC (by rw[eN];exact m2)
 ·rw[eN];exact o3
 ·rw[eN,eL,List.flatMap_append];refine b2.aD k3 fun b hb GW=>?_;have:=m2 b hb;rw[List.mem_singleton.1 GW] at this;omega
 ·have ho':=List.mem_of_mem_eraseIdx ho;have hne:o.rn≠g∧o.dn≠g:=by
   unfold dI.own at vT;rw[List.nodup_cons] at vT;exact⟨fun e=>vT.1 (by rw[← e];exact List.mem_cons_of_mem _ (List.mem_flatMap.2 ⟨o,ho',by simp⟩)),fun e=>vT.1 (by rw[← e];exact List.mem_cons_of_mem _ (List.mem_flatMap.2 ⟨o,ho',by simp⟩))⟩
  exact⟨(H.cr o ho').1.aD fC (by simpa using hne.1),(H.cr o ho').2.aD fC (by simpa using hne.2)⟩
 ·unfold dI.own at vT ⊢;refine vT.sublist (List.Sublist.cons_cons _ (List.Sublist.cons_cons _ ?_));exact m_ (List.eraseIdx_sublist ..)
 ·rw[eN];intro b hb hm;have h1:=m2 b hb;have h2:=aDd b (own b hm);omega
end
open Go.Proofs
set_option maxRecDepth 100000
set_option maxHeartbeats 8000000
theorem aFf (n:Nat) (f:Nat→Value):row (2*(n+1)) f=row (2*n) f++[f (2*n),f (2*n+1)]:=by
 unfold row;rw[show 2*(n+1)=2*n+1+1 by omega,List.range_succ,List.range_succ,List.map_append,List.map_append,List.append_assoc]
 try rfl
namespace PH
variable {P:PH}
theorem aEx {a:Int} {k:Nat} (h:k<P.bZ a):(P.refs a).take (k+1)=(P.refs a).take k++[P.ref a k]:=by
 unfold refs;rw[List.take_add_one,List.getElem?_map,List.getElem?_range h];rfl
theorem aEw (a:Int):(P.refs a).length=P.bZ a:=by unfold refs;rw[List.length_map,List.length_range]
theorem Yo {a:Int} {k:Nat} (h:k<P.jO a):(P.DI a).take (k+1)=(P.DI a).take k++[P.jN a k]:=by
 unfold DI;rw[List.take_add_one,List.getElem?_map,List.getElem?_range h];rfl
theorem Yn (a:Int):(P.DI a).length=P.jO a:=by unfold DI;rw[List.length_map,List.length_range]
theorem Px (G:P.bX) (a:Int):0≤(P.aM a).r∧(P.aM a).r≤15∧0≤(P.aM a).d∧(P.aM a).d≤200:=by
 unfold aM;split
 ·rename_i h;have:=cO.nX.1 (G.val a h).1;omega
 ·exact⟨by decide,by decide,by decide,by decide⟩
end PH
section
variable {kc:Kc} {q:Bool} {s:St} {Φ:Value→St→Prop} {h:Nat} {P:PH}
theorem I9 (hs:Ok s) (H:bK s h P) (G:P.bX) (a i:Int) (ha:i64 a) (hΦ:∀ s',aC [] s s'→Φ (.tuple #[int (P.jN a i),int (P.dR a i true)]) s'):okF q X (KO kc) 39 [ptr h,int a,int i] s Φ:=VY hs H G a i ha hΦ
theorem yV.aD {F:List Nat} {s s':St} {P:PH} {x:uG} (h:yV s P x) (k:aC F s s') (hF:∀ y,y∈nameOf x.2.1∨y∈nameOf x.2.2→y∉F):yV s' P x:=⟨h.r1,h.r2.aD k fun y hy=>hF y (.inl hy),h.d1,h.d2.aD k fun y hy=>hF y (.inr hy)⟩
structure TE (N:Nat) (s:St) (g:Nat) (P:PH) (ba:Option Addr) (bc:Nat) (va:Option Addr) (vc:Nat) (L:List uG):Prop where
 c:Obj s g [.slice ba P.N bc,.slice va L.length vc,.slice none 0 0,int P.born]
 b:bJ s 210 2 (.slice ba P.N bc) (row (2*P.N) fun i=>int (if i%2=0 then P.bs (i/2) else P.bp (i/2)))
 v:bJ s 133 8 (.slice va L.length vc) (L.flatMap P.MR)
 gv:∀ y∈nameOf (.slice va L.length vc),y≠g∧N≤y∧y∉nameOf (.slice ba P.N bc)
 gb:∀ y∈nameOf (.slice ba P.N bc),y≠g
 cr:∀ x∈L,yV s P x∧∀ y,y∈nameOf x.2.1∨y∈nameOf x.2.2→y≠g∧y∉nameOf (.slice va L.length vc)∧y<s.next
theorem TE.aJ {N:Nat} {s s':St} {g:Nat} {P:PH} {ba va:Option Addr} {bc vc:Nat} {L:List uG} (W:TE N s g P ba bc va vc L) (k:aC [] s s'):TE N s' g P ba bc va vc L:=by
 obtain⟨c,b,v,gv,gb,cr⟩:=W;exact⟨c.aD k (by simp),b.aD k (by simp),v.aD k (by simp),gv,gb,fun x hx=>⟨(cr x hx).1.aJ k,fun y hy=>let ⟨h1,h2,h3⟩:=(cr x hx).2 y hy;⟨h1,h2,Nat.lt_of_lt_of_le h3 k.next⟩⟩⟩
def dy (s:St) (P:PH) (N g:Nat) (ba:Option Addr) (bc:Nat) (aa:Option Addr) (ac j:Nat) (s':St):Prop:=∃ va vc L,L.length=j∧L.map Prod.fst=P.all.take j∧TE N s' g P ba bc va vc L∧aC [] s s'∧bJ s' 3 1 (.slice aa P.all.length ac) (P.all.map int)∧∀ y∈nameOf (.slice aa P.all.length ac),y≠g∧y∉nameOf (.slice va L.length vc)∧y<s'.next
theorem cN:type_of% (B9 @RX @xl @nM @nU @JX @zb @Ql @dV (B9 @dQ @bG @xp @DE @FE @vM @VA @lD (B9 @zO @lE @kJ @DN @dF @mC @wK @mD (B6 @VB @kX @lA @AJ @KA @FD)))):=B9 @RX @xl @nM @nU @JX @zb @Ql @dV (B9 @dQ @bG @xp @DE @FE @vM @VA @lD (B9 @zO @lE @kJ @DN @dF @mC @wK @mD (B6 @VB @kX @lA @AJ @KA @FD)))
theorem aAl (hs:Ok s) (H:bK s h P) (G:P.bX) (hΦ:∀ g L s',vF s' g P L→aC [] s s'→s.next≤g→Φ (ptr g) s'):okF q X (KO kc) 122 [ptr h] s Φ:=by
 have n2:=H.n2;have bY:=H.bY;refine aW Tryz.func122 (by kernel_rfl) rfl rfl (rs:=[.tmp 2]) rfl (N:=136) rfl rfl ?_;refine aA fun bF aF bD=>?_;simp only[cN,seval];refine aF _ _ ?_;refine aA fun Ψ1 aE aL=>?_;simp only[cN,seval];refine aH ?_ (I0 H ?_)
 ·simp only[cN,seval]
 obtain⟨s1,e1,k1,c1,n1⟩:=cI hs (L:=[.slice none 0 0,.slice none 0 0,.slice none 0 0,int P.born]) (n:=4) (e:=131) rfl
 try simp only[cN,seval]
 rw[e1]
 try simp only[cN,seval]
 refine aE _ _ ?_;obtain⟨g,hg⟩:∃ g,g=s.next:=⟨_,rfl⟩;rw[← hg] at c1;simp only[← hg];have H1:=H.aJ k1;have gF:∀ y∈[g],s1.heap.get y≠none→True:=fun _ _ _=>trivial;refine aA fun Ψ2 aI bH=>?_;refine aA fun Ψ3 aN bM=>?_;simp only[cN,seval];refine aN _ _ ?_;refine cJ fun Ψ4 aP xS cC=>?_;refine gB (n:=P.N) (fun j a' s'=>∃ ba bc,a'.aB 0=ptr h∧a'.aB 3=ptr g∧a'.aB 4=int j∧Obj s' g [.slice ba j bc,.slice none 0 0,.slice none 0 0,int P.born]∧bJ s' 210 2 (.slice ba j bc) (row (2*j) fun i=>int (if i%2=0 then P.bs (i/2) else P.bp (i/2)))∧(∀ y∈nameOf (.slice ba j bc),y≠g∧s1.next≤y)∧aC [] s s')
  (fun j a' s'=>∃ ba bc,a'.aB 0=ptr h∧a'.aB 3=ptr g∧a'.aB 4=int j∧Obj s' g [.slice ba ((j+1:Nat)) bc,.slice none 0 0,.slice none 0 0,int P.born]∧bJ s' 210 2 (.slice ba (j+1) bc) (row (2*(j+1)) fun i=>int (if i%2=0 then P.bs (i/2) else P.bp (i/2)))∧(∀ y∈nameOf (.slice ba (j+1) bc),y≠g∧s1.next≤y)∧aC [] s s') ?_ ?_ ?_ ?_ (Nat.zero_le _) ?_
 ·rintro j a' s' hj ⟨ba,bc,r0,r3,r4,hc,hb,hn,hk⟩ aV bP;simp only[cN,seval,r0,r4];refine aH ?_ (GX (H.aJ hk) ?_)
  ·simp only[cN,seval]
  simp only[cN,seval];refine bP _ _ (decide ((j:Int)<P.N)) ?_ (by simp) ⟨ba,bc,?_,?_,?_,hc,hb,hn,hk⟩
  all_goals simp only[cN,seval,r0,r3,r4]
 ·rintro j a' s' hj ⟨ba,bc,r0,r3,r4,hc,hb,hn,hk⟩ aV w1 w2 w3;have l0:aG s'.look ⟨g,0,none⟩=some (.slice ba j bc):=hc.load rfl;refine aA fun cU aZ cK=>?_;simp only[cN,seval,r3,l0];refine aZ _ _ ?_;simp only[cN,seval,r0,r3,r4];refine aH ?_ (Eb (H.aJ hk) (j:Int) ?_)
  ·simp only[cN,seval]
  simp only[cN,seval,r0,r4];refine aH ?_ (J4 (H.aJ hk) (j:Int) ?_)
  ·simp only[cN,seval]
  rw[if_pos ⟨Int.natCast_nonneg _,by omega⟩,if_pos ⟨Int.natCast_nonneg _,by omega⟩,Int.toNat_natCast];obtain⟨t1,f1,u1,d1,v1⟩:=cI hk.ok (L:=[int (P.bs j),int (P.bp j)]) (n:=2) (e:=210) rfl;obtain⟨w,t2,h2,b2,u2,m2,a2,c2,rfl⟩:=iE (X:=X) (t:=127) (e:=210) (N:=2) (B:=16) (z:=.agg #[int 0,int 0]) (x:=.slice (some ⟨s'.next,0,none⟩) 1 1) (k:=1) (new:=[int (P.bs j),int (P.bp j)]) (by kernel_rfl) (by kernel_rfl) rfl u1.ok (by omega) (hb.aD u1 (by simp)) rfl (lQ (by omega) (d1.bI (i:=0) (k:=2) (Nat.le_refl _))) rfl rfl (by omega) (by omega);have gn:g∉nameOf (.slice ba j bc):=fun hh=>(hn g hh).1 rfl;obtain⟨t3,h3,d3,u3⟩:=((hc.aD u1 (by simp)).aD u2 gn).fK u2.ok (i:=0) (v:=.slice a2 (j+1) c2) (by simp) rfl
  try simp only[cN,seval]
  rw[f1];refine iS ?_ h2 ?_
  ·simp only[cN,seval]
  simp only[cN,seval,h3];have L9:s'.next≤t1.next:=u1.next;have hge:=hk.next;have WE:g<s'.next:=hc.lt hk.ok;have Uv:aC [] s t1:=hk.trans u1;have Uy:aC [] s t2:=Uv.step u2 fun y hy=>.inr (hs.fresh y (by have:=(hn y hy).2;have:=k1.next;omega));have Uz:aC [] s t3:=Uy.step u3 fun y hy=>.inr (by rw[List.mem_singleton.1 hy,hg];exact hs.fresh _ (Nat.le_refl _));have hn2:∀ y∈nameOf (.slice a2 (j+1) c2),y≠g∧s1.next≤y:=fun y hy=>by
   rcases m2 y hy with e | e
   ·exact hn y e
   ·exact⟨by omega,by have:=k1.next;omega⟩
  refine w1 _ _ ⟨a2,c2,?_,?_,?_,d3,?_,hn2,Uz⟩
  ·simp only[cN,seval,r0]
  ·simp only[cN,seval,r3]
  ·simp only[cN,seval,r4]
  ·rw[aFf];have e1:(2*j)/2=j:=by omega
   have e2:(2*j+1)/2=j:=by omega
   rw[if_pos (by omega),if_neg (by omega),e1,e2];exact b2.aD u3 fun y hy hy'=>(hn2 y hy).1 (List.mem_singleton.1 hy')
 ·rintro j a' s' hj ⟨ba,bc,r0,r3,r4,hc,hb,hn,hk⟩ aV w1;have w:IntKind.i64.wrap ((j:Int)+1)=((j+1:Nat):Int):=by rw[aU (by omega) (by omega)];rfl
  simp only[cN,seval,r4,w];refine w1 _ _ ⟨ba,bc,?_,?_,?_,hc,hb,hn,hk⟩
  all_goals try simp only[cN,seval,r0,r3]
 ·rintro a' s' ⟨ba,bc,r0,r3,r4,hc,hb,hn,hk⟩;refine xS _ _ (aI _ _ ?_);refine aA fun cU aZ cK=>?_;simp only[cN,seval,r0];refine aH ?_ (jr hk.ok (H.aJ hk) ?_)
  ·simp only[cN,seval]
  rintro s2 aa an ac xg rfl zY k2
  try simp only[cN,seval]
  refine aZ _ _ ?_;have hk2:=hk.trans k2;have hal:=P.uI;have WE:=hc.lt hk.ok;have hn1:=k1.next;have Wi:dy s P s1.next g ba bc aa ac 0 s2:=by
   refine⟨none,0,[],rfl,rfl,⟨hc.aD k2 (by simp),hb.aD k2 (by simp),.nil,(by simp[nameOf]),fun y hy=>(hn y hy).1,fun x hx=>by cases hx⟩,hk2,xg,fun y hy=>⟨?_,by simp[nameOf],xg.lt k2.ok y hy⟩⟩;have:=zY y hy;omega
  refine aA fun dN bO cZ=>?_;refine aA fun fE cG dX=>?_;simp only[cN,seval];refine cG _ _ ?_;refine cJ fun gV cT tQ gA=>?_;refine gB (n:=P.all.length) (fun j a' s'=>a'.aB 0=ptr h∧a'.aB 3=ptr g∧a'.aB 6=.slice aa P.all.length ac∧a'.aB 7=int j∧dy s P s1.next g ba bc aa ac j s')
   (fun j a' s'=>a'.aB 0=ptr h∧a'.aB 3=ptr g∧a'.aB 6=.slice aa P.all.length ac∧a'.aB 7=int j∧dy s P s1.next g ba bc aa ac (j+1) s') ?_ ?_ ?_ ?_ (Nat.zero_le _) ?_
  ·rintro j a' s' hj ⟨r0,r3,r6,r7,hW⟩ aV bP;simp only[cN,seval,r6,r7];refine bP _ _ (decide ((j:Int)<P.all.length)) ?_ (by simp) ⟨?_,?_,?_,?_,hW⟩
   all_goals simp only[cN,seval,r0,r3,r6,r7]
  ·rintro j a' s' hj ⟨r0,r3,r6,r7,va,vc,L,hL,jb,W,hk,bA,hA⟩ aV w1 w2 w3;obtain⟨vb,dW,rfl⟩:=bA.sl.addr (show 0<P.all.length by omega);obtain⟨a,ha⟩:∃ a,a=P.all[j]:=⟨_,rfl⟩;have jH:P.has a=true:=PH.pH.1 (by rw[ha];exact List.getElem_mem _);have nN:i64 a:=PH.DF P bY (PH.pH.2 jH);have lj:aG s'.look ⟨vb,dW+j,none⟩=some (int a):=by rw[ha];exact Ints.get bA.sl (List.getElem?_eq_getElem hj)
   have g1:(0:Int)≤(j:Int):=Int.natCast_nonneg _;have g2:(j:Int)<((P.all.length:Nat):Int):=by omega
   have ks:aC [] s' (s'.skip 26):=aC.skip hk.ok _;have Hk:=H.aJ (hk.trans ks);obtain⟨sr0,sr1,sd0,sd1⟩:=PH.Px G a;have PU:((P.bZ a:Nat):Int)=(P.aM a).r:=by unfold PH.bZ;omega
   have G9:((P.jO a:Nat):Int)=(P.aM a).d:=by unfold PH.jO;omega
   obtain⟨x,hx⟩:∃ x,x=s'.next+22:=⟨_,rfl⟩;refine aA fun jC dK iK=>?_;refine dG [(3,9)] [vb] [] (by kernel_rfl) (by kernel_rfl) (by rfl) fun O hO bC hR=>?_;simp only[cN,seval,r0,r6,r7,g1,g2,and_self,bQ,Int.toNat_natCast,Nat.mul_one,lj];refine dL ?_ (J0 ks.ok Hk a nN fun s3 k3=>?_)
   ·simp only[cN,seval]
   have fZ:fJ (s'.skip 26) s3 vb=true:=CK (mI ks (by simp) lj) ks.ok k3 (by simp);have GJ:s3.heap.get x=none:=by
    refine k3.none ?_ (by rw[hx];show s'.next+22<s'.next+26;omega);rw[hx];exact hk.ok.fresh _ (by omega)
   have nA:aC [] s' s3:=ks.trans k3;have W_:x<s3.next:=by have:=k3.next;have h:(s'.skip 26).next=s'.next+26:=rfl;omega
   obtain⟨T1,E1,K1,C1,N1⟩:∃ T1,s3.put x (fun v=>bW.cells (PT.ofList [int 0,int 0,int 0,int 0,int 0,.slice none 0 0,.slice none 0 0,.bool false]) [] 8 133 false false v)=T1∧aC [] s' T1∧Obj T1 x [int 0,int 0,int 0,int 0,int 0,.slice none 0 0,.slice none 0 0,.bool false]∧T1.next=s3.next :=
    ⟨_,rfl,nA.jT GJ W_ (by omega) (Nat.le_refl _),Obj.kC rfl,rfl⟩
   obtain⟨T2,h2,C2,U2⟩:=C1.storeAll K1.ok (vs:=[int a,int 0,int 0,int 0,int 0,.slice none 0 0,.slice none 0 0,.bool (P.pinned a)]) rfl rfl;have GK:∀ y,s'.next≤y→s'.heap.get y=none:=hk.ok.fresh;have K2:aC [] s' T2:=K1.step U2 fun y hy=>.inr (GK y (by rw[List.mem_singleton.1 hy];omega));simp only[cN,seval,← hx];refine⟨eP fZ fO,?_⟩
   try simp only[cN,seval,E1,h2]
   refine hR _ _ (dK _ _ ?_);have EL:∀ {S:St} {id r d k:Int} {u v:Value} {b:Bool},Obj S x [int a,int id,int r,int d,int k,u,v,.bool b]→aG S.look ⟨x,0,none⟩=some (int a)∧aG S.look ⟨x,2,none⟩=some (int r)∧aG S.look ⟨x,3,none⟩=some (int d)∧aG S.look ⟨x,5,none⟩=some u∧aG S.look ⟨x,6,none⟩=some v:=fun h=>⟨h.load rfl,h.load rfl,h.load rfl,h.load rfl,h.load rfl⟩;have stx:∀ {S S':St},aC [] s' S→aC [x] S S'→aC [] s' S':=fun h k=>h.step k fun y hy=>.inr (GK y (by rw[List.mem_singleton.1 hy];omega));refine aA fun lO eG kY=>?_;simp only[cN,seval,r0,(EL C2).1];refine aH ?_ (jt K2.ok (H.aJ (hk.trans K2)) a nN fun s4 k4=>?_)
   ·simp only[cN,seval]
   rw[if_pos jH];obtain⟨T3,h3,C3,U3⟩:=(C2.aD k4 (by simp)).fK k4.ok (i:=1) (v:=int (P.w a.toNat)) (by simp) rfl;have K3:=stx (K2.trans k4) U3
   try simp only[cN,seval,h3]
   refine eG _ _ ?_;refine aA fun rE jI pS=>?_;have C3:Obj T3 x [int a,int (P.w a.toNat),int 0,int 0,int 0,.slice none 0 0,.slice none 0 0,.bool (P.pinned a)]:=C3;simp only[cN,seval,r0,(EL C3).1];refine aH ?_ (GY K3.ok (H.aJ (hk.trans K3)) a nN fun s5 k5=>?_)
   ·simp only[cN,seval]
   obtain⟨T4,h4,C4,U4⟩:=(C3.aD k5 (by simp)).store k5.ok (i:=2) (vs:=[int (P.aM a).r,int (P.aM a).d,int (P.aM a).k]) (by simp) rfl;have K4:=stx (K3.trans k5) U4;have C4:Obj T4 x [int a,int (P.w a.toNat),int (P.aM a).r,int (P.aM a).d,int (P.aM a).k,.slice none 0 0,.slice none 0 0,.bool (P.pinned a)]:=C4
   try simp only[cN,seval,h4]
   refine jI _ _ ?_;refine aA fun sF iY rQ=>?_;refine aA fun wV lU vU=>?_;simp only[cN,seval];refine lU _ _ ?_;refine cJ fun DB tN QA tO=>?_;refine gB (n:=P.bZ a) (fun k a' s''=>∃ ra rc,a'.aB 0=ptr h∧a'.aB 3=ptr g∧a'.aB 6=.slice (some ⟨vb,dW,none⟩) P.all.length ac∧a'.aB 7=int j∧a'.aB 8=ptr x∧a'.aB 9=int k∧Obj s'' x [int a,int (P.w a.toNat),int (P.aM a).r,int (P.aM a).d,int (P.aM a).k,.slice ra k rc,.slice none 0 0,.bool (P.pinned a)]∧bJ s'' 3 1 (.slice ra k rc) (((P.refs a).take k).map int)∧(∀ y∈nameOf (.slice ra k rc),y≠x∧s'.next≤y)∧aC [] s' s'')
    (fun k a' s''=>∃ ra rc,a'.aB 0=ptr h∧a'.aB 3=ptr g∧a'.aB 6=.slice (some ⟨vb,dW,none⟩) P.all.length ac∧a'.aB 7=int j∧a'.aB 8=ptr x∧a'.aB 9=int k∧Obj s'' x [int a,int (P.w a.toNat),int (P.aM a).r,int (P.aM a).d,int (P.aM a).k,.slice ra (k+1) rc,.slice none 0 0,.bool (P.pinned a)]∧bJ s'' 3 1 (.slice ra (k+1) rc) (((P.refs a).take (k+1)).map int)∧(∀ y∈nameOf (.slice ra (k+1) rc),y≠x∧s'.next≤y)∧aC [] s' s'') ?_ ?_ ?_ ?_ (Nat.zero_le _) ?_
   ·rintro k a' s'' zW ⟨ra,rc,r0,r3,r6,r7,r8,r9,c8,bR,hR',gZ⟩ aV bP;simp only[cN,seval,r8,r9,(EL c8).2.1,← PU];refine bP _ _ (decide ((k:Int)<((P.bZ a:Nat):Int))) ?_ (by simp) ⟨ra,rc,?_,?_,?_,?_,?_,?_,?_,bR,hR',gZ⟩
    all_goals try simp only[cN,seval,r0,r3,r6,r7,r8,r9]
    exact c8
   ·rintro k a' s'' zW ⟨ra,rc,r0,r3,r6,r7,r8,r9,c8,bR,hR',gZ⟩ aV w1 w2 w3;refine aA fun NS uO xN=>?_;simp only[cN,seval,r0,r8,r9,(EL c8).1];refine aH ?_ (PF gZ.ok (H.aJ (hk.trans gZ)) G a k nN fun s6 k6=>?_)
    ·simp only[cN,seval]
    try simp only[cN,seval]
    refine uO _ _ ?_;have c6:=c8.aD k6 (by simp);refine aA fun DC pE ED=>?_;simp only[cN,seval,r8,(EL c6).2.2.2.1];refine pE _ _ ?_;obtain⟨t1,f1,u1,d1,v1⟩:=cI k6.ok (L:=[int (P.ref a k)]) (n:=1) (e:=3) rfl;obtain⟨w,t2,q2,b2,u2,m2,a2,c2,rfl⟩:=iE (X:=X) (t:=62) (e:=3) (N:=1) (B:=8) (z:=.int .i64 0) (x:=.slice (some ⟨s6.next,0,none⟩) 1 1) (k:=1) (new:=[int (P.ref a k)]) (by kernel_rfl) (by kernel_rfl) rfl u1.ok (by omega) ((bR.aD k6 (by simp)).aD u1 (by simp)) rfl (lQ (by omega) (d1.bI (i:=0) (k:=1) (Nat.le_refl _))) rfl rfl (by omega) (by omega);have xn:x∉nameOf (.slice ra k rc):=fun hh=>(hR' x hh).1 rfl;obtain⟨t3,q3,d3,u3⟩:=((c6.aD u1 (by simp)).aD u2 xn).fK u2.ok (i:=5) (v:=.slice a2 (k+1) c2) (by simp) rfl;have X0:=c8.lt gZ.ok;have n86:=k6.next;have n61:=u1.next;have n08:=gZ.next;have hn2:∀ y∈nameOf (.slice a2 (k+1) c2),y≠x∧s'.next≤y:=fun y hy=>by
     rcases m2 y hy with e | e
     ·exact hR' y e
     ·exact⟨by omega,by omega⟩
    have K6:aC [] s' t2:=((gZ.trans k6).trans u1).step u2 fun y hy=>.inr (GK y (hR' y hy).2);simp only[cN,seval];rw[f1];refine iS ?_ q2 ?_
    ·simp only[cN,seval]
    simp only[cN,seval,r8,q3];refine w1 _ _ ⟨a2,c2,?_,?_,?_,?_,?_,?_,d3,?_,hn2,stx K6 u3⟩
    ·simp only[cN,seval,r0]
    ·simp only[cN,seval,r3]
    ·simp only[cN,seval,r6]
    ·simp only[cN,seval,r7]
    ·simp only[cN,seval,r8]
    ·simp only[cN,seval,r9]
    ·rw[PH.aEx zW,List.map_append];exact b2.aD u3 fun y hy hy'=>(hn2 y hy).1 (List.mem_singleton.1 hy')
   ·rintro k a' s'' zW ⟨ra,rc,r0,r3,r6,r7,r8,r9,c8,bR,hR',gZ⟩ aV w1;have w:IntKind.i64.wrap ((k:Int)+1)=((k+1:Nat):Int):=by rw[aU (by omega) (by omega)];rfl
    simp only[cN,seval,r9,w];refine w1 _ _ ⟨ra,rc,?_,?_,?_,?_,?_,?_,c8,bR,hR',gZ⟩
    all_goals try simp only[cN,seval,r0,r3,r6,r7,r8]
   ·rintro a' s'' ⟨ra,rc,r0,r3,r6,r7,r8,r9,c8,bR,hR',gZ⟩;refine QA _ _ (iY _ _ ?_);rw[List.take_of_length_le (by rw[PH.aEw];exact Nat.le_refl _)] at bR;obtain⟨s7,uV,uW,C7,B7,N7,K7,e7⟩:∃ s7 uV uW,Obj s7 x [int a,int (P.w a.toNat),int (P.aM a).r,int (P.aM a).d,int (P.aM a).k,.slice uV (P.bZ a) uW,.slice none 0 0,.bool (P.pinned a)]∧bJ s7 3 1 (.slice uV (P.bZ a) uW) ((P.refs a).map int)∧(∀ y∈nameOf (.slice uV (P.bZ a) uW),y≠x∧s'.next≤y)∧aC [] s' s7∧s7=s'':=⟨s'',ra,rc,c8,bR,hR',gZ,rfl⟩;clear c8 bR hR' gZ;subst e7;refine aA fun ck BP XD=>?_;refine aA fun cn AA LQ=>?_;simp only[cN,seval];refine AA _ _ ?_;refine cJ fun ct xO X6 XE=>?_;refine gB (n:=P.jO a) (fun k a' s''=>∃ ra rc,a'.aB 0=ptr h∧a'.aB 3=ptr g∧a'.aB 6=.slice (some ⟨vb,dW,none⟩) P.all.length ac∧a'.aB 7=int j∧a'.aB 8=ptr x∧a'.aB 13=int k∧Obj s'' x [int a,int (P.w a.toNat),int (P.aM a).r,int (P.aM a).d,int (P.aM a).k,.slice uV (P.bZ a) uW,.slice ra k rc,.bool (P.pinned a)]∧bJ s'' 3 1 (.slice ra k rc) (((P.DI a).take k).map int)∧(∀ y∈nameOf (.slice ra k rc),y≠x∧s7.next≤y)∧aC [x] s7 s'')
     (fun k a' s''=>∃ ra rc,a'.aB 0=ptr h∧a'.aB 3=ptr g∧a'.aB 6=.slice (some ⟨vb,dW,none⟩) P.all.length ac∧a'.aB 7=int j∧a'.aB 8=ptr x∧a'.aB 13=int k∧Obj s'' x [int a,int (P.w a.toNat),int (P.aM a).r,int (P.aM a).d,int (P.aM a).k,.slice uV (P.bZ a) uW,.slice ra (k+1) rc,.bool (P.pinned a)]∧bJ s'' 3 1 (.slice ra (k+1) rc) (((P.DI a).take (k+1)).map int)∧(∀ y∈nameOf (.slice ra (k+1) rc),y≠x∧s7.next≤y)∧aC [x] s7 s'') ?_ ?_ ?_ ?_ (Nat.zero_le _) ?_
    ·rintro k a' s'' zW ⟨ra,rc,r0,r3,r6,r7,r8,fX,c8,bR,hR',gZ⟩ aV bP;simp only[cN,seval,r8,fX,(EL c8).2.2.1,← G9];refine bP _ _ (decide ((k:Int)<((P.jO a:Nat):Int))) ?_ (by simp) ⟨ra,rc,?_,?_,?_,?_,?_,?_,?_,bR,hR',gZ⟩
     all_goals try simp only[cN,seval,r0,r3,r6,r7,r8,fX]
     exact c8
    ·rintro k a' s'' zW ⟨ra,rc,r0,r3,r6,r7,r8,fX,c8,bR,hR',gZ⟩ aV w1 w2 w3;have HD:aC [] s' s'':=stx K7 gZ;refine aA fun Uk HO Gi=>?_;simp only[cN,seval,r0,r8,fX,(EL c8).1];refine aH ?_ (I9 HD.ok (H.aJ (hk.trans HD)) G a k nN fun s6 k6=>?_)
     ·simp only[cN,seval]
     try simp only[cN,seval]
     refine HO _ _ ?_;have c6:=c8.aD k6 (by simp);refine aA fun cu BQ XF=>?_;simp only[cN,seval,r8,(EL c6).2.2.2.2];refine BQ _ _ ?_;obtain⟨t1,f1,u1,d1,v1⟩:=cI k6.ok (L:=[int (P.jN a k)]) (n:=1) (e:=3) rfl;obtain⟨w,t2,q2,b2,u2,m2,a2,c2,rfl⟩:=iE (X:=X) (t:=62) (e:=3) (N:=1) (B:=8) (z:=.int .i64 0) (x:=.slice (some ⟨s6.next,0,none⟩) 1 1) (k:=1) (new:=[int (P.jN a k)]) (by kernel_rfl) (by kernel_rfl) rfl u1.ok (by omega) ((bR.aD k6 (by simp)).aD u1 (by simp)) rfl (lQ (by omega) (d1.bI (i:=0) (k:=1) (Nat.le_refl _))) rfl rfl (by omega) (by omega);have xn:x∉nameOf (.slice ra k rc):=fun hh=>(hR' x hh).1 rfl;obtain⟨t3,q3,d3,u3⟩:=((c6.aD u1 (by simp)).aD u2 xn).fK u2.ok (i:=6) (v:=.slice a2 (k+1) c2) (by simp) rfl;have X0:=c8.lt gZ.ok;have n86:=k6.next;have n61:=u1.next;have n08:=gZ.next;have hx7:=C7.lt K7.ok;have hn2:∀ y∈nameOf (.slice a2 (k+1) c2),y≠x∧s7.next≤y:=fun y hy=>by
      rcases m2 y hy with e | e
      ·exact hR' y e
      ·exact⟨by omega,by omega⟩
     have K6:aC [x] s7 t2:=((gZ.trans k6.any).trans u1.any).step u2 fun y hy=>.inr (K7.ok.fresh y (hR' y hy).2);simp only[cN,seval];rw[f1];refine iS ?_ q2 ?_
     ·simp only[cN,seval]
     simp only[cN,seval,r8,q3];refine w1 _ _ ⟨a2,c2,?_,?_,?_,?_,?_,?_,d3,?_,hn2,K6.trans u3⟩
     ·simp only[cN,seval,r0]
     ·simp only[cN,seval,r3]
     ·simp only[cN,seval,r6]
     ·simp only[cN,seval,r7]
     ·simp only[cN,seval,r8]
     ·simp only[cN,seval,fX]
     ·rw[PH.Yo zW,List.map_append];exact b2.aD u3 fun y hy hy'=>(hn2 y hy).1 (List.mem_singleton.1 hy')
    ·rintro k a' s'' zW ⟨ra,rc,r0,r3,r6,r7,r8,fX,c8,bR,hR',gZ⟩ aV w1;have w:IntKind.i64.wrap ((k:Int)+1)=((k+1:Nat):Int):=by rw[aU (by omega) (by omega)];rfl
     simp only[cN,seval,fX,w];refine w1 _ _ ⟨ra,rc,?_,?_,?_,?_,?_,?_,c8,bR,hR',gZ⟩
     all_goals try simp only[cN,seval,r0,r3,r6,r7,r8]
    ·rintro a' s'' ⟨ra,rc,r0,r3,r6,r7,r8,fX,c8,bR,hR',gZ⟩;refine X6 _ _ (BP _ _ ?_);have HD:aC [] s' s'':=stx K7 gZ;have bV:bJ s'' 3 1 (.slice uV (P.bZ a) uW) ((P.refs a).map int):=B7.aD gZ fun y hy hy'=>(N7 y hy).1 (List.mem_singleton.1 hy');have W8:=W.aJ HD;have A8:=bA.aD HD (by simp);have l1:aG s''.look ⟨g,1,none⟩=some (.slice va L.length vc):=W8.c.load rfl;refine aA fun aHn nf X9=>?_;simp only[cN,seval,r3,l1];refine nf _ _ ?_;have l8:=c8.bI (i:=0) (k:=8) (Nat.le_refl _);have ln:L.length=j:=hL;obtain⟨t1,f1,u1,d1,v1⟩:=cI gZ.ok (L:=[int a,int (P.w a.toNat),int (P.aM a).r,int (P.aM a).d,int (P.aM a).k,.slice uV (P.bZ a) uW,.slice ra (P.jO a) rc,.bool (P.pinned a)]) (n:=8) (e:=133) rfl;obtain⟨w,t2,q2,b2,u2,m2,a2,c2,rfl⟩:=iE (X:=X) (t:=128) (x:=.slice (some ⟨s''.next,0,none⟩) 1 1) (k:=1) (new:=[int a,int (P.w a.toNat),int (P.aM a).r,int (P.aM a).d,int (P.aM a).k,.slice uV (P.bZ a) uW,.slice ra (P.jO a) rc,.bool (P.pinned a)]) GC eu rfl u1.ok (by omega) (W8.v.aD u1 (by simp)) rfl (lQ (by omega) (d1.bI (i:=0) (k:=8) (Nat.le_refl _))) rfl rfl (by omega) (by omega);have gn:g∉nameOf (.slice va L.length vc):=fun hh=>(W.gv g hh).1 rfl;obtain⟨t3,q3,d3,u3⟩:=((W8.c.aD u1 (by simp)).aD u2 gn).fK u2.ok (i:=1) (v:=.slice a2 (L.length+1) c2) (by simp) rfl;simp only[cN,seval,r3,r8,l8,List.drop_zero,List.take];rw[f1];refine iS ?_ q2 ?_
     ·simp only[cN,seval]
     simp only[cN,seval,q3];obtain⟨y0,PZ⟩:∃ y0:uG,y0=(a,Value.slice uV (P.bZ a) uW,Value.slice ra (P.jO a) rc):=⟨_,rfl⟩;have eN:(L++[y0]).length=L.length+1:=by rw[List.length_append];rfl
     have L9:g<s'.next:=W.c.lt hk.ok;have n1':s'.next≤s''.next:=HD.next;have Jx:s''.next≤t1.next:=u1.next;have n3':t1.next≤t3.next:=Nat.le_trans u2.next u3.next;have Tj:∀ y∈nameOf (.slice va L.length vc),y<s'.next:=W.v.lt hk.ok;have blt:∀ y∈nameOf (.slice ba P.N bc),y<s'.next:=W.b.lt hk.ok;have rlt:∀ y∈nameOf (.slice uV (P.bZ a) uW),y<s''.next:=bV.lt gZ.ok;rw[List.take_of_length_le (by rw[PH.Yn];exact Nat.le_refl _)] at bR;have Yr:∀ y∈nameOf (.slice ra (P.jO a) rc),y<s''.next:=bR.lt gZ.ok;have n70:=K7.next;have hn2:∀ y,y<t1.next→y∉nameOf (.slice va L.length vc)→y∉nameOf (.slice a2 (L.length+1) c2):=fun y h1 h2 h3=>(m2 y h3).elim h2 fun h=>by omega
     have kp:∀ {z:uG},yV s'' P z→(∀ y,y∈nameOf z.2.1∨y∈nameOf z.2.2→y≠g∧y∉nameOf (.slice va L.length vc))→yV t3 P z:=fun hz hy=>((hz.aJ u1).aD u2 fun y h=>(hy y h).2).aD u3 fun y h h'=>(hy y h).1 (List.mem_singleton.1 h');have kA:aC [] s t3:=(((hk.trans HD).trans u1).step u2 fun y hy=>.inr (hs.fresh y (by have:=(W.gv y hy).2.1;omega))).step u3 fun y hy=>.inr (by rw[List.mem_singleton.1 hy,hg];exact hs.fresh _ (Nat.le_refl _));have qI:g∉nameOf (.slice a2 (L.length+1) c2):=hn2 g (by omega) gn;refine w1 _ _ ⟨?_,?_,?_,?_,a2,c2,L++[y0],by rw[eN,hL],?_,⟨by rw[eN];exact d3,?_,?_,fun y hy=>?_,W.gb,fun z hz=>?_⟩,kA,?_,fun y hy=>?_⟩
     ·simp only[cN,seval,r0]
     ·simp only[cN,seval,r3]
     ·simp only[cN,seval,r6]
     ·simp only[cN,seval,r7]
     ·rw[List.map_append,jb,List.take_add_one,List.getElem?_eq_getElem hj,← ha,PZ];rfl
     ·exact((W8.b.aD u1 (by simp)).aD u2 fun y h1 h2=>(W.gv y h2).2.2 h1).aD u3 fun y h1 h2=>W.gb y h1 (List.mem_singleton.1 h2)
     ·rw[eN,List.flatMap_append];refine bJ.aD (s:=t2) ?_ u3 fun y h1 h2=>qI (by rw[← List.mem_singleton.1 h2];exact h1);have:[y0].flatMap P.MR=[int a,int (P.w a.toNat),int (P.aM a).r,int (P.aM a).d,int (P.aM a).k,.slice uV (P.bZ a) uW,.slice ra (P.jO a) rc,.bool (P.pinned a)]:=by rw[PZ];rfl
      rw[this];exact b2
     ·rw[eN] at hy;rcases m2 y hy with h | h
      ·exact W.gv y h
      ·exact⟨by omega,by omega,fun h'=>by have:=blt y h';omega⟩
     ·rw[eN];rcases List.mem_append.1 hz with h | h
      ·obtain⟨h1,h2⟩:=W8.cr z h;have h2':=(W.cr z h).2;exact⟨kp h1 fun y hy=>⟨(h2 y hy).1,(h2 y hy).2.1⟩,fun y hy=>⟨(h2 y hy).1,hn2 y (by have:=(h2' y hy).2.2;omega) (h2 y hy).2.1,by have:=(h2' y hy).2.2;omega⟩⟩
      ·rw[List.mem_singleton.1 h,PZ];have sep:∀ y,y∈nameOf (.slice uV (P.bZ a) uW)∨y∈nameOf (.slice ra (P.jO a) rc)→s'.next≤y∧y<s''.next:=fun y hy=>by
        rcases hy with hy | hy
        ·exact⟨(N7 y hy).2,rlt y hy⟩
        ·have:=(hR' y hy).2;exact⟨by omega,Yr y hy⟩
       refine⟨kp ⟨⟨_,_,rfl⟩,bV.sl,⟨_,_,rfl⟩,bR.sl⟩ fun y hy=>?_,fun y hy=>?_⟩
       ·obtain⟨q1,q2⟩:=sep y hy;exact⟨by omega,fun h'=>by have:=Tj y h';omega⟩
       ·obtain⟨q1,q2⟩:=sep y hy;exact⟨by omega,hn2 y (by omega) fun h'=>by have:=Tj y h';omega,by omega⟩
     ·exact((A8.aD u1 (by simp)).aD u2 fun y h1 h2=>(hA y h1).2.1 h2).aD u3 fun y h1 h2=>(hA y h1).1 (List.mem_singleton.1 h2)
     ·rw[eN];obtain⟨q1,q2,q3⟩:=hA y hy;exact⟨q1,hn2 y (by omega) q2,by omega⟩
    ·refine⟨none,0,?_,?_,?_,?_,?_,?_,C7,.nil,(by simp[nameOf]),.refl K7.ok⟩
     all_goals try simp only[cN,seval,r0,r3,r6,r7,r8]
     all_goals rfl
   ·refine⟨none,0,?_,?_,?_,?_,?_,?_,C4,.nil,(by simp[nameOf]),K4⟩
    all_goals try simp only[cN,seval,r0,r3,r6,r7]
    all_goals rfl
  ·rintro j a' s' hj ⟨r0,r3,r6,r7,hW⟩ aV w1;have w:IntKind.i64.wrap ((j:Int)+1)=((j+1:Nat):Int):=by rw[aU (by omega) (by omega)];rfl
   simp only[cN,seval,r7,w];refine w1 _ _ ⟨?_,?_,?_,?_,hW⟩
   all_goals try simp only[cN,seval,r0,r3,r6]
  ·rintro a' s' ⟨r0,r3,r6,r7,va,vc,L,hL,jb,W,hk,bA,hA⟩;refine tQ _ _ (bO _ _ ?_);simp only[cN,seval,r3];refine hΦ g L s' ⟨⟨ba,bc,va,vc,W.c,W.b.sl,W.v.sl⟩,by rw[jb,List.take_length],fun x hx=>(W.cr x hx).1,n2,bY⟩ hk (by omega)
  ·refine⟨?_,?_,?_,?_,Wi⟩
   all_goals try simp only[cN,seval,r0,r3]
   all_goals rfl
 ·refine⟨none,0,?_,?_,?_,c1,.nil,(by simp[nameOf]),k1⟩
  all_goals try simp only[cN,seval]
  all_goals rfl
end
open Go.Proofs
set_option maxRecDepth 100000
set_option maxHeartbeats 2000000
theorem eg:∀ (L:List cS) (a:Int),below L a≤L.length
 | [],_=>Nat.le_refl _
 | x::L,a=>by
  unfold below;rw[List.takeWhile_cons];split
  ·rw[List.length_cons,List.length_cons];have:=eg L a;unfold below at this;omega
  ·exact Nat.zero_le _
theorem Wd {L:List cS} {a:Int} {j:Nat} (h:j<below L a) (hj:j<L.length):L[j].a<a:=by
 refine gX.eh (L:=L) (a:=a) _ ?_;rw[List.mem_take_iff_getElem];exact⟨j,by omega,rfl⟩
theorem yd:∀ {L:List cS} {a:Int} (h:below L a<L.length),¬ L[below L a].a<a
 | [],_,h=>absurd h (Nat.not_lt_zero _)
 | x::L,a,h=>by
  have e:below (x::L) a=if decide (x.a<a)=true then below L a+1 else 0:=by
   unfold below;rw[List.takeWhile_cons];split <;> rfl
  by_cases hx:x.a<a
  ·rw[if_pos (decide_eq_true hx)] at e;simp only[e] at h ⊢;exact yd (L:=L) (by simpa using h)
  ·rw[if_neg (by simpa using hx)] at e;simp only[e];exact hx
theorem rq (L:List cS) (o:cS):(tV L o).length=L.length+1:=by
 unfold tV;rw[List.length_append,List.length_append,List.length_take,List.length_drop];have:=eg L o.a;simp only[List.length_cons,List.length_nil];omega
section
variable {kc:Kc} {q:Bool} {s:St} {Φ:Value→St→Prop} {g:Nat} {G:dI} {P:PH}
theorem lX:type_of% (B9 @RX @kX @lA @wC @nS @vM @bG @AJ (B2 @KA @FD)):=B9 @RX @kX @lA @wC @nS @vM @bG @AJ (B2 @KA @FD)
theorem aEv (hs:Ok s) (H:cM s g G) (o:cS) (hr:Obj s o.rn (o.rs.map int)) (hd:Obj s o.dn (o.ds.map int)) (hn1:o.rn∉G.aS g) (hn2:o.dn∉G.aS g) (EB:o.rn≠o.dn) (hlen:G.L.length<2048)
  (hΦ:∀ va vc s',cM s' g {G with va:=va,vc:=vc,L:=tV G.L o}→aC [g] s s'→(∀ b∈nameOf (.slice va (tV G.L o).length vc),s.next≤b)→Φ (.tuple #[]) s') :
  okF q X (KO kc) 217 [ptr g,.agg #[int o.a,int o.id,int o.sh.r,int o.sh.d,int o.sh.k,.slice (some ⟨o.rn,0,none⟩) o.rs.length o.rs.length,.slice (some ⟨o.dn,0,none⟩) o.ds.length o.ds.length,.bool o.fD]] s Φ:=by
 have hg:g<s.next:=H.c.lt hs;have hbl:=eg G.L o.a;have LL:=hr.lt hs;have hdl:=hd.lt hs;refine aW Tryz.func217 (by kernel_rfl) rfl rfl (rs:=[]) rfl (N:=51) rfl rfl ?_;refine aA fun bF aF bD=>?_;simp only[lX,seval];obtain⟨s1,e1,k1,c1,n1⟩:=cI hs (L:=o.C) (n:=8) (e:=133) rfl;unfold cS.C at e1;rw[e1];refine aF _ _ ?_;have H1:=H.aJ k1;have la:aG s1.look ⟨s.next,0,none⟩=some (int o.a):=c1.load rfl;refine aA fun Ψ1 aE aL=>?_;simp only[lX,seval];refine aE _ _ ?_;refine aA fun Ψ2 aI bH=>?_;refine cJ fun Ψ3 aN pF bM=>?_;refine ZE (n:=below G.L o.a) (fun j a' s'=>a'.aB 0=ptr g∧a'.aB 3=ptr s.next∧a'.aB 4=int j∧aC [] s1 s') ?_ ?_ ?_ (Nat.zero_le _) ?_
 ·rintro j a' s' hj ⟨r0,r3,r4,hk⟩ aV bP;have H':=H1.aJ hk;have la':=mI hk (by simp) la;refine dG [] [] [(7,13)] (by kernel_rfl) (by kernel_rfl) (by rfl) fun O hO bC hR=>?_;have y7:∀ a,aO O a 7=aY (a.aB 13):=hO (7,13) (by simp);by_cases iX:j<G.L.length
  ·obtain⟨vb,dW,hv⟩:=H'.addr (show 0<G.L.length by omega);have g1:(0:Int)≤(j:Int):=Int.natCast_nonneg _;have g2:(j:Int)<((G.L.length:Nat):Int):=by omega
   have l1:=H'.l1;rw[hv] at l1;have lj:aG s'.look ⟨vb,dW+j*8,none⟩=some (int G.L[j].a):=H'.lo hv iX (j:=0) rfl;simp only[lX,seval,y7,r0,r3,r4,l1,g1,g2,and_self,bQ,Int.toNat_natCast,lj,la',decide_true];refine hR _ _ (bP _ _ (decide (G.L[j].a<o.a)) ?_ ?_ ⟨?_,?_,?_,hk.kI _⟩)
   ·simp only[lX,seval]
   ·rw[decide_eq_true_eq];constructor
    ·intro h;rcases Nat.lt_or_ge j (below G.L o.a) with h' | h'
     ·exact h'
     ·obtain rfl:j=below G.L o.a:=by omega
      exact absurd h (yd iX)
    ·intro h;exact Wd h iX
   ·simp only[lX,seval,r0]
   ·simp only[lX,seval,r3]
   ·simp only[lX,seval,r4]
  ·have g2:¬ (j:Int)<((G.L.length:Nat):Int):=by omega
   have l1:=H'.l1;simp only[lX,seval,y7,r0,r4,l1,g2,decide_false];refine hR _ _ (bP _ _ false ?_ ?_ ⟨?_,?_,?_,hk.kI _⟩)
   ·simp only[lX,seval]
   ·constructor
    ·intro h;cases h
    ·intro h;omega
   ·simp only[lX,seval,r0]
   ·simp only[lX,seval,r3]
   ·simp only[lX,seval,r4]
 ·rintro j a' s' hj ⟨r0,r3,r4,hk⟩ aV w1 w2 w3;have w:IntKind.i64.wrap ((j:Int)+1)=((j+1:Nat):Int):=by rw[aU (by omega) (by omega)];rfl
  simp only[lX,seval,r4,w];refine w1 _ _ ⟨?_,?_,?_,hk⟩
  all_goals try simp only[lX,seval,r0,r3]
 ·rintro a' s2 ⟨r0,r3,r4,hk⟩;refine pF _ _ (aI _ _ ?_);have H2:=H1.aJ hk;have dD:=k1.trans hk;have c2:=c1.aD hk (by simp);refine aA fun Ψ4 aP cC=>?_;simp only[lX,seval];refine aP _ _ ?_;refine aA fun cU aZ cK=>?_;obtain⟨w1,um,x1,f1⟩:=bf (Y:=X) (t:=128) (lo:=none) (hi:=some (int (below G.L o.a))) (l:=0) (h:=below G.L o.a) GC bo (by omega) H2.cl (by omega) (by omega) (.inl ⟨rfl,rfl⟩) (.inr rfl);rw[Nat.zero_mul,List.drop_zero,ig cS.qB] at f1;rw[Nat.sub_zero] at x1 f1;obtain⟨a3,c3,s3,e3,b3,k3,m3⟩:=OC (n:=0) (c:=0) (a:=none) hk.ok .nil (x:=.slice w1 (below G.L o.a) um) rfl f1 (by rw[List.length_take];omega) (by omega);rw[Nat.zero_add,List.nil_append] at *;have k3:aC [] s2 s3:=k3;have m3:∀ b∈nameOf (.slice a3 (below G.L o.a) c3),s.next≤b:=fun b hb=>(m3 b hb).elim (fun h=>by cases h) (fun h=>by have:=dD.next;omega);simp only[lX,seval,r0,r4,H2.l1,x1];refine iS ?_ e3 ?_
  ·simp only[lX,seval]
  simp only[lX,seval];refine aZ _ _ ?_;have H3:=H2.aJ k3;have fC:=dD.trans k3;have sK:=c2.aD k3 (by simp);refine aA fun dN bO cZ=>?_;have lC:bI s3.look ⟨s.next,0,none⟩ 8=some o.C:=sK.bI (i:=0) (k:=8) (Nat.le_refl _);unfold cS.C at lC;obtain⟨s4,e4,k4,c4,n4⟩:=cI fC.ok (L:=o.C) (n:=8) (e:=133) rfl;have b4:=b3.aD k4 (by simp);have f4:kP s4.look 8 1 (.slice (some ⟨s3.next,0,none⟩) 1 1)=some ([o].flatMap cS.C):=lQ (by omega) (c4.bI (i:=0) (k:=8) (Nat.le_refl _));obtain⟨a5,c5,s5,e5,b5,k5,m5⟩:=OC k4.ok b4 (x:=.slice (some ⟨s3.next,0,none⟩) 1 1) rfl f4 rfl (by omega);unfold cS.C at e4;simp only[lX,seval,r3,lC];rw[e4];refine iS ?_ e5 ?_
  ·simp only[lX,seval]
  simp only[lX,seval];refine bO _ _ ?_;have kK:=fC.trans k4;have jR:aC [] s s5:=kK.step k5 fun y hy=>.inr (hs.fresh y (m3 y hy));have m5:∀ b∈nameOf (.slice a5 (below G.L o.a+1) c5),s.next≤b:=fun b hb=>by
   rcases m5 b hb with h | h
   ·exact m3 b h
   ·have:=kK.next;omega
  have H5:=H.aJ jR;obtain⟨w6,wc6,x6,f6⟩:=bf (Y:=X) (t:=128) (lo:=some (int (below G.L o.a))) (hi:=none) (l:=below G.L o.a) (h:=G.L.length) GC bo (by omega) H5.cl hbl (by omega) (.inr rfl) (.inl ⟨rfl,rfl⟩);rw[ib cS.qB,List.take_of_length_le (by rw[vO cS.qB,List.length_drop];omega)] at f6;obtain⟨a6,c6,s6,e6,b6,k6,m6⟩:=OC jR.ok b5 (x:=.slice w6 (G.L.length-below G.L o.a) wc6) rfl f6 (by rw[List.length_drop]) (by omega);simp only[lX,seval,r0,r4,H5.l1,x6];refine iS ?_ e6 ?_
  ·simp only[lX,seval]
  have jy:g∉nameOf (.slice a5 (below G.L o.a+1) c5):=fun h=>by have:=m5 _ h;omega
  obtain⟨s7,e7,o7,k7⟩:=((H5.c).aD k6 jy).fK k6.ok (i:=1) (v:=.slice a6 (below G.L o.a+1+(G.L.length-below G.L o.a)) c6) (by simp) rfl;simp only[lX,seval,e7];have m6:∀ b∈nameOf (.slice a6 (below G.L o.a+1+(G.L.length-below G.L o.a)) c6),s.next≤b:=fun b hb=>by
   rcases m6 b hb with h | h
   ·exact m5 b h
   ·have:=jR.next;omega
  have eN:(tV G.L o).length=below G.L o.a+1+(G.L.length-below G.L o.a):=by rw[rq];omega
  have tS:aC [] s s6:=jR.step k6 fun y hy=>.inr (hs.fresh y (m5 y hy));have tT:aC [g] s s7:=tS.any.trans k7;have vT:=H.nd;have pC:=H.eM hs;have og:g∈G.aS g:=List.mem_append_left _ (List.mem_cons_self ..);refine hΦ a6 c6 s7 (H.Kn tT (fun x _ hne hm=>hne (List.mem_singleton.1 hm)) ?_ ?_ (fun x hx=>?_) ?_ ?_ (by rw[rq];omega)) tT (by rw[eN];exact m6)
  ·rw[eN];exact o7
  ·rw[eN];have e:(tV G.L o).flatMap cS.C=(G.L.take (below G.L o.a)).flatMap cS.C++[o].flatMap cS.C++(G.L.drop (below G.L o.a)).flatMap cS.C:=by unfold tV;rw[List.flatMap_append,List.flatMap_append]
   rw[e];refine b6.aD k7 fun b hb GW=>?_;have:=m6 b hb;rw[List.mem_singleton.1 GW] at this;omega
  ·rcases gX.IL.1 hx with h | h
   ·have hne:x.rn≠g∧x.dn≠g:=by
     unfold dI.own at vT;rw[List.nodup_cons] at vT;exact⟨fun e=>vT.1 (by rw[← e];exact List.mem_cons_of_mem _ (List.mem_flatMap.2 ⟨x,h,by simp⟩)),fun e=>vT.1 (by rw[← e];exact List.mem_cons_of_mem _ (List.mem_flatMap.2 ⟨x,h,by simp⟩))⟩
    exact⟨(H.cr x h).1.aD tT (by simpa using hne.1),(H.cr x h).2.aD tT (by simpa using hne.2)⟩
   ·rw[h];exact⟨hr.aD tT (by simp;intro e;exact hn1 (by rw[e];exact og)),hd.aD tT (by simp;intro e;exact hn2 (by rw[e];exact og))⟩
  ·have h1:o.rn∉G.own g:=fun h=>hn1 (List.mem_append_left _ h);have h2:o.dn∉G.own g:=fun h=>hn2 (List.mem_append_left _ h);have hp:(({G with L:=tV G.L o}:dI).own g).Perm (o.rn::o.dn::G.own g):=by
    unfold dI.own tV;simp only[List.flatMap_append,List.flatMap_cons,List.flatMap_nil,List.append_nil];have e0:(G.L.flatMap fun o=>[o.rn,o.dn])=((G.L.take (below G.L o.a)).flatMap fun o=>[o.rn,o.dn])++((G.L.drop (below G.L o.a)).flatMap fun o=>[o.rn,o.dn]):=by rw[← List.flatMap_append,List.take_append_drop]
    rw[e0];generalize ((G.L.take (below G.L o.a)).flatMap fun o=>[o.rn,o.dn])=A;generalize ((G.L.drop (below G.L o.a)).flatMap fun o=>[o.rn,o.dn])=B;have p1:(g::G.bn::(A++[o.rn,o.dn]++B))=(g::G.bn::A)++([o.rn,o.dn]++B):=by simp
    have p2:o.rn::o.dn::g::G.bn::(A++B)=[o.rn,o.dn]++((g::G.bn::A)++B):=by simp
    rw[p1,p2,← List.append_assoc,← List.append_assoc];exact List.Perm.append_right B List.perm_append_comm
   rw[hp.nodup_iff,List.nodup_cons,List.nodup_cons];exact⟨by simp only[List.mem_cons,not_or];exact⟨EB,h1⟩,h2,vT⟩
  ·rw[eN];intro b hb hm;have h1:=m6 b hb;have h2:b<s.next:=by
    unfold dI.own at hm;rcases List.mem_cons.1 hm with h | h
    ·omega
    ·rcases List.mem_cons.1 h with h | h
     ·rw[h];exact pC _ (List.mem_append_left _ (List.mem_cons_of_mem _ (List.mem_cons_self ..)))
     ·obtain⟨x,hx,LC⟩:=List.mem_flatMap.1 h;rcases gX.IL.1 hx with h' | h'
      ·exact pC _ (List.mem_append_left _ (List.mem_cons_of_mem _ (List.mem_cons_of_mem _ (List.mem_flatMap.2 ⟨x,h',LC⟩))))
      ·subst h';simp only[List.mem_cons,List.not_mem_nil,or_false] at LC;rcases LC with rfl | rfl <;> assumption
   omega
 ·refine⟨?_,?_,?_,.refl k1.ok⟩
  all_goals try simp only[lX,seval]
  try rfl
end
end Go.Dust
