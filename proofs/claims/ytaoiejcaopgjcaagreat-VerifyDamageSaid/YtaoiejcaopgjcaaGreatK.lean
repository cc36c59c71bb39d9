/- VerifyDamage walked in D, function by function, and its plain law (N2 N3 N4 S2 S3 S4). -/
import Derived.Test.YtaoiejcaopgjcaaGreatJ
set_option linter.unusedVariables false
set_option linter.unusedSimpArgs false
namespace Go.Dust
open Go.Proofs
set_option maxRecDepth 100000
set_option maxHeartbeats 2000000
theorem Obj.uniq {s:St} {b:Nat} {L L':List Value} (h:Obj s b L) (h':Obj s b L'):L=L':=by
 obtain⟨e,c,z,room,bB,h1,h2⟩:=h;obtain⟨e',c',z',aIx,ver',k1,k2⟩:=h';rw[h1] at k1;simp only[Option.some.injEq,bW.cells.injEq] at k1;obtain⟨rfl,rfl,hl,rfl,rfl,_,rfl⟩:=k1;apply List.ext_getElem?;intro i;by_cases hi:i<L.length
 ·rw[← h2 i hi,hl,k2 i (by omega)]
 ·rw[List.getElem?_eq_none (by omega),List.getElem?_eq_none (by omega)]
theorem fM.uniq {s:St} {t u u' n n' w w':Nat} {L L':Nat→Nat} (h:fM s t u n w L) (h':fM s t u' n' w' L'):u'=u∧n'=n∧w'=w∧∀ i,i<n→L' i=L i:=by
 have hc:=h.c.uniq h'.c;simp only[List.cons.injEq,int,Value.int.injEq,true_and,Value.slice.injEq,Option.some.injEq,Addr.mk.injEq,Int.natCast_inj,and_true] at hc;obtain⟨rfl,rfl,rfl,_⟩:=hc;refine⟨rfl,rfl,rfl,fun i hi=>?_⟩;obtain⟨U,a1,a2,a3,a4⟩:=h.ws;obtain⟨U',b1,b2,b3,b4⟩:=h'.ws;have hU:=a1.uniq b1;have F2:U=U':=by
  apply List.ext_getElem?;intro j;have:=congrArg (fun l=>l[j]?) hU;simp only[List.getElem?_map] at this;cases hx:U[j]? with
  | none =>
   rw[hx] at this;cases hy:U'[j]? with
   | none=>rfl
   | some y=>rw[hy] at this;cases this
  | some x =>
   rw[hx] at this;cases hy:U'[j]? with
   | none=>rw[hy] at this;cases this
   | some y =>
    rw[hy] at this;simp only[Option.map_some,Option.some.injEq,Value.int.injEq,true_and] at this;rw[Int.natCast_inj.1 this]
 subst F2;rw[← a4 i hi,← b4 i hi]
theorem RU {n:Nat} {f g:Nat→Value} (h:row n f=row n g) {i:Nat} (hi:i<n):f i=g i:=by
 have:=congrArg (fun l=>l[i]?) h;simp only[lW _ hi,Option.some.injEq] at this;exact this
structure PH.jL (P P':PH):Prop where
 N:P'.N=P.N
 w:∀ i,i<64*P.N→P'.w i=P.w i
 S:∀ i,i<32*P.N→P'.S i=P.S i
theorem bK.agree {s:St} {h:Nat} {P P':PH} (H:bK s h P) (H':bK s h P'):P.jL P':=by
 have hc:=H.c.uniq H'.c;simp only[List.cons.injEq,int,ptr,Value.int.injEq,Value.pointer.injEq,Value.map.injEq,true_and,Value.slice.injEq,Option.some.injEq,Addr.mk.injEq,Int.natCast_inj,and_true] at hc;obtain⟨⟨HF,hN,_⟩,⟨uL,_⟩,hst,S_,Fc,hmf,aHw⟩:=hc;have hw:=H'.cw;rw[← uL,← hN] at hw;have ht:=H'.ts;rw[← hst] at ht;refine⟨hN.symm,fun i hi=>?_,fun i hi=>(H.ts.uniq ht).2.2.2 i hi⟩;have:=RU (H.cw.uniq hw) hi;simp only[int,Value.int.injEq,true_and] at this;exact this.symm
namespace PH
variable {P P':PH}
theorem jL.has (A:P.jL P') (a:Int):P'.has a=P.has a:=by
 rw[Bool.eq_iff_iff,jG,jG,A.N];constructor
 ·rintro⟨h1,h2,h3,h4⟩;exact⟨h1,h2,h3,by rw[← A.S _ (by omega)];exact h4⟩
 ·rintro⟨h1,h2,h3,h4⟩;exact⟨h1,h2,h3,by rw[A.S _ (by omega)];exact h4⟩
theorem jL.shape (A:P.jL P') {a:Int} (h:P.has a=true):P'.shape a=P.shape a:=by
 obtain⟨h1,h2,h3,_⟩:=jG.1 h;unfold PH.shape;rw[A.w _ (by omega)]
theorem jL.aM (A:P.jL P') (a:Int):P'.aM a=P.aM a:=by
 unfold PH.aM;rw[A.has];split
 ·rename_i h;exact A.shape h
 ·try rfl
theorem jL.dR (A:P.jL P') (a i:Int) (d:Bool):P'.dR a i d=P.dR a i d:=by
 unfold PH.dR;rw[A.has];split
 ·rename_i h;have:P'.many a d=P.many a d:=by unfold PH.many;rw[A.shape h]
  rw[this]
 ·try rfl
theorem jL.Ce (A:P.jL P') (G:P.bX) (a i:Int) (d:Bool) (h:P.dR a i d=0):P'.w (P'.dP a i d).toNat=P.w (P.dP a i d).toNat:=by
 have h':P'.dR a i d=0:=by rw[A.dR];exact h
 have hb:=(sN h).1;have e:P'.dP a i d=P.dP a i d:=by
  unfold PH.dP;rw[if_pos h',if_pos h];unfold PH.first;rw[A.shape hb]
 obtain⟨_,_,_,h4,h5⟩:=qH G h;rw[e,A.w _ (by omega)]
theorem jL.ref (A:P.jL P') (G:P.bX) (a i:Int):P'.ref a i=P.ref a i:=by
 unfold PH.ref;rw[A.dR];split
 ·rename_i h;exact A.Ce G a i false h
 ·try rfl
theorem jL.lS (A:P.jL P') (G:P.bX) (a:Int):P'.lS a=P.lS a:=by
 unfold PH.lS PH.jm PH.bZ;rw[A.aM];exact List.map_congr_left fun i _=>A.ref G _ _
theorem jL.xW (A:P.jL P') (G:P.bX) {L L':List Int} (hL:∀ x∈L,x∈L') {x:Int} (h:iI P L x):iI P' L' x:=by
 induction h with
 | root a b=>exact .root (hL _ a) (by rw[A.has];exact b)
 | lS _ b c ih=>exact .lS ih (by rw[A.lS G];exact b) (by rw[A.has];exact c)
 | zM _ b _ d ih1 ih2 =>
  rw[← A.ref G] at ih2 d ⊢;exact .zM ih1 (by rw[A.aM];exact b) ih2 (by rw[A.has];exact d)
theorem jL.symm (A:P.jL P'):P'.jL P:=⟨A.N.symm,fun i hi=>(A.w i (by rw[← A.N];exact hi)).symm,fun i hi=>(A.S i (by rw[← A.N];exact hi)).symm⟩
end PH
def PR.yS (R:PR) (x:Int):Prop:=x≠0∧((∃ i,i<16*R.m∧R.sl i=x)∨(∃ i,i<16∧R.gl i=x)∨x∈R.q)
theorem PR.KV (R:PR) (i:Nat):R.get (PR.cW 0 i)=R.sl i:=by
 unfold PR.get PR.cW;rw[if_pos (show ((0:Nat):Int)=0 from rfl)];simp only[if_true];congr 1;omega
theorem PR.KW (R:PR) (i:Nat):R.get (PR.cW 1 i)=R.gl i:=by
 unfold PR.get PR.cW;rw[if_neg (by simp),if_pos (show ((1:Nat):Int)=1 from rfl)];simp
theorem PR.OW (R:PR) (i:Nat):R.get (PR.cW 2 i)=R.q.getD i 0:=by
 unfold PR.get PR.cW;rw[if_neg (by simp),if_neg (by simp)];simp
theorem PR.YI {R:PR} {x:Int}:x∈R.all.map R.get↔R.yS x:=by
 unfold PR.all PR.upto PR.part PR.one PR.yS;simp only[List.mem_map,List.mem_flatMap,List.mem_range];constructor
 ·rintro⟨p,⟨k,hk,i,hi,hp⟩,rfl⟩;split at hp
  ·cases hp
  ·rename_i hne;rw[List.mem_singleton] at hp;subst hp;refine⟨hne,?_⟩;unfold PR.len at hi;rcases(show k=0∨k=1∨k=2 by omega) with rfl | rfl | rfl
   ·simp only[if_true] at hi;exact .inl ⟨i,hi,(R.KV i).symm⟩
   ·simp only[if_true,if_false,Nat.one_ne_zero] at hi;exact .inr (.inl ⟨i,hi,(R.KW i).symm⟩)
   ·simp at hi;refine .inr (.inr ?_);rw[R.OW,List.getD_eq_getElem?_getD,List.getElem?_eq_getElem hi];exact List.getElem_mem _
 ·rintro⟨h0,h⟩;have key:∀ k i,k<3→i<R.len k→R.get (PR.cW k i)=x→∃ a,(∃ k,k<3∧∃ i,i<R.len k∧a∈(if R.get (PR.cW k i)=0 then [] else [PR.cW k i]))∧R.get a=x:=fun k i hk hi hx =>
   ⟨_,⟨k,hk,i,hi,by rw[if_neg (by rw[hx];exact h0)];exact List.mem_singleton.2 rfl⟩,hx⟩
  rcases h with ⟨i,hi,hx⟩ | ⟨i,hi,hx⟩ | hx
  ·exact key 0 i (by omega) (by unfold PR.len;simpa using hi) (by rw[R.KV];exact hx)
  ·exact key 1 i (by omega) (by unfold PR.len;simpa using hi) (by rw[R.KW];exact hx)
  ·obtain⟨i,hi,rfl⟩:=List.mem_iff_getElem.1 hx;exact key 2 i (by omega) (by unfold PR.len;simpa using hi) (by rw[R.OW,List.getD_eq_getElem?_getD,List.getElem?_eq_getElem hi];rfl)
theorem cV.agree {s:St} {r:Nat} {R R':PR} (A:cV s r R) (A':cV s r R') (x:Int):R'.yS x↔R.yS x:=by
 have hc:=A.c.uniq A'.c;simp only[List.cons.injEq,int,Value.int.injEq,true_and,Value.slice.injEq,Option.some.injEq,Addr.mk.injEq,Int.natCast_inj,and_true] at hc;obtain⟨hm,⟨hns,_⟩,ky,pQ,nO,hvc⟩:=hc;have hs:=A'.cs;rw[← hns,← hm] at hs;have hg:=A'.cg;rw[← ky] at hg;have h1:∀ i,i<16*R.m→R'.sl i=R.sl i:=fun i hi=>by
  have:=RU (A.cs.uniq hs) hi;simp only[int,Value.int.injEq,true_and] at this;exact this.symm
 have h2:∀ i,i<16→R'.gl i=R.gl i:=fun i hi=>by
  have:=RU (A.cg.uniq hg) hi;simp only[int,Value.int.injEq,true_and] at this;exact this.symm
 have h3:R'.q=R.q:=by
  have q1:=A.cq.sl;have q2:=A'.cq.sl;rw[← pQ,← nO,← hvc] at q2;have hl1:=q1.len;have hl2:=q2.len;rw[List.length_map] at hl1 hl2;apply List.ext_getElem?;intro i;by_cases hi:i<R.q.length
  ·obtain⟨b,off,W0⟩:=q1.addr (by omega);rw[W0] at q1 q2;have e1:=q1.load (i:=i) (v:=int R.q[i]) (by rw[List.getElem?_map,List.getElem?_eq_getElem hi];rfl);have e2:=q2.load (i:=i) (v:=int (R'.q[i]'(by omega))) (by rw[List.getElem?_map,List.getElem?_eq_getElem (by omega)];rfl);rw[e1] at e2;simp only[int,Option.some.injEq,Value.int.injEq,true_and] at e2;rw[List.getElem?_eq_getElem hi,List.getElem?_eq_getElem (by omega),e2]
  ·rw[List.getElem?_eq_none (by omega),List.getElem?_eq_none (by omega)]
 unfold PR.yS;rw[← hm,h3];have e1:(∃ i,i<16*R.m∧R'.sl i=x)↔∃ i,i<16*R.m∧R.sl i=x:=⟨fun⟨i,a,b⟩=>⟨i,a,by rw[← h1 i a];exact b⟩,fun⟨i,a,b⟩=>⟨i,a,by rw[h1 i a];exact b⟩⟩;have e2:(∃ i,i<16∧R'.gl i=x)↔∃ i,i<16∧R.gl i=x:=⟨fun⟨i,a,b⟩=>⟨i,a,by rw[← h2 i a];exact b⟩,fun⟨i,a,b⟩=>⟨i,a,by rw[h2 i a];exact b⟩⟩;rw[e1,e2]
open Go.Proofs
set_option maxRecDepth 100000
set_option maxHeartbeats 2000000
theorem bJ.aGo {X:Env} {s:St} {t e N k n c:Nat} {a:Option Addr} {L:List Value} (hd:((X.ty t).map fun i=>i.desc)=some (.slice e)) (he:((X.ty e).map fun i=>i.size)=some N)
  (B:bJ s e N (.slice a n c) L) (hk:k≤n):∃ v,mM X s.look t (.slice a n c) none (some (int k)) none=some v∧wA v=some k∧kP s.look N k v=some (L.take (k*N)):=by
 cases hi:X.ty t with
 | none=>rw[hi] at hd;cases hd
 | some i =>
  cases hj:X.ty e with
  | none=>rw[hj] at he;cases he
  | some j =>
   rw[hi] at hd;rw[hj] at he;obtain⟨d,sz,bs,zz,ag,ms,cm⟩:=i;simp only[Option.map_some,Option.some.injEq] at hd he;subst hd;have hS:=B.sl;cases B with
   | nil =>
    obtain rfl:k=0:=by omega
    exact⟨.slice none 0 0,by simp[mM,hi,hj,qO,qF],rfl,by simp[kP]⟩
   | @own b off _ _ L0 _ hC hc hnc hlen hl =>
    obtain⟨cc,z,room,bB,hg,_⟩:=hC;have hb:qF n c none (some (k:Int))=some (0,k):=by
     unfold qF;simp only;rw[if_pos (by omega)];simp only[Int.toNat_natCast]
    have e1:mM X s.look t (.slice (some ⟨b,off,none⟩) n c) none (some (int k)) none=some (.slice (some (if c=0 then(if room=true then⟨b,off,some 0⟩ else⟨b,off,none⟩) else⟨b,off,none⟩)) k c):=by
     simp only[mM,hi,hj,qO,hb,St.look,hg,Nat.zero_le,true_and,Nat.zero_mul,Nat.sub_zero,bQ,Nat.add_zero];rw[if_pos (by omega)];split <;> rfl
    refine⟨_,e1,rfl,?_⟩;by_cases hz:k*N=0
    ·simp only[kP];rw[if_pos hz,hz];rfl
    ·have PD:c≠0:=fun h=>hz (by rw[show k=0 by omega,Nat.zero_mul]);rw[if_neg PD];simp only[kP];rw[if_neg hz];have h1:k*N≤n*N:=Nat.mul_le_mul_right _ hk;have:=hS.bI (i:=0) (k:=k*N) (by omega) (by omega);simpa using this
theorem bJ.aGn {X:Env} {s:St} {t e N k n c:Nat} {a:Option Addr} {L:List Value} (hd:((X.ty t).map fun i=>i.desc)=some (.slice e)) (he:((X.ty e).map fun i=>i.size)=some N)
  (B:bJ s e N (.slice a n c) L) (hk:k≤n):∃ v,mM X s.look t (.slice a n c) (some (int k)) none none=some v∧wA v=some (n-k)∧kP s.look N (n-k) v=some (L.drop (k*N)):=by
 cases hi:X.ty t with
 | none=>rw[hi] at hd;cases hd
 | some i =>
  cases hj:X.ty e with
  | none=>rw[hj] at he;cases he
  | some j =>
   rw[hi] at hd;rw[hj] at he;obtain⟨d,sz,bs,zz,ag,ms,cm⟩:=i;simp only[Option.map_some,Option.some.injEq] at hd he;subst hd;have hS:=B.sl;have hlen:=hS.len;cases B with
   | nil =>
    obtain rfl:k=0:=by omega
    exact⟨.slice none 0 0,by simp[mM,hi,hj,qO,qF],rfl,by simp[kP]⟩
   | @own b off _ _ L0 _ hC hc hnc ko hl =>
    obtain⟨cc,z,room,bB,hg,_⟩:=hC;have hb:qF n c (some (k:Int)) none=some (k,n):=by
     unfold qF;simp only;rw[if_pos (by omega)];simp only[Int.toNat_natCast]
    have e1:mM X s.look t (.slice (some ⟨b,off,none⟩) n c) (some (int k)) none none=some (.slice (some (if c=k then(if room=true then⟨b,off,some (k*N)⟩ else⟨b,off,none⟩) else⟨b,off+k*N,none⟩)) (n-k) (c-k)):=by
     simp only[mM,hi,hj,qO,hb,St.look,hg,bQ,he];rw[if_pos (by omega)];split <;> rfl
    refine⟨_,e1,rfl,?_⟩;have h1:k*N≤n*N:=Nat.mul_le_mul_right _ hk;have h2:(n-k)*N=n*N-k*N:=Nat.sub_mul ..;by_cases hz:(n-k)*N=0
    ·simp only[kP];rw[if_pos hz,List.drop_of_length_le (by omega)]
    ·have hck:c≠k:=fun h=>hz (by rw[show n-k=0 by omega,Nat.zero_mul]);rw[if_neg hck];simp only[kP];rw[if_neg hz];have:=hS.bI (i:=k*N) (k:=(n-k)*N) (by omega) (by omega);rw[this,List.take_of_length_le (by rw[List.length_drop];omega)]
section
variable {kc:Kc} {q:Bool} {s:St} {Φ:Value→St→Prop} {a:Option Addr} {n c:Nat} {l:List Int}
theorem sZ:type_of% (B4 @RX @dV @dQ @bG):=B4 @RX @dV @dQ @bG
theorem aEe (h:Ints s (.slice a n c) l) (hn:n<1000000) (x:Int) (h1:∀ i:Nat,x∈l→Φ (int i) s) (h2:x∉l→Φ (int (-1)) s):okF q X (KO kc) 185 [.slice a n c,int x] s Φ:=by
 have hl:=h.len;refine aW Tryz.func185 (by kernel_rfl) rfl rfl (rs:=[.tmp 4]) rfl (N:=19) rfl rfl ?_;refine aA fun bF aF bD=>?_;simp only[sZ,seval];refine aF _ _ ?_;refine aA fun Ψ1 aE aL=>?_;refine aA fun Ψ2 aI bH=>?_;simp only[sZ,seval];refine aI _ _ ?_;refine cJ fun Ψ3 aN pF bM=>?_;refine gB (n:=n) (fun j a' s'=>a'.aB 0=.slice a n c∧a'.aB 1=int x∧a'.aB 5=int j∧s'=s∧∀ k (hk:k<l.length),k<j→l[k]≠x)
  (fun j a' s'=>a'.aB 0=.slice a n c∧a'.aB 1=int x∧a'.aB 5=int j∧s'=s∧∀ k (hk:k<l.length),k<j+1→l[k]≠x) ?_ ?_ ?_ ?_ (Nat.zero_le _) ?_
 ·rintro j a' s' hj ⟨r0,r1,r5,rfl,hn⟩ aV bP;simp only[sZ,seval,r0,r5];refine bP _ _ (decide ((j:Int)<n)) ?_ (by simp) ⟨?_,?_,?_,rfl,hn⟩
  all_goals simp only[sZ,seval,r0,r1,r5]
 ·rintro j a' s' hj ⟨r0,r1,r5,rfl,hn⟩ aV w1 w2 w3;obtain⟨b,off,rfl⟩:=Sl.addr h (by omega);have iX:j<l.length:=by omega
  have lj:=Ints.get h (List.getElem?_eq_getElem iX);have g1:(0:Int)≤(j:Int):=Int.natCast_nonneg _;have g2:(j:Int)<(n:Int):=by omega
  refine aA fun dN bO cZ=>?_;simp only[sZ,seval,r0,r1,r5,g1,g2,and_self,bQ,Int.toNat_natCast,Nat.mul_one,lj];refine bO _ _ ?_;by_cases he:l[j]=x
  ·have he':(l[j]==x)=true:=by simpa using he
   simp only[sZ,seval,he',r5];refine w3 _ _ _ (by simp) (by simp) (bM _ _ _ (by simp) (by simp) (aL _ _ _ (by simp) ?_));simp only[sZ,seval];exact h1 j (by rw[← he];exact List.getElem_mem _)
  ·have he':(l[j]==x)=false:=by simpa using he
   simp only[sZ,seval,he'];refine w1 _ _ ⟨?_,?_,?_,rfl,fun k hk WL=>?_⟩
   ·simp only[sZ,seval,r0]
   ·simp only[sZ,seval,r1]
   ·simp only[sZ,seval,r5]
   ·by_cases e:k=j
    ·subst e;exact he
    ·exact hn k hk (by omega)
 ·rintro j a' s' hj ⟨r0,r1,r5,rfl,hn⟩ aV w1;have w:IntKind.i64.wrap ((j:Int)+1)=((j+1:Nat):Int):=by rw[aU (by omega) (by omega)];rfl
  simp only[sZ,seval,r5,w];refine w1 _ _ ⟨?_,?_,?_,rfl,hn⟩
  all_goals try simp only[sZ,seval,r0,r1]
 ·rintro a' s' ⟨r0,r1,r5,rfl,hn⟩;refine pF _ _ (aE _ _ ?_);simp only[sZ,seval];refine h2 fun hx=>?_;obtain⟨i,hi,rfl⟩:=List.mem_iff_getElem.1 hx;exact hn i hi (by omega) rfl
 ·refine⟨?_,?_,?_,rfl,fun k hk h=>absurd h (Nat.not_lt_zero _)⟩
  all_goals try simp only[sZ,seval]
  try rfl
theorem aEf (h:Ints s (.slice a n c) l) (hn:n<1000000) (x:Int) (hΦ:Φ (.bool (decide (x∈l))) s):okF q X (KO kc) 108 [.slice a n c,int x] s Φ:=by
 refine aW Tryz.func108 (by kernel_rfl) rfl rfl (rs:=[.tmp 4]) rfl (N:=9) rfl rfl ?_;refine aA fun bF aF bD=>?_;simp only[RX,seval];refine aF _ _ ?_;simp only[RX,seval];refine aH ?_ (aEe h hn x (fun i hx=>?_) (fun hx=>?_))
 ·simp only[RX,seval]
 ·rw[decide_eq_true hx] at hΦ;have g:(i:Int)≥0:=by omega
  simp only[RX,seval,g,decide_true];exact hΦ
 ·rw[decide_eq_false hx] at hΦ;have g:¬ (-1:Int)≥0:=by omega
  simp only[RX,seval,g,decide_false];exact hΦ
theorem SL:type_of% (B2 @RX @tI):=B2 @RX @tI
theorem Mv (hs:Ok s) (h:Ints s (.slice a n c) l) (hn:n<1000000) (hΦ:∀ a' c' s',bJ s' 3 1 (.slice a' n c') (l.map int)→aC [] s s'→(∀ b∈nameOf (.slice a' n c'),s.next≤b)→Φ (.slice a' n c') s'):okF q X (KO kc) 184 [.slice a n c] s Φ:=by
 have hl:=h.len;refine aW Tryz.func184 (by kernel_rfl) rfl rfl (rs:=[.tmp 2]) rfl (N:=6) rfl rfl ?_;refine aA fun bF aF bD=>?_;simp only[SL,seval];refine aF _ _ ?_;obtain⟨s1,e1,k1,c1,n1⟩:=cI hs (L:=[]) (n:=0) (e:=3) rfl;obtain⟨e,c1⟩:=c1;have B1:bJ s1 3 1 (.slice (some ⟨s.next,0,none⟩) 0 0) []:=by
  rw[← e1];exact .own (L0:=[]) Cells.tU (by simp) (Nat.le_refl _) rfl (fun i hi=>absurd hi (Nat.not_lt_zero _))
 obtain⟨v,s4,h4,b4,k4,m4,a4,c4,rfl⟩:=iE (X:=X) (t:=62) (e:=3) (N:=1) (B:=8) (z:=.int .i64 0) (x:=.slice a n c) (k:=n) (new:=l.map int) (by kernel_rfl) (by kernel_rfl) rfl k1.ok (by omega) B1 rfl (Sl.aD h k1 (by simp)).first (by rw[List.length_map,Nat.mul_one,hl]) (DG _) (by omega) (by omega);have hk:aC [] s s4:=k1.step k4 fun y hy=>.inr (by rw[List.mem_singleton.1 (show y∈[s.next] from hy)];exact hs.fresh _ (Nat.le_refl _));simp only[SL,seval];rw[e1]
 try simp only[SL,seval]
 refine iS ?_ h4 ?_
 ·simp only[SL,seval]
 simp only[SL,seval];rw[Nat.zero_add] at b4 m4 ⊢;refine hΦ a4 c4 s4 (by simpa using b4) hk fun b hb=>?_;rcases m4 b hb with h | h
 ·rw[List.mem_singleton.1 (show b∈[s.next] from h)];exact Nat.le_refl _
 ·have:=k1.next;omega
theorem aDz {l:List Int} {x:Int} {j:Nat} (hp:l.Pairwise (·<·)) (hj:j≤l.length) (h1:∀ i (hi:i<l.length),i<j→l[i]<x) (h2:∀ (hi:j<l.length),x<l[j]):(l.take j++[x]++l.drop j).Pairwise (·<·):=by
 have hle:∀ y∈l.take j,y<x:=fun y hy=>by
  obtain⟨i,hi,rfl⟩:=List.mem_iff_getElem.1 hy;rw[List.length_take] at hi;rw[List.getElem_take];exact h1 i (by omega) (by omega)
 have hge:∀ y∈l.drop j,x<y:=fun y hy=>by
  obtain⟨i,hi,rfl⟩:=List.mem_iff_getElem.1 hy;rw[List.length_drop] at hi;rw[List.getElem_drop];have h3:=h2 (by omega);by_cases hi0:i=0
  ·subst hi0;simpa using h3
  ·have:=List.pairwise_iff_getElem.1 hp j (j+i) (by omega) (by omega) (by omega);omega
 rw[List.append_assoc,List.pairwise_append,List.pairwise_append];refine⟨hp.sublist (List.take_sublist ..),⟨by simp,hp.sublist (List.drop_sublist ..),fun a ha b hb=>?_⟩,fun a ha b hb=>?_⟩
 ·rw[List.mem_singleton.1 ha];exact hge b hb
 ·rcases List.mem_append.1 hb with h | h
  ·rw[List.mem_singleton.1 h];exact hle a ha
  ·have:=hle a ha;have:=hge b h;omega
theorem aDx {l:List Int} {x y:Int} {j:Nat}:y∈l.take j++[x]++l.drop j↔y∈l∨y=x:=by
 have:y∈l↔y∈l.take j∨y∈l.drop j:=by
  rw[← List.mem_append,List.take_append_drop]
 rw[this];simp only[List.mem_append,List.mem_singleton];constructor
 ·rintro((h | h) | h)
  ·exact .inl (.inl h)
  ·exact .inr h
  ·exact .inl (.inr h)
 ·rintro((h | h) | h)
  ·exact .inl (.inl h)
  ·exact .inr h
  ·exact .inl (.inr h)
end
open Go.Proofs
set_option maxRecDepth 100000
set_option maxHeartbeats 2000000
theorem bJ.IX {F G:List Nat} {s m T:St} {e:TypeId} {N:Nat} {v:Value} {L:List Value} (h:bJ s e N v L) (k1:aC F s m) (k2:aC G s T) (h1:∀ b∈nameOf v,b∉F) (h2:∀ b∈nameOf v,b∉G):uH (nameOf v) m T:=by
 intro b hb;have g1:=h1 b hb;have g2:=h2 b hb;cases h with
 | nil=>cases hb
 | own h _ _ _ _ =>
  simp only[nameOf,List.mem_singleton] at hb;subst hb;obtain⟨c,z,room,bB,hg,_⟩:=h;have:=MY (k1.dE _ _ hg g1) rfl k1.ok (.refl k1.ok) (F:=[]) (by simp);unfold fJ at this ⊢;rw[k1.dE _ _ hg g1] at this ⊢;rw[k2.dE _ _ hg g2];exact this
theorem bJ.fI {s:St} {x:Nat} {f:Nat→bW} {e:TypeId} {N:Nat} {v:Value} {L:List Value} (h:bJ s e N v L) (hx:x∉nameOf v):bJ (s.put x f) e N v L:=by
 cases h with
 | nil=>exact .nil
 | own h hc hn hL hl =>
  obtain⟨c,z,room,bB,h1,h2⟩:=h;simp only[nameOf,List.mem_singleton] at hx;exact .own ⟨c,z,room,bB,by rw[oK fun e=>hx e.symm];exact h1,h2⟩ hc hn hL hl
section
variable {kc:Kc} {q:Bool} {s:St} {Φ:Value→St→Prop} {a:Option Addr} {n c:Nat} {l:List Int}
theorem iC:type_of% (B6 @RX @dV @dQ @bG @tI @mC):=B6 @RX @dV @dQ @bG @tI @mC
theorem aEl (hs:Ok s) (B:bJ s 3 1 (.slice a n c) (l.map int)) (hn:n<100000) (x:Int) (hp:l.Pairwise (·<·))
  (hΦ:∀ a' n' c' (l':List Int) s',bJ s' 3 1 (.slice a' n' c') (l'.map int)→(∀ y,y∈l'↔y∈l∨y=x)→l'.Pairwise (·<·)→aC [] s s'→Φ (.slice a' n' c') s'):okF q X (KO kc) 229 [.slice a n c,int x] s Φ:=by
 have hl:l.length=n:=Ints.len B.sl;refine aW Tryz.func229 (by kernel_rfl) rfl rfl (rs:=[.tmp 4]) rfl (N:=45) rfl rfl ?_;refine aA fun bF aF bD=>?_;simp only[iC,seval];refine aF _ _ ?_;refine aA fun Ψ1 aE aL=>?_;simp only[iC,seval];refine aE _ _ ?_;refine aA fun Ψ2 aI bH=>?_;refine cJ fun jC dK nz iK=>?_;refine Lk (fun k a' s'=>∃ j,k=n-j∧j≤n∧a'.aB 0=.slice a n c∧a'.aB 1=int x∧a'.aB 5=int j∧s'=s∧∀ i (hi:i<l.length),i<j→l[i]<x)
  (fun k a' s'=>∃ j,k=n-j∧j<n∧a'.aB 0=.slice a n c∧a'.aB 1=int x∧a'.aB 5=int j∧s'=s∧∀ i (hi:i<l.length),i<j+1→l[i]<x)
  (fun a' s'=>∃ j,j≤n∧a'.aB 0=.slice a n c∧a'.aB 1=int x∧a'.aB 5=int j∧s'=s∧(∀ i (hi:i<l.length),i<j→l[i]<x)∧∀ hj:j<l.length,¬ l[j]<x) ?_ ?_ ?_ (k0:=n-0) ?_
 ·rintro k a' s' ⟨j,rfl,hj,r0,r1,r5,rfl,cD⟩ aV bP;refine cL [(4,10)] (by kernel_rfl) fun O hO bC hR=>?_;have y4:∀ a,aO O a 4=aY (a.aB 10):=hO (4,10) (by simp);by_cases Ey:j<n
  ·obtain⟨b,off,rfl⟩:=Sl.addr B.sl (by omega);have iX:j<l.length:=by omega
   have lj:=Ints.get B.sl (List.getElem?_eq_getElem iX);have g1:(0:Int)≤(j:Int):=Int.natCast_nonneg _;have g2:(j:Int)<(n:Int):=by omega
   simp only[iC,seval,y4,r0,r1,r5,g1,g2,decide_true,and_self,bQ,Int.toNat_natCast,Nat.mul_one,lj];by_cases hx:l[j]<x
   ·refine hR _ _ (bP _ _ true ?_ (fun _=>⟨j,rfl,Ey,?_,?_,?_,rfl,fun i hi hij=>?_⟩) (fun h=>by cases h))
    ·simp only[iC,seval,hx,decide_true]
    ·simp only[iC,seval,r0]
    ·simp only[iC,seval,r1]
    ·simp only[iC,seval,r5]
    ·by_cases e:i=j
     ·subst e;exact hx
     ·exact cD i hi (by omega)
   ·refine hR _ _ (bP _ _ false ?_ (fun h=>by cases h) (fun _=>⟨j,hj,?_,?_,?_,rfl,cD,fun _=>hx⟩))
    ·simp only[iC,seval,hx,decide_false]
    ·simp only[iC,seval,r0]
    ·simp only[iC,seval,r1]
    ·simp only[iC,seval,r5]
  ·have g2:¬ (j:Int)<(n:Int):=by omega
   simp only[iC,seval,y4,r0,r5,g2,decide_false];refine hR _ _ (bP _ _ false ?_ (fun h=>by cases h) (fun _=>⟨j,hj,?_,?_,?_,rfl,cD,fun hj=>absurd hj (by omega)⟩))
   all_goals try simp only[iC,seval,r0,r1,r5]
 ·rintro k a' s' ⟨j,rfl,hj,r0,r1,r5,rfl,cD⟩ aV w1 w2 w3;have w:IntKind.i64.wrap ((j:Int)+1)=((j+1:Nat):Int):=by rw[aU (by omega) (by omega)];rfl
  simp only[iC,seval,r5,w];refine w1 _ _ (n-(j+1)) (by omega) ⟨j+1,rfl,by omega,?_,?_,?_,rfl,cD⟩
  all_goals try simp only[iC,seval,r0,r1]
 ·rintro a' s' ⟨j,hj,r0,r1,r5,rfl,cD,hge⟩;refine nz _ _ (aI _ _ ?_);refine aA fun Ψ3 aN bM=>?_;refine aA fun Ψ4 aP cC=>?_;have fin:∀ a':aK,a'.aB 0=.slice a n c→a'.aB 1=int x→a'.aB 5=int j→(∀ hj:j<l.length,l[j]≠x)→Ψ3 .normal a' s':=by
   intro a' r0 r1 r5 hne;refine aN _ _ ?_;refine aA fun cU aZ cK=>?_;have hnm:=B.lt hs;obtain⟨T1,E1,K1,C1,N1⟩:∃ T1,(s'.skip 26).put (s'.next+0) (fun v=>bW.cells (PT.ofList []) [] 0 3 false false v)=T1∧aC [] s' T1∧Cells T1 s'.next 3 []∧T1.next=s'.next+26 :=
    ⟨_,rfl,(aC.skip hs 26).ZR (hs.fresh _ (by omega)) (by show s'.next+0<s'.next+26;omega) (by omega) (.inr (Nat.le_refl _)),Cells.kC (L:=[]),rfl⟩
   have S1:uH (nameOf (Value.slice a n c)) (s'.skip 26) T1:=B.IX (aC.skip (F:=[]) hs 26) K1 (by simp) (by simp);have Bn:bJ T1 3 1 (.slice (some ⟨s'.next,0,none⟩) 0 0) []:=.own (L0:=[]) C1 (by simp) (Nat.le_refl _) rfl (fun i hi=>absurd hi (Nat.not_lt_zero _));have B1:=B.aD K1 (by simp);obtain⟨v3,f3,c_,Bc⟩:=B1.aGo (X:=X) (t:=62) (by kernel_rfl) (by kernel_rfl) hj;rw[Nat.mul_one] at Bc;obtain⟨w,T2,h2,b2,u2,m2,a2,c2,rfl⟩:=iE (X:=X) (t:=62) (e:=3) (N:=1) (B:=8) (z:=.int .i64 0) (x:=v3) (k:=j) (new:=(l.map int).take j) (by kernel_rfl) (by kernel_rfl) rfl K1.ok (by omega) Bn c_ Bc (by rw[List.length_take,List.length_map];omega) (by rw[← List.map_take];exact DG _) (by omega) (by omega);rw[Nat.zero_add,List.nil_append] at b2;rw[Nat.zero_add] at m2 h2;have K2:aC [] s' T2:=K1.step u2 fun y hy=>.inr (by rw[List.mem_singleton.1 (show y∈[s'.next] from hy)];exact hs.fresh _ (Nat.le_refl _));have S2:uH (nameOf (Value.slice a n c)) T1 T2:=B.IX K1 K2 (by simp) (by simp);have hn2:∀ y∈nameOf (.slice a2 j c2),y=s'.next∨s'.next+26≤y:=fun y hy=>(m2 y hy).imp (fun h=>List.mem_singleton.1 (show y∈[s'.next] from h)) fun h=>by omega
   have GJ:T2.heap.get (s'.next+12)=none:=by
    refine u2.none ?_ (by omega);rw[← E1,oK (by omega)];exact hs.fresh _ (by omega)
   obtain⟨T3,E3,K3,C3,N3⟩:∃ T3,T2.put (s'.next+12) (fun v=>bW.cells (PT.ofList [int x]) [] 1 3 false false v)=T3∧aC [] s' T3∧Obj T3 (s'.next+12) [int x]∧T3.next=T2.next :=
    ⟨_,rfl,K2.jT GJ (by have:=u2.next;omega) (by omega) (Nat.le_refl _),Obj.kC rfl,rfl⟩
   have S3:uH (nameOf (Value.slice a n c)) T2 T3:=B.IX K2 K3 (by simp) (by simp);have b3:bJ T3 3 1 (.slice a2 j c2) ((l.map int).take j):=by
    rw[← E3];refine b2.fI fun hy=>?_;rcases hn2 _ hy with h | h <;> omega
   obtain⟨w,T4,h4,b4,u4,m4,a4,c4,rfl⟩:=iE (X:=X) (t:=62) (e:=3) (N:=1) (B:=8) (z:=.int .i64 0) (x:=.slice (some ⟨s'.next+12,0,none⟩) 1 1) (k:=1) (new:=[int x]) (by kernel_rfl) (by kernel_rfl) rfl K3.ok (by omega) b3 rfl (lQ (by omega) (C3.bI (i:=0) (k:=1) (Nat.le_refl _))) rfl rfl (by omega) (by omega);have K4:aC [] s' T4:=K3.step u4 fun y hy=>.inr (hs.fresh y (by rcases hn2 y hy with h | h <;> omega))
   have S4:uH (nameOf (Value.slice a n c)) T3 T4:=B.IX K3 K4 (by simp) (by simp);have kv:∀ y∈nameOf (.slice a4 (j+1) c4),s'.next≤y:=fun y hy=>by
    rcases m4 y hy with h | h
    ·rcases hn2 y h with h | h <;> omega
    ·have:=u2.next;omega
   have B4:=B.aD K4 (by simp);obtain⟨v10,f10,a_,Bb⟩:=B4.aGn (X:=X) (t:=62) (by kernel_rfl) (by kernel_rfl) hj;rw[Nat.mul_one] at Bb;obtain⟨w,T5,h5,b5,u5,m5,a5,c5,rfl⟩:=iE (X:=X) (t:=62) (e:=3) (N:=1) (B:=8) (z:=.int .i64 0) (x:=v10) (k:=n-j) (new:=(l.map int).drop j) (by kernel_rfl) (by kernel_rfl) rfl K4.ok (by omega) b4 a_ Bb (by rw[List.length_drop,List.length_map];omega) (by rw[← List.map_drop];exact DG _) (by omega) (by omega);have K5:aC [] s' T5:=K4.step u5 fun y hy=>.inr (hs.fresh y (kv y hy));refine dG [(3,0),(10,0),(10,4),(10,6),(10,7)] (nameOf (Value.slice a n c)) [] (by kernel_rfl) (by kernel_rfl) (by rfl) fun O hO bC hR=>?_;simp only[iC,seval,r0,r5];rw[E1];refine⟨S1,?_⟩;simp only[iC,seval,f3];refine⟨fun _ h=>h,?_⟩;refine vJ ?_ h2 ?_ ?_
   ·simp only[iC,seval,Nat.add_zero]
   ·simp only[iC,seval];exact S2
   simp only[iC,seval,r1];rw[E3];refine⟨S3,?_⟩;refine vJ ?_ h4 ?_ ?_
   ·simp only[iC,seval]
   ·simp only[iC,seval];exact S4
   simp only[iC,seval,r0,r5,f10];refine⟨fun _ h=>h,?_⟩;refine vJ ?_ h5 ?_ ?_
   ·simp only[iC,seval]
   ·simp only[iC,seval]
   simp only[iC,seval];refine hR _ _ (aZ _ _ ?_);simp only[iC,seval];rw[← List.map_take,← List.map_drop,← List.map_singleton (f:=int) (a:=x),← List.map_append,← List.map_append] at b5;refine hΦ a5 _ c5 _ T5 b5 (fun y=>aDx) (aDz hp (by omega) cD fun iX=>?_) K5;have:=hge iX;have:=hne iX;omega
  refine cL [(4,24)] (by kernel_rfl) fun O hO bC hR=>?_;have y4:∀ a,aO O a 4=aY (a.aB 24):=hO (4,24) (by simp);by_cases Ey:j<n
  ·obtain⟨b,off,rfl⟩:=Sl.addr B.sl (by omega);have iX:j<l.length:=by omega
   have lj:=Ints.get B.sl (List.getElem?_eq_getElem iX);have g1:(0:Int)≤(j:Int):=Int.natCast_nonneg _;have g2:(j:Int)<(n:Int):=by omega
   simp only[iC,seval,y4,r0,r1,r5,g1,g2,decide_true,and_self,bQ,Int.toNat_natCast,Nat.mul_one,lj];by_cases hx:l[j]=x
   ·have he:(l[j]==x)=true:=by simpa using hx
    refine hR _ _ (aP _ _ ?_);simp only[iC,seval,he,r0];refine bM _ _ _ (by simp) ?_;simp only[iC,seval];exact hΦ _ _ _ l s' B (fun y=>⟨.inl,fun h=>h.elim id fun e=>by rw[e,← hx];exact List.getElem_mem _⟩) hp (.refl hs)
   ·have he:(l[j]==x)=false:=by simpa using hx
    refine hR _ _ (aP _ _ ?_);simp only[iC,seval,he];refine fin _ ?_ ?_ ?_ fun _=>hx
    all_goals simp only[iC,seval,r0,r1,r5]
  ·have g2:¬ (j:Int)<(n:Int):=by omega
   simp only[iC,seval,y4,r0,r5,g2,decide_false];refine hR _ _ (aP _ _ ?_);simp only[iC,seval];refine fin _ ?_ ?_ ?_ fun h=>absurd h (by omega)
   all_goals simp only[iC,seval,r0,r1,r5]
 ·refine⟨0,rfl,Nat.zero_le _,?_,?_,?_,rfl,fun i hi h=>absurd h (Nat.not_lt_zero _)⟩
  all_goals try simp only[iC,seval]
  try rfl
end
open Go.Proofs
set_option maxRecDepth 100000
set_option maxHeartbeats 1000000
namespace PH
structure Inv (P:PH):Prop where
 bX:P.bX
 id:∀ a,P.has a=true→1≤P.w a.toNat∧P.w a.toNat≤P.born
 M:∀ a,P.has a=true→P.M.lookup (P.w a.toNat)=some a
 Mk:∀ p∈P.M,p.1≤P.born
 Mh:∀ p∈P.M,P.has p.2=true∧P.w p.2.toNat=p.1
 Mn:(P.M.map Prod.fst).Nodup
 zero:∀ i:Nat,(∀ o,P.has o=true→¬ (o≤i∧(i:Int)<o+P.size o))→P.w i=0
 q:∀ i,P.S i≠1→P.Q i=0
 aT:∀ i,P.bs i=0→P.bp i=0
 bY:P.N≤64
 b0:P.bs 0=0
 z:∀ a,P.has a=true→64≤a
variable {P:PH}
theorem Jd {M:List (Int×Int)} {k:Int} (h:∀ p∈M,p.1≠k):M.lookup k=none:=by
 induction M with
 | nil=>rfl
 | cons p M ih =>
  rcases p with ⟨x,y⟩;rw[List.lookup_cons];have:=h _ (List.mem_cons_self ..);rw[show (k==x)=false from beq_eq_false_iff_ne.2 (fun e=>this e.symm)];exact ih fun p hp=>h p (List.mem_cons_of_mem _ hp)
theorem aBd {M:List (Int×Int)} {k x y:Int}:(M++[(x,y)]).lookup k=match M.lookup k with
  | some v=>some v
  | none=>if k=x then some y else none:=by
 induction M with
 | nil =>
  rw[List.nil_append,List.lookup_cons];by_cases h:k=x
  ·subst h;simp
  ·rw[show (k==x)=false from beq_eq_false_iff_ne.2 h,if_neg h];rfl
 | cons p M ih =>
  rcases p with ⟨u,v⟩;rw[List.cons_append,List.lookup_cons,List.lookup_cons,ih];cases (k==u) <;> rfl
theorem Inv.next (I:P.Inv):P.M.lookup ((P.born:Int)+1)=none:=Jd fun p hp=>by have:=I.Mk p hp;omega
theorem Empty.inv {n:Nat} (E:P.Empty n) (hn:n≤64):P.Inv:=by
 have hh:∀ a,P.has a=false:=fun a=>by
  cases h:P.has a with
  | false=>rfl
  | true=>have:=(jG.1 h).2.2.2;rw[E.S] at this;cases this
 refine⟨⟨fun a h=>(by rw[hh] at h;cases h),fun a b h=>(by rw[hh] at h;cases h)⟩,fun a h=>(by rw[hh] at h;cases h),fun a h=>(by rw[hh] at h;cases h),?_,?_,?_,fun i _=>by rw[E.w],fun i _=>by rw[E.Q],fun i _=>by rw[E.bp],by rw[E.N];exact hn,by rw[E.bs],fun a h=>(by rw[hh] at h;cases h)⟩
 ·rw[E.M];intro p hp;cases hp
 ·rw[E.M];intro p hp;cases hp
 ·rw[E.M];exact .nil
structure Room (P:PH) (a:Int) (x:cO):Prop where
 v:x.valid=true
 a0:64≤a
 ae:a%2=0
 top:a+x.words≤64*P.N
 apart:∀ o,P.has o=true→a+x.words≤o∨o+P.size o≤a
theorem k_ {a n b:Int} (h:P.pA a n b=0):(0≤a∧a<64*P.N∧a%2=0)∧(if n≤32 then P.bs (a/64).toNat=1∧(a+n-1)/64=a/64 else P.bs (a/64).toNat=2∧a%64=0∧(P.span (a/64).toNat:Int)=(n+63)/64)∧P.kQ a b ((n+1)/2).toNat=false:=by
 unfold pA at h;by_cases h1:a<0∨a≥64*P.N∨a%2≠0
 ·rw[if_pos h1] at h;cases h
 ·rw[if_neg h1] at h;refine⟨by omega,?_⟩;by_cases hn:n≤32
  ·simp only[if_pos hn] at h ⊢;by_cases h2:P.bs (a/64).toNat≠1∨(a+n-1)/64≠a/64
   ·rw[if_pos h2] at h;cases h
   ·rw[if_neg h2] at h;refine⟨by omega,?_⟩;cases hh:P.kQ a b ((n+1)/2).toNat with
    | false=>rfl
    | true=>rw[hh,if_pos rfl] at h;cases h
  ·simp only[if_neg hn] at h ⊢;by_cases h2:P.bs (a/64).toNat≠2∨a%64≠0∨(P.span (a/64).toNat:Int)≠(n+63)/64
   ·rw[if_pos h2] at h;cases h
   ·rw[if_neg h2] at h;refine⟨by omega,?_⟩;cases hh:P.kQ a b ((n+1)/2).toNat with
    | false=>rfl
    | true=>rw[hh,if_pos rfl] at h;cases h
theorem ZY (G:P.bX) (hb0:P.bs 0=0) {a:Int} {x:cO} (h:P.qP a x=0):P.Room a x:=by
 unfold qP at h;split at h
 ·rename_i hv;obtain⟨w1,w2⟩:=cO.uC hv;have w3:=x.CZ;obtain⟨g1,g2,g3⟩:=k_ h;have hz:(a/64).toNat≠0:=fun e=>by
   rw[e] at g2;split at g2 <;> omega
  refine⟨hv,by omega,by omega,?_,fun o ho=>?_⟩
  ·by_cases hw:x.words≤32
   ·rw[if_pos hw] at g2;omega
   ·rw[if_neg hw] at g2;have:P.span (a/64).toNat≤P.N-(a/64).toNat:=by
     unfold span;split
     ·have:=SJ (bs:=P.bs) (p:=(a/64).toNat+1) (d:=P.N-((a/64).toNat+1));omega
     ·omega
    omega
  ·have hc:¬ ∃ o,P.has o=true∧o<a+x.words∧a<o+P.size o:=fun hc=>by
    rw[(Eu G (by omega) (by omega) w3.2.2 (by omega)).2 hc] at g3;cases g3
   by_cases h4:a+x.words≤o
   ·exact .inl h4
   ·exact .inr (Int.not_lt.1 fun h5=>hc ⟨o,ho,by omega,h5⟩)
 ·cases h
section
variable {a:Int} {x:cO}
theorem RP {i:Nat} (h1:i≠a.toNat) (h2:i≠(a+1).toNat):(P.place a x).w i=P.w i:=by
 show (if i=(a+1).toNat then x.num else if i=a.toNat then(P.born:Int)+1 else P.w i)=_;rw[if_neg h2,if_neg h1]
theorem ZO (h0:64≤a):(P.place a x).w a.toNat=(P.born:Int)+1:=by
 show (if a.toNat=(a+1).toNat then x.num else if a.toNat=a.toNat then(P.born:Int)+1 else P.w a.toNat)=_;rw[if_neg (by omega),if_pos rfl]
theorem rj (hv:x.valid=true):(P.place a x).shape a=x:=by
 show rZ (if (a+1).toNat=(a+1).toNat then x.num else _)=x;rw[if_pos rfl,aG6 hv]
theorem wH (R:P.Room a x) (b:Int):(P.place a x).has b=true↔(P.has b=true∨b=a):=by
 obtain⟨hv,h0,he,ht,_⟩:=R;have hw:=cO.uC hv;rw[jG,jG];show (0≤b∧b%2=0∧b/2<32*(P.N:Int)∧mR P.S (a/2).toNat 1 (b/2).toNat=1)↔_;unfold mR;constructor
 ·rintro⟨g1,g2,g3,g4⟩;split at g4
  ·exact .inr (by omega)
  ·exact .inl ⟨g1,g2,g3,g4⟩
 ·rintro(⟨g1,g2,g3,g4⟩ | rfl)
  ·refine⟨g1,g2,g3,?_⟩;split
   ·try rfl
   ·exact g4
  ·exact⟨by omega,he,by omega,by rw[if_pos rfl]⟩
theorem CC (G:P.bX) (R:P.Room a x) {b:Int} (hb:P.has b=true):(P.place a x).shape b=P.shape b∧(P.place a x).size b=P.size b∧∀ i:Nat,b≤i→(i:Int)<b+P.size b→(P.place a x).w i=P.w i:=by
 obtain⟨s1,s2,s3,s4,s5⟩:=size_pos G hb;have hw:=cO.uC R.v;have h0:=R.a0;have ha:=R.apart b hb;have e:∀ i:Nat,b≤i→(i:Int)<b+P.size b→(P.place a x).w i=P.w i:=fun i h1 h2=>RP (by omega) (by omega);have e1:(P.place a x).shape b=P.shape b:=by
  unfold shape;rw[e _ (by omega) (by omega)]
 exact⟨e1,by unfold size;rw[e1],e⟩
theorem ZP (hv:x.valid=true):(P.place a x).size a=x.words:=by unfold size;rw[rj hv]
theorem Inv.place (I:P.Inv) (R:P.Room a x):(P.place a x).Inv:=by
 have G:=I.bX;have hw:=cO.uC R.v;have hN:(P.place a x).N=P.N:=rfl;have na:P.has a=false:=by
  cases h:P.has a with
  | false=>rfl
  | true =>
   have:=R.apart a h;have:=size_pos G h;omega
 refine⟨⟨fun b hb=>?_,fun b c hb hc cD=>?_⟩,fun b hb=>?_,fun b hb=>?_,fun p hp=>?_,fun p hp=>?_,?_,fun i hi=>?_,fun i hi=>?_,fun i hi=>I.aT i hi,I.bY,I.b0,fun b hb=>?_⟩
 ·rcases(wH R b).1 hb with h | rfl
  ·obtain⟨e1,e2,e3⟩:=CC G R h;rw[e1,e2];exact G.val b h
  ·rw[rj R.v,ZP R.v];exact⟨R.v,R.top⟩
 ·rcases(wH R b).1 hb with h | rfl <;> rcases(wH R c).1 hc with k | rfl
  ·rw[(CC G R h).2.1];exact G.oJ b c h k cD
  ·rw[(CC G R h).2.1];have:=R.apart b h;omega
  ·rw[ZP R.v];have:=R.apart c k;have:=size_pos G k;omega
  ·omega
 ·show _∧_≤((P.born+1:Nat):Int);rcases(wH R b).1 hb with h | rfl
  ·obtain⟨s1,s2,s3,s4,s5⟩:=size_pos G h;rw[(CC G R h).2.2 _ (by omega) (by omega)];have:=I.id b h;omega
  ·rw[ZO R.a0];omega
 ·show (P.M++[((P.born:Int)+1,a)]).lookup _=_;rw[aBd];rcases(wH R b).1 hb with h | rfl
  ·obtain⟨s1,s2,s3,s4,s5⟩:=size_pos G h;rw[(CC G R h).2.2 _ (by omega) (by omega),I.M b h]
  ·rw[ZO R.a0,I.next,if_pos rfl]
 ·show p.1≤((P.born+1:Nat):Int);rcases List.mem_append.1 hp with h | h
  ·have:=I.Mk p h;omega
  ·cases List.mem_singleton.1 h;omega
 ·rcases List.mem_append.1 hp with h | h
  ·obtain⟨g1,g2⟩:=I.Mh p h;obtain⟨s1,s2,s3,s4,s5⟩:=size_pos G g1;exact⟨(wH R _).2 (.inl g1),by rw[(CC G R g1).2.2 _ (by omega) (by omega)];exact g2⟩
  ·cases List.mem_singleton.1 h;exact⟨(wH R _).2 (.inr rfl),ZO R.a0⟩
 ·show ((P.M++[((P.born:Int)+1,a)]).map Prod.fst).Nodup;rw[List.map_append,List.nodup_append];refine⟨I.Mn,by simp,fun u hu v hv=>?_⟩;obtain⟨p,hp,rfl⟩:=List.mem_map.1 hu;have:=I.Mk p hp;rw[List.map_cons,List.map_nil,List.mem_singleton] at hv;subst hv;omega
 ·have h1:=hi a ((wH R a).2 (.inr rfl));rw[ZP R.v] at h1;have h0:=R.a0;rw[RP (by omega) (by omega)];refine I.zero i fun o ho=>?_;have:=hi o ((wH R o).2 (.inl ho));rw[(CC G R ho).2.1] at this;exact this
 ·have h1:P.S i≠1:=by
   intro hc;apply hi;show mR P.S (a/2).toNat 1 i=1;unfold mR;split
   ·try rfl
   ·exact hc
  exact I.q i h1
 ·rcases(wH R b).1 hb with h | rfl
  ·exact I.z b h
  ·exact R.a0
end
theorem Inv.blocks (I:P.Inv) {f g:Nat→Int} (h:∀ i,f i=0→g i=0) (h0:f 0=0):({P with bs:=f,bp:=g}:PH).Inv :=
 ⟨⟨I.bX.val,I.bX.oJ⟩,I.id,I.M,I.Mk,I.Mh,I.Mn,I.zero,I.q,h,I.bY,h0,I.z⟩
theorem Inv.oA (I:P.Inv) {p k:Nat} (hp:1≤p) {x y u v:Int} (hx:x≠0) (hu:u=0→v=0):(P.oA p k x y u v).Inv:=by
 refine I.blocks (fun i hi=>?_) ?_;rotate_left
 ·unfold dM;rw[if_neg (by omega)];simp only;rw[if_neg (by omega)];exact I.b0
 unfold dM at hi ⊢;split at hi
 ·exact absurd hi hx
 ·rename_i hne;rw[if_neg hne];simp only at hi ⊢;split at hi
  ·rename_i h1;rw[if_pos h1];exact hu hi
  ·rename_i h1;rw[if_neg h1];exact I.aT i hi
end PH
open Go.Proofs
set_option maxRecDepth 100000
set_option maxHeartbeats 1000000
namespace PH
variable {P:PH}
def Body (P:PH) (o j:Int):Prop:=P.has o=true∧o+2≤j∧j<o+P.size o
section
variable {o j v:Int}
theorem IY {i:Nat} (h:i≠j.toNat):(P.eH j v).w i=P.w i:=by
 show (if i=j.toNat then v else P.w i)=_;rw[if_neg h]
theorem Pr:(P.eH j v).w j.toNat=v:=by
 show (if j.toNat=j.toNat then v else _)=_;rw[if_pos rfl]
theorem sy (b:Int):(P.eH j v).has b=P.has b:=rfl
theorem yv (G:P.bX) (B:P.Body o j) {b:Int} (hb:P.has b=true):b.toNat≠j.toNat∧(b+1).toNat≠j.toNat:=by
 obtain⟨h1,h2,h3⟩:=B;obtain⟨s1,s2,s3,s4,s5⟩:=size_pos G hb;obtain⟨t1,t2,t3,t4,t5⟩:=size_pos G h1;rcases Int.lt_trichotomy b o with h | h | h
 ·have:=G.oJ b o hb h1 h;omega
 ·omega
 ·have:=G.oJ o b h1 hb h;omega
theorem EY (G:P.bX) (B:P.Body o j) {b:Int} (hb:P.has b=true):(P.eH j v).shape b=P.shape b:=by
 unfold shape;rw[IY (yv G B hb).2]
theorem ta (G:P.bX) (B:P.Body o j) {b:Int} (hb:P.has b=true):(P.eH j v).size b=P.size b:=by
 unfold size;rw[EY G B hb]
theorem SD (G:P.bX) (B:P.Body o j) {b:Int} (hb:P.has b=true):(P.eH j v).w b.toNat=P.w b.toNat:=IY (yv G B hb).1
theorem Inv.eH (I:P.Inv) (B:P.Body o j):(P.eH j v).Inv:=by
 have G:=I.bX;refine⟨⟨fun b hb=>?_,fun b c hb hc cD=>?_⟩,fun b hb=>?_,fun b hb=>?_,I.Mk,fun p hp=>?_,I.Mn,fun i hi=>?_,I.q,I.aT,I.bY,I.b0,I.z⟩
 ·have hb:P.has b=true:=hb;rw[EY G B hb,ta G B hb];exact G.val b hb
 ·have hb:P.has b=true:=hb;rw[ta G B hb];exact G.oJ b c hb hc cD
 ·have hb:P.has b=true:=hb;rw[SD G B hb];exact I.id b hb
 ·have hb:P.has b=true:=hb;rw[SD G B hb];exact I.M b hb
 ·obtain⟨h1,h2⟩:=I.Mh p hp;exact⟨h1,by rw[SD G B h1];exact h2⟩
 ·have h2:∀ o,P.has o=true→¬ (o≤i∧(i:Int)<o+P.size o):=fun b hb=>by
   have:=hi b hb;rw[ta G B hb] at this;exact this
  have h3:=h2 o B.1;have:=B.2;have:=size_pos G B.1;rw[IY (by omega)];exact I.zero i h2
end
theorem Inv.fD (I:P.Inv) (a:Int) (v:Nat):(P.fD a v).Inv:=by
 unfold PH.fD;split
 ·rename_i h;refine⟨⟨I.bX.val,I.bX.oJ⟩,I.id,I.M,I.Mk,I.Mh,I.Mn,I.zero,fun i hi=>?_,I.aT,I.bY,I.b0,I.z⟩;have hi:P.S i≠1:=hi;show mR P.Q (a/2).toNat v i=0;unfold mR;rw[if_neg (fun e=>hi (by rw[e];exact(jG.1 h).2.2.2))];exact I.q i hi
 ·exact I
section
variable {a:Int}
theorem xV (h:P.has a=true) (b:Int):(P.kill a).has b=true↔(P.has b=true∧b≠a):=by
 have h0:=jG.1 h;rw[jG,jG];show (0≤b∧b%2=0∧b/2<32*(P.N:Int)∧mR P.S (a/2).toNat 0 (b/2).toNat=1)↔_;unfold mR;constructor
 ·rintro⟨g1,g2,g3,g4⟩;split at g4
  ·cases g4
  ·rename_i hne;exact⟨⟨g1,g2,g3,g4⟩,fun e=>hne (by rw[e])⟩
 ·rintro⟨⟨g1,g2,g3,g4⟩,hne⟩;refine⟨g1,g2,g3,?_⟩;rw[if_neg (by omega)];exact g4
theorem EH (G:P.bX) (h:P.has a=true) {b:Int} (hb:P.has b=true) (hne:b≠a):(P.kill a).shape b=P.shape b∧(P.kill a).size b=P.size b∧∀ i:Nat,b≤i→(i:Int)<b+P.size b→(P.kill a).w i=P.w i:=by
 obtain⟨s1,s2,s3,s4,s5⟩:=size_pos G hb;obtain⟨t1,t2,t3,t4,t5⟩:=size_pos G h;have e:∀ i:Nat,b≤i→(i:Int)<b+P.size b→(P.kill a).w i=P.w i:=fun i h1 h2=>by
  show (if a≤(i:Int)∧(i:Int)<a+P.size a then 0 else P.w i)=_;rw[if_neg];rintro⟨h3,h4⟩;rcases Int.lt_trichotomy b a with h' | h' | h'
  ·have:=G.oJ b a hb h h';omega
  ·omega
  ·have:=G.oJ a b h hb h';omega
 have e1:(P.kill a).shape b=P.shape b:=by
  unfold shape;rw[e _ (by omega) (by omega)]
 exact⟨e1,by unfold size;rw[e1],e⟩
theorem aBe {M:List (Int×Int)} {k k':Int} (h:k'≠k):(M.eraseP fun p=>p.1==k).lookup k'=M.lookup k':=by
 induction M with
 | nil=>rfl
 | cons p M ih =>
  rcases p with ⟨x,y⟩;by_cases hx:x=k
  ·rw[List.eraseP_cons_of_pos (by simpa using hx),List.lookup_cons,show (k'==x)=false from beq_eq_false_iff_ne.2 (by rw[hx];exact h)]
  ·rw[List.eraseP_cons_of_neg (by simpa using hx),List.lookup_cons,List.lookup_cons,ih]
theorem Zo {M:List (Int×Int)} {k:Int} (hn:(M.map Prod.fst).Nodup):∀ p∈M.eraseP (fun p=>p.1==k),p.1≠k:=by
 induction M with
 | nil=>intro p hp;cases hp
 | cons q M ih =>
  rcases q with ⟨x,y⟩;rw[List.map_cons,List.nodup_cons] at hn;intro p hp;by_cases hx:x=k
  ·rw[List.eraseP_cons_of_pos (by simpa using hx)] at hp;intro e;have hm:p.1∈M.map Prod.fst:=List.mem_map_of_mem hp;rw[e,← hx] at hm;exact hn.1 hm
  ·rw[List.eraseP_cons_of_neg (by simpa using hx)] at hp;rcases List.mem_cons.1 hp with rfl | hp
   ·exact hx
   ·exact ih hn.2 p hp
theorem Inv.kill (I:P.Inv) (h:P.has a=true):(P.kill a).Inv:=by
 have G:=I.bX;have Y9:∀ b,P.has b=true→b≠a→P.w b.toNat≠P.w a.toNat:=fun b hb hne e=>by
  have h1:=I.M b hb;rw[e,I.M a h] at h1;exact hne (Option.some.inj h1).symm
 refine⟨⟨fun b hb=>?_,fun b c hb hc cD=>?_⟩,fun b hb=>?_,fun b hb=>?_,fun p hp=>?_,fun p hp=>?_,?_,fun i hi=>?_,fun i hi=>?_,I.aT,I.bY,I.b0,fun b hb=>I.z b ((xV h b).1 hb).1⟩
 ·obtain⟨h1,h2⟩:=(xV h b).1 hb;obtain⟨e1,e2,e3⟩:=EH G h h1 h2;rw[e1,e2];exact G.val b h1
 ·obtain⟨h1,h2⟩:=(xV h b).1 hb;rw[(EH G h h1 h2).2.1];exact G.oJ b c h1 ((xV h c).1 hc).1 cD
 ·obtain⟨h1,h2⟩:=(xV h b).1 hb;obtain⟨s1,s2,s3,s4,s5⟩:=size_pos G h1;rw[(EH G h h1 h2).2.2 _ (by omega) (by omega)];exact I.id b h1
 ·obtain⟨h1,h2⟩:=(xV h b).1 hb;obtain⟨s1,s2,s3,s4,s5⟩:=size_pos G h1;rw[(EH G h h1 h2).2.2 _ (by omega) (by omega)];show (P.M.eraseP fun p=>p.1==P.w a.toNat).lookup _=_;rw[aBe (Y9 b h1 h2)];exact I.M b h1
 ·exact I.Mk p (List.mem_of_mem_eraseP hp)
 ·have hm:p∈P.M:=List.mem_of_mem_eraseP hp;have hne:=Zo I.Mn p hp;obtain⟨g1,g2⟩:=I.Mh p hm;have Fe:p.2≠a:=fun e=>hne (by rw[← g2,e]);obtain⟨s1,s2,s3,s4,s5⟩:=size_pos G g1;exact⟨(xV h _).2 ⟨g1,Fe⟩,by rw[(EH G h g1 Fe).2.2 _ (by omega) (by omega)];exact g2⟩
 ·exact I.Mn.sublist ((List.eraseP_sublist).map _)
 ·show (if a≤(i:Int)∧(i:Int)<a+P.size a then 0 else P.w i)=0;split
  ·try rfl
  ·rename_i hc;refine I.zero i fun o ho=>?_;by_cases kz:o=a
   ·rw[kz];exact hc
   ·have:=hi o ((xV h o).2 ⟨ho,kz⟩);rw[(EH G h ho kz).2.1] at this;exact this
 ·have hi:mR P.S (a/2).toNat 0 i≠1:=hi;show mR P.Q (a/2).toNat 0 i=0;unfold mR at hi ⊢;split
  ·try rfl
  ·rename_i hne;rw[if_neg hne] at hi;exact I.q i hi
end
end PH
open Go.Proofs
set_option maxRecDepth 100000
set_option maxHeartbeats 1000000
structure cS where
 a:Int
 id:Int
 sh:cO
 rn:Nat
 dn:Nat
 rs:List Int
 ds:List Int
 fD:Bool
def PH.words (P:PH) (j n:Int):List Int:=(List.range n.toNat).map fun i=>P.w (j.toNat+i)
structure cS.ok (P:PH) (o:cS):Prop where
 id:o.id=P.w o.a.toNat
 sh:o.sh=P.shape o.a
 rs:o.rs=P.words (o.a+2) o.sh.r
 ds:o.ds=P.words (o.a+2+o.sh.r) o.sh.d
 fD:o.fD=decide (P.Q (o.a/2).toNat=1)
structure gX (P:PH) (L:List cS):Prop where
 all:L.map cS.a=P.all
 ok:∀ o∈L,o.ok P
def below (L:List cS) (a:Int):Nat:=(L.takeWhile fun o=>decide (o.a<a)).length
def tV (L:List cS) (o:cS):List cS:=L.take (below L o.a)++[o]++L.drop (below L o.a)
theorem NP (P:PH) (j n:Int):(P.words j n).length=n.toNat:=by simp[PH.words]
theorem cj (P:PH) (j n:Int) {i:Nat} (h:i<n.toNat):(P.words j n)[i]?=some (P.w (j.toNat+i)):=by
 unfold PH.words;rw[List.getElem?_map,List.getElem?_range h];rfl
theorem uo {P P':PH} {j n:Int} (h:∀ i:Nat,i<n.toNat→P'.w (j.toNat+i)=P.w (j.toNat+i)):P'.words j n=P.words j n:=by
 unfold PH.words;exact List.map_congr_left fun i hi=>h i (List.mem_range.1 hi)
theorem aHf {P:PH} {j n v:Int} {i:Nat} (h:i<n.toNat) (h0:0≤j):(P.eH (j+i) v).words j n=(P.words j n).set i v:=by
 apply List.ext_getElem?;intro k;by_cases hk:k<n.toNat
 ·rw[cj _ _ _ hk,List.getElem?_set,NP];by_cases e:i=k
  ·subst e;rw[if_pos rfl,if_pos hk];show some (if j.toNat+i=(j+(i:Int)).toNat then v else _)=_;rw[if_pos (by omega)]
  ·rw[if_neg e,cj _ _ _ hk];show some (if j.toNat+k=(j+(i:Int)).toNat then v else _)=_;rw[if_neg (by omega)]
 ·rw[List.getElem?_eq_none (by rw[NP];omega),List.getElem?_eq_none (by rw[List.length_set,NP];omega)]
namespace gX
variable {P:PH} {L:List cS}
theorem mem (S:gX P L) {a:Int}:(∃ o∈L,o.a=a)↔P.has a=true:=by
 rw[← PH.pH,← S.all,List.mem_map]
theorem has (S:gX P L) {o:cS} (h:o∈L):P.has o.a=true:=S.mem.1 ⟨o,h,rfl⟩
theorem sorted (S:gX P L):(L.map cS.a).Pairwise (·<·):=by rw[S.all];exact PH.TM
theorem tc (S:gX P L) (G:P.bX) {o:cS} (h:o∈L):0≤o.sh.r∧o.sh.r≤15∧0≤o.sh.d∧o.sh.d≤200∧o.a+2+o.sh.r+o.sh.d≤o.a+P.size o.a:=by
 have h1:=S.has h;have h2:=G.val _ h1;have h3:=(S.ok o h).sh;have h4:=cO.uC h2.1;have h5:=cO.nX.1 h2.1;unfold PH.size;rw[h3];omega
theorem ZH {P':PH} (G:P.bX) (S:gX P L) {o:cS} (ho:o∈L) (h1:P'.shape o.a=P.shape o.a) (h2:∀ i:Nat,o.a≤i→(i:Int)<o.a+P.size o.a→P'.w i=P.w i) (h3:P'.Q (o.a/2).toNat=P.Q (o.a/2).toNat):o.ok P':=by
 obtain⟨s1,s2,s3,s4,s5⟩:=S.tc G ho;obtain⟨t1,t2,t3,t4,t5⟩:=PH.size_pos G (S.has ho);obtain⟨k1,k2,k3,k4,k5⟩:=S.ok o ho;refine⟨?_,?_,?_,?_,?_⟩
 ·rw[k1,h2 _ (by omega) (by omega)]
 ·rw[h1];exact k2
 ·rw[k3];exact(uo fun i hi=>h2 _ (by omega) (by omega)).symm
 ·rw[k4];exact(uo fun i hi=>h2 _ (by omega) (by omega)).symm
 ·rw[h3];exact k5
theorem eh:∀ {L:List cS} {a:Int},∀ o∈L.take (below L a),o.a<a
 | [],a,o,h=>by cases h
 | x::L,a,o,h=>by
  unfold below at h;rw[List.takeWhile_cons] at h;split at h
  ·rename_i hx;rw[List.length_cons,List.take_succ_cons] at h;rcases List.mem_cons.1 h with rfl | h
   ·exact of_decide_eq_true hx
   ·exact eh o h
  ·cases h
theorem ye:∀ {L:List cS} {a:Int},(L.map cS.a).Pairwise (·<·)→∀ o∈L.drop (below L a),a≤o.a
 | [],a,_,o,h=>by cases h
 | x::L,a,hp,o,h=>by
  rw[List.map_cons,List.pairwise_cons] at hp;unfold below at h;rw[List.takeWhile_cons] at h;split at h
  ·rw[List.length_cons,List.drop_succ_cons] at h;exact ye hp.2 o h
  ·rename_i hx;have hx:¬ x.a<a:=fun e=>hx (decide_eq_true e);rw[List.length_nil,List.drop_zero] at h;rcases List.mem_cons.1 h with rfl | h
   ·omega
   ·have:=hp.1 o.a (List.mem_map_of_mem h);omega
theorem IL {L:List cS} {o x:cS}:x∈tV L o↔x∈L∨x=o:=by
 unfold tV;rw[List.mem_append,List.mem_append,List.mem_singleton];have e:x∈L↔x∈L.take (below L o.a)∨x∈L.drop (below L o.a):=by rw[← List.mem_append,List.take_append_drop]
 rw[e];constructor
 ·rintro((h | h) | h)
  ·exact .inl (.inl h)
  ·exact .inr h
  ·exact .inl (.inr h)
 ·rintro((h | h) | h)
  ·exact .inl (.inl h)
  ·exact .inr h
  ·exact .inl (.inr h)
theorem aDw {L:List cS} {o:cS} (hL:(L.map cS.a).Pairwise (·<·)) (hn:∀ x∈L,x.a≠o.a):((tV L o).map cS.a).Pairwise (·<·):=by
 unfold tV;have h1:=eh (L:=L) (a:=o.a);have h2:=ye (a:=o.a) hL;have GR:=hL;rw[← List.take_append_drop (below L o.a) L,List.map_append,List.pairwise_append] at GR;rw[List.map_append,List.map_append,List.map_cons,List.map_nil,List.pairwise_append];refine⟨?_,GR.2.1,?_⟩
 ·rw[List.pairwise_append];refine⟨GR.1,List.pairwise_singleton ..,?_⟩;intro x hx y hy;obtain⟨u,hu,rfl⟩:=List.mem_map.1 hx;rw[List.mem_singleton] at hy;rw[hy];exact h1 u hu
 ·intro x hx y hy;obtain⟨v,hv,rfl⟩:=List.mem_map.1 hy;rcases List.mem_append.1 hx with hx | hx
  ·exact GR.2.2 x hx _ hy
  ·rw[List.mem_singleton] at hx;have:=h2 v hv;have:=hn v (List.mem_of_mem_drop hv);omega
theorem place (I:P.Inv) (S:gX P L) {a:Int} {x:cO} (R:P.Room a x) (rn dn:Nat):gX (P.place a x) (tV L ⟨a,(P.born:Int)+1,x,rn,dn,List.replicate x.r.toNat 0,List.replicate x.d.toNat 0,false⟩):=by
 have G:=I.bX;have hw:=cO.uC R.v;have hx:=cO.nX.1 R.v;have na:∀ o∈L,o.a≠a:=fun o ho e=>by
  have h:=S.has ho;rw[e] at h;have:=R.apart a h;have:=PH.size_pos G h;omega
 have nh:P.has a=false:=by
  cases h:P.has a with
  | false=>rfl
  | true=>obtain⟨o,ho,e⟩:=S.mem.2 h;exact absurd e (na o ho)
 refine⟨SG (aDw S.sorted na) PH.TM fun b=>?_,fun o ho=>?_⟩
 ·rw[PH.pH,PH.wH R,← S.mem,List.mem_map];constructor
  ·rintro⟨o,ho,rfl⟩;rcases IL.1 ho with h | h
   ·exact .inl ⟨o,h,rfl⟩
   ·exact .inr (by rw[h])
  ·rintro(⟨o,ho,rfl⟩ | rfl)
   ·exact⟨o,IL.2 (.inl ho),rfl⟩
   ·exact⟨_,IL.2 (.inr rfl),rfl⟩
 ·have hz:∀ i:Nat,a≤i→(i:Int)<a+x.words→P.w i=0:=fun i h1 h2=>I.zero i fun o ho=>by
   have:=R.apart o ho;omega
  have h0:=R.a0;rcases IL.1 ho with h | h
  ·obtain⟨e1,e2,e3⟩:=PH.CC G R (S.has h);exact S.ZH G h e1 e3 rfl
  ·rw[h];refine⟨(PH.ZO h0).symm,(PH.rj R.v).symm,?_,?_,?_⟩
   ·show List.replicate x.r.toNat 0=(P.place a x).words (a+2) x.r;apply List.ext_getElem?;intro i;by_cases hi:i<x.r.toNat
    ·rw[cj _ _ _ hi,List.getElem?_replicate,if_pos hi,PH.RP (by omega) (by omega),hz _ (by omega) (by omega)]
    ·rw[List.getElem?_eq_none (by rw[List.length_replicate];omega),List.getElem?_eq_none (by rw[NP];omega)]
   ·show List.replicate x.d.toNat 0=(P.place a x).words (a+2+x.r) x.d;apply List.ext_getElem?;intro i;by_cases hi:i<x.d.toNat
    ·rw[cj _ _ _ hi,List.getElem?_replicate,if_pos hi,PH.RP (by omega) (by omega),hz _ (by omega) (by omega)]
    ·rw[List.getElem?_eq_none (by rw[List.length_replicate];omega),List.getElem?_eq_none (by rw[NP];omega)]
   ·have:P.S (a/2).toNat≠1:=fun e=>by
     rw[PH.jG.2 ⟨by omega,R.ae,by have:=R.top;omega,e⟩] at nh;cases nh
    show false=decide (P.Q (a/2).toNat=1);rw[I.q _ this]
    try rfl
theorem kill (I:P.Inv) (S:gX P L) {i:Nat} (hi:i<L.length):gX (P.kill L[i].a) (L.eraseIdx i):=by
 have G:=I.bX;have hh:=S.has (List.getElem_mem hi);have hs:=S.sorted;have hs':((L.eraseIdx i).map cS.a).Pairwise (·<·):=List.Pairwise.sublist ((List.eraseIdx_sublist L i).map _) hs;have hne:∀ o∈L.eraseIdx i,o.a≠L[i].a:=fun o ho=>by
  rw[List.pairwise_map,List.pairwise_iff_getElem] at hs;obtain⟨j,hj,rfl⟩:=List.mem_iff_getElem.1 ho;rw[List.getElem_eraseIdx];rw[List.length_eraseIdx_of_lt hi] at hj;split
  ·have:=hs j i (by omega) hi (by omega);omega
  ·have:=hs i (j+1) hi (by omega) (by omega);omega
 refine⟨SG hs' PH.TM fun b=>?_,fun o ho=>?_⟩
 ·rw[PH.pH,PH.xV hh,← S.mem,List.mem_map];constructor
  ·rintro⟨o,ho,rfl⟩;exact⟨⟨o,List.mem_of_mem_eraseIdx ho,rfl⟩,hne o ho⟩
  ·rintro⟨⟨o,ho,rfl⟩,h2⟩;refine⟨o,List.mem_eraseIdx_iff_getElem.2 ?_,rfl⟩;obtain⟨j,hj,rfl⟩:=List.mem_iff_getElem.1 ho;exact⟨j,hj,fun e=>h2 (by subst e;rfl),rfl⟩
 ·have ho':=List.mem_of_mem_eraseIdx ho;obtain⟨e1,e2,e3⟩:=PH.EH G hh (S.has ho') (hne o ho);refine S.ZH G ho' e1 e3 ?_;show mR P.Q (L[i].a/2).toNat 0 (o.a/2).toNat=_;unfold mR;have g1:=PH.size_pos G hh;have g2:=PH.size_pos G (S.has ho');have:=hne o ho;rw[if_neg (by omega)]
theorem map_set {L:List cS} {i:Nat} {o:cS} (hi:i<L.length) (h:o.a=L[i].a):(L.set i o).map cS.a=L.map cS.a:=by
 apply List.ext_getElem?;intro j;rw[List.getElem?_map,List.getElem?_map,List.getElem?_set];split
 ·rename_i e;subst e
  first | rw[if_pos hi] | skip
  rw[List.getElem?_eq_getElem hi];simp[h]
 ·try rfl
theorem set {P':PH} (S:gX P L) {i:Nat} (hi:i<L.length) {o:cS} (ha:o.a=L[i].a) (hall:P'.all=P.all) (ho:o.ok P') (hr:∀ x∈L,x.a≠L[i].a→x.ok P'):gX P' (L.set i o):=by
 refine⟨by rw[map_set hi ha,hall];exact S.all,fun x hx=>?_⟩;obtain⟨j,hj,rfl⟩:=List.mem_iff_getElem.1 hx;rw[List.length_set] at hj;rw[List.getElem_set];split
 ·exact ho
 ·rename_i hne;refine hr _ (List.getElem_mem hj) fun e=>hne ?_;have hs:=S.sorted;rw[List.pairwise_map,List.pairwise_iff_getElem] at hs;rcases Nat.lt_trichotomy i j with h | h | h
  ·have:=hs i j hi hj h;omega
  ·exact h
  ·have:=hs j i hj hi h;omega
theorem setRef (I:P.Inv) (S:gX P L) {i k:Nat} (hi:i<L.length) (hk:k<L[i].sh.r.toNat) (v:Int):gX (P.eH (L[i].a+2+k) v) (L.set i {L[i] with rs:=L[i].rs.set k v}):=by
 have G:=I.bX;have hm:=List.getElem_mem hi;have hh:=S.has hm;obtain⟨s1,s2,s3,s4,s5⟩:=S.tc G hm;obtain⟨t1,t2,t3,t4,t5⟩:=PH.size_pos G hh;obtain⟨k1,k2,k3,k4,k5⟩:=S.ok _ hm;have B:P.Body L[i].a (L[i].a+2+k):=⟨hh,by omega,by omega⟩;refine S.set hi rfl rfl ⟨?_,?_,?_,?_,k5⟩ fun x hx hne=>?_
 ·rw[PH.SD G B hh];exact k1
 ·rw[PH.EY G B hh];exact k2
 ·show L[i].rs.set k v=_;rw[aHf hk (by omega),← k3]
 ·show L[i].ds=_;rw[k4];exact(uo fun i hi=>PH.IY (by omega)).symm
 ·have hx':=S.has hx;obtain⟨u1,u2,u3,u4,u5⟩:=PH.size_pos G hx';refine S.ZH G hx (PH.EY G B hx') (fun j h1 h2=>PH.IY ?_) rfl;rcases Int.lt_trichotomy x.a L[i].a with h | h | h
  ·have:=G.oJ _ _ hx' hh h;omega
  ·exact absurd h hne
  ·have:=G.oJ _ _ hh hx' h;omega
theorem fD (S:gX P L) (G:P.bX) {i:Nat} (hi:i<L.length) {v:Nat}:gX (P.fD L[i].a v) (L.set i {L[i] with fD:=decide (v=1)}):=by
 have hm:=List.getElem_mem hi;have hh:=S.has hm;obtain⟨k1,k2,k3,k4,k5⟩:=S.ok _ hm;have g1:=PH.size_pos G hh;unfold PH.fD;rw[if_pos hh];refine S.set hi rfl rfl ⟨k1,k2,k3,k4,?_⟩ fun x hx hne=>?_
 ·show decide (v=1)=decide (mR P.Q (L[i].a/2).toNat v (L[i].a/2).toNat=1);unfold mR;rw[if_pos rfl]
 ·have g2:=PH.size_pos G (S.has hx);refine S.ZH G hx rfl (fun _ _ _=>rfl) ?_;show mR P.Q (L[i].a/2).toNat v (x.a/2).toNat=_;unfold mR;rw[if_neg (by omega)]
end gX
end Go.Dust
