/- VerifyMarks walked in D, function by function, and its plain law (M11 M12 M13 M14 M15 N1 N2 N3). -/
import Derived.Test.YtaoiejcaopgjcaaGreatR
import Derived.Test.YtaoiejcaopgjcaaGreatL
set_option linter.unusedVariables false
set_option linter.unusedSimpArgs false
namespace Go.Dust
open Go.Proofs
set_option maxRecDepth 100000
set_option maxHeartbeats 2000000
def AE (P:PH) (K:List Int):Prop:=∀ x∈K,(P.aY x).k=2→P.ref x 0∈K→P.has (P.ref x 1)=true→P.ref x 1∈K
theorem Wj {P:PH} {L K:List Int} (hK:∀ x∈K,eU P L x):∀ x∈kQ P K (gB P K),P.has x=true→eU P L x:=by
 intro x hx hp;unfold kQ at hx;obtain⟨a,ha,rfl⟩:=List.mem_map.1 hx;obtain⟨h1,h2⟩:=List.mem_filter.1 ha;unfold FH at h2;rw[Bool.and_eq_true,Bool.and_eq_true,beq_iff_eq,List.contains_iff_mem] at h2;exact .uT (hK a (kz.1 h1).2.2) h2.1 (hK _ h2.2.2) hp
theorem Wh {P:PH} {L K:List Int} (hK:∀ x∈K,eU P L x) (h:∀ x∈kQ P K (gB P K),P.has x=true→x∈K):AE P K:=by
 intro x hx hk h0 hp;refine h _ ?_ hp;unfold kQ;refine List.mem_map.2 ⟨x,List.mem_filter.2 ⟨kz.2 ⟨P.qN.2 (hK x hx).has,(hK x hx).has,hx⟩,?_⟩,rfl⟩;unfold FH;rw[Bool.and_eq_true,Bool.and_eq_true,beq_iff_eq,List.contains_iff_mem];exact⟨hk,(hK _ h0).has,h0⟩
theorem Wf {P:PH} {s:St} {h:Nat} (H:bS s h P) (K l:List Int):∀ x∈kQ P K l,i64 x:=by
 intro x hx;unfold kQ at hx;obtain⟨a,_,rfl⟩:=List.mem_map.1 hx;unfold PH.ref;split
 ·exact H.wr _
 ·exact⟨by omega,by omega⟩
section
variable {kc:Kc} {q:Bool} {s:St} {Φ:Value→St→Prop} {m h t u lo:Nat} {P:PH} {L K:List Int}
theorem kO:type_of% (An @RX<|An @yP<|An @Ax<|An @aW<|An @jG<|An @CP<|An @kW<|An @CQ<|An @jX<|An @dG<|@dE):=An @RX<|An @yP<|An @Ax<|An @aW<|An @jG<|An @CP<|An @kW<|An @CQ<|An @jX<|An @dG<|@dE
theorem aD0 (hs:Ok s) (V:eO s m h t u lo [] P K []) (hlo:lo≤s.next) (I:mN P L K [])
  (hΦ:∀ s' F K' W' bb,eO s' m h t u lo [] P K' W'→mN P L K' W'→(∀ x∈K,x∈K')→(bb=false→K'=K∧W'=[]∧AE P K)→(bb=true→P.free K'<P.free K)→gV m u lo [] F→aC F s s'→Φ (.bool bb) s'):okF q X (KO kc) 138 [ptr m] s Φ:=by
 have bW:=V.H.bW;obtain⟨x9,l9,st⟩:=V.xj hs (i:=9) (by omega) (by omega);obtain⟨s1,e1,V1,k1⟩:=st (IntKind.i64.wrap (x9+1));have l0:=V1.l0;have l1:=V1.l1;have lt:=V.lt;have ks:aC [] s1 (s1.skip 22):=aC.skip k1.ok _;have ZQ:=V1.aD ks;have hml:=Hh P K;have hdl:=yp P K (gB P K);obtain⟨D,hD⟩:∃ D,D=kQ P K (gB P K):=⟨_,rfl⟩;refine aV rfl Zk rfl (rs:=[.tmp 2]) rfl (N:=37) rfl rfl ?_;refine aA fun bB aF aZ=>?_;simp only[kO,seval];refine aF _ _ ?_;refine aA fun Ψ1 aE aK=>?_;simp only[kO,seval,l9,bJ,Nat.add_zero,Nat.zero_add,e1];refine aE _ _ ?_;refine aA fun Ψ2 aH bM=>?_;simp only[kO,seval];refine aH _ _ ?_;refine aA fun Ψ3 aM bN=>?_;refine aA fun Ψ4 aQ bZ=>?_;refine dH [] [] [] (by kernel_rfl) (by kernel_rfl) (by rfl) fun O hO bK hR=>?_;simp only[kO,seval,l0,l1,bJ,Nat.add_zero,Nat.zero_add];refine eQ ?_ (aI8 ks.ok ZQ.H ZQ.G ZQ.M fun s2 va vn vc b2 hn2 GI k2=>?_)
 ·simp only[kO,seval]
 rw[← hD] at b2 hn2 hdl;subst hn2;simp only[kO,seval];refine hR _ _ (aQ _ _ ?_);have k12:aC [] s1 s2:=ks.trans k2;have OT:=k1.next;have mh:=k12.next;have Dt:∀ b∈nameOf (.slice va D.length vc),s1.next≤b:=fun b hb=>by have:=GI b hb;have:=ks.next;omega
 have V2:eO s2 m h t u lo (nameOf (.slice va D.length vc)) P K []:=V1.off k1.ok k12 Dt;have hav:∀ x∈nameOf (.slice va D.length vc),x<s2.next:=b2.lt k2.ok;refine cB fun cP bI oH cF=>?_;refine qP (n:=D.length) (fun j a' s'=>∃ F bb,a'.aB 0=ptr m∧a'.aB 3=.bool bb∧a'.aB 23=.slice va D.length vc∧a'.aB 24=int D.length∧a'.aB 25=int j∧eO s' m h t u lo (nameOf (.slice va D.length vc)) P ((D.take j).foldl (eY P) (K,[])).1 ((D.take j).foldl (eY P) (K,[])).2∧(bb=false→(D.take j).foldl (eY P) (K,[])=(K,[]))∧(bb=true→P.free ((D.take j).foldl (eY P) (K,[])).1<P.free K)∧gV m u lo (nameOf (.slice va D.length vc)) F∧aC F s2 s')
  (fun j a' s'=>∃ F bb,a'.aB 0=ptr m∧a'.aB 3=.bool bb∧a'.aB 23=.slice va D.length vc∧a'.aB 24=int D.length∧a'.aB 25=int j∧eO s' m h t u lo (nameOf (.slice va D.length vc)) P ((D.take (j+1)).foldl (eY P) (K,[])).1 ((D.take (j+1)).foldl (eY P) (K,[])).2∧(bb=false→(D.take (j+1)).foldl (eY P) (K,[])=(K,[]))∧(bb=true→P.free ((D.take (j+1)).foldl (eY P) (K,[])).1<P.free K)∧gV m u lo (nameOf (.slice va D.length vc)) F∧aC F s2 s') ?_ ?_ ?_ ?_ (Nat.zero_le _) ?_
 ·rintro j a' s' hj ⟨F,bb,r0,r3,EB,EC,BK,hV,hf,ht,hF,hk⟩ aR bH;simp only[kO,seval,EC,BK];refine bH _ _ (decide ((j:Int)<D.length)) ?_ (by simp) ⟨F,bb,?_,?_,?_,?_,?_,hV,hf,ht,hF,hk⟩
  all_goals simp only[kO,seval,r0,r3,EB,EC,BK]
 ·rintro j a' s' hj ⟨F,bb,r0,r3,EB,EC,BK,hV,hf,ht,hF,hk⟩ aR h1 h2 h3;obtain⟨vb,dM,rfl⟩:=b2.sl.addr (show 0<D.length by omega);have g1:(0:Int)≤(j:Int):=Int.natCast_nonneg _;have g2:(j:Int)<((D.length:Nat):Int):=by omega
  have FT:vb∉F:=fun hh=>by
   have Eg:=Dt vb (by simp[nameOf]);rcases hF vb hh with h | h | h
   ·omega
   ·omega
   ·exact h.2 (by simp[nameOf])
  have lj:aI s'.look ⟨vb,dM+j,none⟩=some (int (D[j]'hj)):=by
   refine(b2.sl.aD hk (fun x hx=>by simp[nameOf] at hx;rw[hx];exact FT)).load (i:=j) ?_;rw[List.getElem?_map,List.getElem?_eq_getElem hj];rfl
  have hi:i64 (D[j]'hj):=Wf V.H K (gB P K) _ (by rw[← hD];exact List.getElem_mem _);have hroom:=HM (D.take j) (K,[]) I.room;have hst:(D.take (j+1)).foldl (eY P) (K,[])=eY P ((D.take j).foldl (eY P) (K,[])) (D[j]'hj):=by
   rw[List.take_add_one,List.getElem?_eq_getElem hj,List.foldl_append];rfl
  refine aA fun dK bO cV=>?_;simp only[kO,seval,EB,BK,g1,g2,and_self,bJ,Int.toNat_natCast,Nat.mul_one,lj];refine bO _ _ ?_;refine cK [(3,32)] (by kernel_rfl) fun O hO bK hR=>?_;have y3:∀ a,aN O a 3=bC (a.aB 32):=hO (3,32) (by simp);simp only[kO,seval,r0];refine aJ ?_ (lz hk.ok hV (by have:=hk.next;omega) (fun x hx=>by have:=hav x hx;have:=hk.next;omega) (by omega) _ hi fun s5 F5 V5 JH k5=>?_)
  ·simp only[kO,seval]
  have Dn:aC (F++F5) s2 s5:=(hk.mono fun x hx=>List.mem_append_left _ hx).trans (k5.mono fun x hx=>List.mem_append_right _ hx);cases hb:nV P ((D.take j).foldl (eY P) (K,[])).1 (D[j]'hj) with
  | true =>
   simp only[kO,seval,y3];refine hR _ _ (h1 _ _ ⟨F++F5,true,?_,?_,?_,?_,?_,by rw[hst];exact V5,(fun h=>by cases h),fun _=>?_,hF.app JH,Dn⟩)
   ·simp only[kO,seval,r0]
   ·simp only[kO,seval]
   ·simp only[kO,seval,EB]
   ·simp only[kO,seval,EC]
   ·simp only[kO,seval,BK]
   ·rw[hst,XO hb];unfold nV at hb;rw[Bool.and_eq_true,Bool.not_eq_true'] at hb;have h4:=PH.FM hb.1 hb.2;have h5:=P.TX (steps (P:=P) (D.take j) (K,[])).sub;exact Nat.lt_of_lt_of_le h4 h5
  | false =>
   have ho:=XP hb;simp only[kO,seval,y3,r3];refine hR _ _ (h1 _ _ ⟨F++F5,bb,?_,?_,?_,?_,?_,by rw[hst];exact V5,(fun h=>by rw[hst,ho];exact hf h),(fun h=>by rw[hst,ho];exact ht h),hF.app JH,Dn⟩)
   ·simp only[kO,seval,r0]
   ·simp only[kO,seval]
   ·simp only[kO,seval,EB]
   ·simp only[kO,seval,EC]
   ·simp only[kO,seval,BK]
 ·rintro j a' s' hj ⟨F,bb,r0,r3,EB,EC,BK,hV,hf,ht,hF,hk⟩ aR h1;have w:IntKind.i64.wrap ((j:Int)+1)=((j+1:Nat):Int):=by rw[aU (by omega) (by omega)];rfl
  simp only[kO,seval,BK,w];refine h1 _ _ ⟨F,bb,?_,?_,?_,?_,?_,hV,hf,ht,hF,hk⟩
  all_goals try simp only[kO,seval,r0,r3,EB,EC]
 ·rintro a' s' ⟨F,bb,r0,r3,EB,EC,BK,hV,hf,ht,hF,hk⟩;rw[List.take_of_length_le (Nat.le_refl _)] at hV hf ht;refine oH _ _ (aM _ _ ?_);simp only[kO,seval,r3];refine hΦ s' (m::F) _ _ bb (hV.less fun x hx=>by cases hx) (I.reach D (by rw[hD];exact Wj I.pB)) (steps (P:=P) D (K,[])).sub (fun h=>?_) ht (fun x hx=>?_) ?_
  ·have he:=hf h;refine⟨congrArg Prod.fst he,congrArg Prod.snd he,Wh I.pB fun x hx hp=>?_⟩;rw[← hD] at hx;have:=(steps (P:=P) D (K,[])).all x hx hp;rw[he] at this;exact this
  ·rcases List.mem_cons.1 hx with h | h
   ·exact .inl h
   ·exact(hF.less fun x hx=>by cases hx) x h
  ·exact(k1.mono fun x hx=>by rw[List.mem_singleton.1 hx];simp).trans (k12.any.trans (hk.mono fun x hx=>List.mem_cons_of_mem _ hx))
 ·refine⟨[],false,?_,?_,?_,?_,?_,V2,fun _=>rfl,fun h=>(by cases h),gV.nil,.refl k2.ok⟩
  all_goals try simp only[kO,seval]
  all_goals rfl
end
open Go.Proofs
set_option maxRecDepth 100000
set_option maxHeartbeats 2000000
section
variable {kc:Kc} {q:Bool} {s:St} {Φ:Value→St→Prop} {h r:Nat} {P:PH} {R:PR}
theorem eK:type_of% (An @RX<|An @RU<|An @uy<|An @YM<|An @uk<|An @DN<|An @DC<|An @mC<|An @yD<|An @zU<|An @CQ<|An @jX<|An @yP<|@Gg):=An @RX<|An @RU<|An @uy<|An @YM<|An @uk<|An @DN<|An @DC<|An @mC<|An @yD<|An @zU<|An @CQ<|An @jX<|An @yP<|@Gg
theorem aI5 (hs:Ok s) (H:bS s h P) (G:P.cM) (A:dV s r R) (hm:0<R.m)
  (hΦ:∀ s' t u K a b c d e,sZ s' t u P K→mN P (R.all.map R.get) K []→AE P K→(∀ x∈R.all.map R.get,P.has x=true→x∈K)→s.next≤t→s.next≤u→aC [] s s'→Φ (.tuple #[ptr t,.agg #[int a,int b,int c,int d,int e],int 0]) s'):okF q X (KO kc) 48 [ptr h,ptr r,int 0,int 4096] s Φ:=by
 have bW:=H.bW;obtain⟨s1,e1,k1,c1,n1⟩:=cA hs (L:=[int 0,int 0,int 0,int 0,int 0]) (n:=5) (e:=92) rfl;refine aV rfl F7 rfl (rs:=[.tmp 8,.cell 9 92,.tmp 10]) rfl (N:=75) rfl rfl ?_;refine aA fun bB aF aZ=>?_;simp only[eK,seval];rw[e1]
 try simp only[eK,seval]
 refine aF _ _ ?_;refine aA fun Ψ1 aE aK=>?_;refine aA fun Ψ2 aH bM=>?_;refine cK [(4,20),(8,24),(12,28),(16,32)] (by kernel_rfl) fun O hO bK hR=>?_;have y4:∀ a,aN O a 4=bC (a.aB 20):=hO (4,20) (by simp);have y8:∀ a,aN O a 8=bC (a.aB 24):=hO (8,24) (by simp);have ID:∀ a,aN O a 12=bC (a.aB 28):=hO (12,28) (by simp);have y16:∀ a,aN O a 16=bC (a.aB 32):=hO (16,32) (by simp);simp only[eK,seval];refine aJ ?_ (aI9 k1.ok (H.aL k1) (A.aL k1) ?_)
 ·simp only[eK,seval]
 rw[decide_eq_true hm];have d1:decide ((0:Int)<0)=false:=rfl;have d2:decide ((0:Int)>1)=false:=rfl;have d3:decide ((4096:Int)<1)=false:=rfl;have d4:decide ((4096:Int)>4096)=false:=rfl;simp only[eK,seval,y4,y8,ID,y16,d1,d2,d3,d4,decide_false];refine hR _ _ (aH _ _ ?_);simp only[eK,seval];refine aE _ _ ?_;refine aA fun Ψ3 aM bN=>?_;simp only[eK,seval];refine aJ ?_ (aId k1.ok (H.aL k1) fun s2 t u ht hu M2 k2=>?_)
 ·simp only[eK,seval]
 obtain⟨s3,e3,k3,c3,n3⟩:=cA k2.ok (L:=[ptr h,ptr t,.slice none 0 0,int 0,int 4096,.bool false,int 0,int 0,int 0,int 0,int 0]) (n:=11) (e:=174) rfl;simp only[eK,seval];rw[e3]
 try simp only[eK,seval]
 refine aM _ _ ?_;have k12:=k1.trans k2;have mB:=k12.trans k3;have hf:=H.gO hs;have OT:=k1.next;have mh:=k2.next;have V3:eO s3 s2.next h t u s3.next [] P [] []:=by
  have M3:=M2.aD k3 (by simp) (by simp);obtain⟨U,hU,_⟩:=M2.ws;have ht2:=M2.c.lt k2.ok;have hu2:=hU.lt k2.ok;refine⟨H.aL mB,G,M3,⟨none,0,0,0,0,0,0,c3,.nil,by simp[nameOf]⟩,fun x hx=>by have:=hf x hx;omega,⟨by omega,by omega,by omega⟩,fun hh=>?_,fun hh=>?_,fun hh=>?_,by omega,by omega⟩
  ·have:=hf _ hh;omega
  ·have:=hf _ hh;omega
  ·have:=hf _ hh;omega
 have I3:mN P (R.all.map R.get) [] []:=⟨fun _ h=>(by cases h),fun _ h=>(by cases h),fun _ h=>(by cases h),by have:=P.JE [];simpa using this⟩;refine aA fun Ψ4 aQ bZ=>?_;refine aA fun cP bI cF=>?_;simp only[eK,seval];refine aJ ?_ (Ll mB.ok (A.aL mB) ?_)
 ·simp only[eK,seval]
 rintro v s4 b4 ⟨va,vc,rfl⟩ k4 NU
 try simp only[eK,seval]
 refine bI _ _ ?_;have V4:eO s4 s2.next h t u s3.next (nameOf (.slice va R.all.length vc)) P [] []:=V3.off k3.ok k4 NU;have hav:∀ x∈nameOf (.slice va R.all.length vc),x<s4.next:=b4.lt k4.ok;have n34:=k4.next;have lt:=V3.lt;have hal:=R.tB A.m4 A.ql;have JO:=A.gO hs;have A4:∀ F s',gV s2.next u s3.next (nameOf (.slice va R.all.length vc)) F→aC F s4 s'→dV s' r R:=fun F s' hF hk=>(A.aL (mB.trans k4)).aD hk fun y hy hy'=>by
  have:=JO y hy;rcases hF y hy' with h | h | h
  ·omega
  ·omega
  ·omega
 have hlm:∀ j,((R.all.map R.get).take j)=(R.all.take j).map R.get:=fun j=>List.map_take.symm;refine cB fun dK bO pA cV=>?_;refine qP (n:=R.all.length) (fun j a' s'=>∃ F,a'.aB 1=ptr r∧a'.aB 9=ptr s.next∧a'.aB 11=ptr s2.next∧a'.aB 45=.slice va R.all.length vc∧a'.aB 46=int R.all.length∧a'.aB 47=int j∧eO s' s2.next h t u s3.next (nameOf (.slice va R.all.length vc)) P (((R.all.map R.get).take j).foldl (eY P) ([],[])).1 (((R.all.map R.get).take j).foldl (eY P) ([],[])).2∧gV s2.next u s3.next (nameOf (.slice va R.all.length vc)) F∧aC F s4 s')
  (fun j a' s'=>∃ F,a'.aB 1=ptr r∧a'.aB 9=ptr s.next∧a'.aB 11=ptr s2.next∧a'.aB 45=.slice va R.all.length vc∧a'.aB 46=int R.all.length∧a'.aB 47=int j∧eO s' s2.next h t u s3.next (nameOf (.slice va R.all.length vc)) P (((R.all.map R.get).take (j+1)).foldl (eY P) ([],[])).1 (((R.all.map R.get).take (j+1)).foldl (eY P) ([],[])).2∧gV s2.next u s3.next (nameOf (.slice va R.all.length vc)) F∧aC F s4 s') ?_ ?_ ?_ ?_ (Nat.zero_le _) ?_
 ·rintro j a' s' hj ⟨F,r1,r9,dZ,jQ,HJ,ED,hV,hF,hk⟩ aR bH;simp only[eK,seval,HJ,ED];refine bH _ _ (decide ((j:Int)<R.all.length)) ?_ (by simp) ⟨F,?_,?_,?_,?_,?_,?_,hV,hF,hk⟩
  all_goals simp only[eK,seval,r1,r9,dZ,jQ,HJ,ED]
 ·rintro j a' s' hj ⟨F,r1,r9,dZ,jQ,HJ,ED,hV,hF,hk⟩ aR h1 h2 h3;obtain⟨vb,dM,rfl⟩:=b4.sl.addr (show 0<R.all.length by omega);have g1:(0:Int)≤(j:Int):=Int.natCast_nonneg _;have g2:(j:Int)<((R.all.length:Nat):Int):=by omega
  have FT:vb∉F:=fun hh=>by
   have Eg:=NU vb (by simp[nameOf]);rcases hF vb hh with h | h | h
   ·omega
   ·omega
   ·exact h.2 (by simp[nameOf])
  obtain⟨p,hp⟩:∃ p,p=R.all[j]:=⟨_,rfl⟩;have lj:bD s'.look ⟨vb,dM+j*3,none⟩ 3=some [int p.k,int p.m,int p.i]:=by
   have:=(b4.sl.aD hk (fun b hb hb'=>by simp[nameOf] at hb;rw[hb] at hb';exact FT hb')).bD (i:=j*3) (k:=3) (by omega) (by rw[TV];omega);rw[TW _ hj,← hp] at this;exact this
  have yW:=R.RY (p:=p) (by rw[hp];exact List.getElem_mem _);have hst:((R.all.map R.get).take (j+1)).foldl (eY P) ([],[])=eY P (((R.all.map R.get).take j).foldl (eY P) ([],[])) (R.get p):=by
   rw[List.take_add_one,List.getElem?_map,List.getElem?_eq_getElem hj,← hp,List.foldl_append];rfl
  have hroom:=HM ((R.all.map R.get).take j) ([],[]) I3.room;refine aA fun fJ cC eF=>?_;obtain⟨t1,e1',u1,Vm,v1⟩:=cA hk.ok (L:=[int 0,int 0,int 0]) (n:=3) (e:=118) rfl;obtain⟨t2,uS,Vn,u2⟩:=Vm.storeAll u1.ok (vs:=[int p.k,int p.m,int p.i]) rfl rfl;have BZ:aC [] s' t2:=u1.step u2 fun g hg=>.inr (by rw[List.mem_singleton.1 hg];exact hk.ok.fresh _ (Nat.le_refl _));simp only[eK,seval,jQ,ED,g1,g2,and_self,bJ,Int.toNat_natCast,lj];rw[e1',uS];simp only[eK,seval];refine cC _ _ ?_;have lp:=Vn.bD (i:=0) (k:=3) (Nat.le_refl _);refine aA fun jC dA iI=>?_;simp only[eK,seval,r1,lp,List.drop_zero,List.take];refine aJ ?_ (Lk BZ.ok ((A4 F s' hF hk).aL BZ) p fun s5 k5=>?_)
  ·simp only[eK,seval]
  rw[if_pos yW,if_pos yW]
  try simp only[eK,seval]
  refine dA _ _ ?_;have Qm:=BZ.trans k5;have wL:=hk.trans Qm.any;simp only[eK,seval,dZ];refine aJ ?_ (lz k5.ok (hV.aD Qm) (by have:=wL.next;omega) (fun x hx=>by have:=hav x hx;have:=wL.next;omega) (by omega) _ (PR.Bw A p) fun s6 F6 V6 JI k6=>?_)
  ·simp only[eK,seval]
  simp only[eK,seval];refine h1 _ _ ⟨F++F6,?_,?_,?_,?_,?_,?_,by rw[hst];exact V6,hF.app JI,(wL.mono fun x hx=>List.mem_append_left _ hx).trans (k6.mono fun x hx=>List.mem_append_right _ hx)⟩
  ·simp only[eK,seval,r1]
  ·simp only[eK,seval,r9]
  ·simp only[eK,seval,dZ]
  ·simp only[eK,seval,jQ]
  ·simp only[eK,seval,HJ]
  ·simp only[eK,seval,ED]
 ·rintro j a' s' hj ⟨F,r1,r9,dZ,jQ,HJ,ED,hV,hF,hk⟩ aR h1;have w:IntKind.i64.wrap ((j:Int)+1)=((j+1:Nat):Int):=by rw[aU (by omega) (by omega)];rfl
  simp only[eK,seval,ED,w];refine h1 _ _ ⟨F,?_,?_,?_,?_,?_,?_,hV,hF,hk⟩
  all_goals try simp only[eK,seval,r1,r9,dZ,jQ,HJ]
 ·rintro a' s' ⟨F,r1,r9,dZ,jQ,HJ,ED,hV,hF,hk⟩;rw[List.take_of_length_le (by rw[List.length_map];omega)] at hV;refine pA _ _ (aQ _ _ ?_);have I4:=I3.reach (R.all.map R.get) fun x hx hp=>.root hx hp;have S4:=(steps (P:=P) (R.all.map R.get) ([],[])).all;have V5:=hV.less (av':=[]) fun x hx=>by cases hx
  have FQ:=hF.less (av':=[]) fun x hx=>by cases hx
  have hlo:∀ F s',aC F s4 s'→s3.next≤s'.next:=fun F s' k=>by have:=k.next;omega
  refine aA fun mZ eB nH=>?_;simp only[eK,seval,dZ];refine aJ ?_ (Ht hk.ok V5 (hlo _ _ hk) I4 fun s5 F5 K5 V5 I5 aHu JH k5=>?_)
  ·simp only[eK,seval]
  try simp only[eK,seval]
  refine eB _ _ ?_;have wL:aC (F++F5) s4 s5:=(hk.mono fun x hx=>List.mem_append_left _ hx).trans (k5.mono fun x hx=>List.mem_append_right _ hx);refine aA fun rS kL qK=>?_;refine cB fun uH kV ie tJ=>?_;refine PG (fun k a' s'=>∃ F K1,a'.aB 9=ptr s.next∧a'.aB 11=ptr s2.next∧eO s' s2.next h t u s3.next [] P K1 []∧mN P (R.all.map R.get) K1 []∧(∀ x∈K5,x∈K1)∧P.free K1=k∧gV s2.next u s3.next [] F∧aC F s4 s')
   (fun k a' s'=>∃ F K1 W1,a'.aB 9=ptr s.next∧a'.aB 11=ptr s2.next∧eO s' s2.next h t u s3.next [] P K1 W1∧mN P (R.all.map R.get) K1 W1∧(∀ x∈K5,x∈K1)∧P.free K1<k∧gV s2.next u s3.next [] F∧aC F s4 s')
   (fun a' s'=>∃ F K1,a'.aB 9=ptr s.next∧a'.aB 11=ptr s2.next∧eO s' s2.next h t u s3.next [] P K1 []∧mN P (R.all.map R.get) K1 []∧(∀ x∈K5,x∈K1)∧AE P K1∧gV s2.next u s3.next [] F∧aC F s4 s') ?_ ?_ ?_ (k0:=P.free K5) ?_
  ·rintro k a' s' ⟨F,K1,r9,dZ,hV,hI,hsub,JO,hF,hk⟩ aR bH;simp only[eK,seval,dZ];refine aJ ?_ (aD0 hk.ok hV (hlo _ _ hk) hI fun s6 F6 K6 W6 bb V6 I6 YQ NQ Ee JI k6=>?_)
   ·simp only[eK,seval]
   simp only[eK,seval];have pP:aC (F++F6) s4 s6:=(hk.mono fun x hx=>List.mem_append_left _ hx).trans (k6.mono fun x hx=>List.mem_append_right _ hx);refine bH _ _ bb ?_ (fun hb=>?_) (fun hb=>?_)
   ·simp only[eK,seval]
   ·refine⟨F++F6,K6,W6,?_,?_,V6,I6,fun x hx=>YQ x (hsub x hx),by have:=Ee hb;omega,hF.app JI,pP⟩
    all_goals simp only[eK,seval,r9,dZ]
   ·obtain⟨rfl,rfl,hdi⟩:=NQ hb;refine⟨F++F6,K6,?_,?_,V6,I6,hsub,hdi,hF.app JI,pP⟩
    all_goals simp only[eK,seval,r9,dZ]
  ·rintro k a' s' ⟨F,K1,W1,r9,dZ,hV,hI,hsub,JO,hF,hk⟩ aR h1 h2 h3;simp only[eK,seval,dZ];refine aJ ?_ (Ht hk.ok hV (hlo _ _ hk) hI fun s6 F6 K6 V6 I6 YQ JI k6=>?_)
   ·simp only[eK,seval]
   try simp only[eK,seval]
   refine h1 _ _ (P.free K6) (Nat.lt_of_le_of_lt (P.TX YQ) JO) ⟨F++F6,K6,?_,?_,V6,I6,fun x hx=>YQ x (hsub x hx),rfl,hF.app JI,(hk.mono fun x hx=>List.mem_append_left _ hx).trans (k6.mono fun x hx=>List.mem_append_right _ hx)⟩
   all_goals try simp only[eK,seval,r9,dZ]
  ·rintro a' s' ⟨F,K1,r9,dZ,hV,hI,hsub,hdi,hF,hk⟩;refine ie _ _ (kL _ _ ?_);obtain⟨ja,jc,a,b,c,d,e,o1,_⟩:=hV.o;have ks:aC [] s' (s'.skip 22):=aC.skip hk.ok _;have l1:=hV.l1;have l6:bD s'.look ⟨s2.next,6,none⟩ 5=some [int a,int b,int c,int d,int e]:=o1.bD (i:=6) (k:=5) (Nat.le_refl _);have hsF:s.next∉F:=fun hh=>by
    rcases hF _ hh with h | h | h
    ·omega
    ·omega
    ·omega
   have cT:=(((c1.aD k2 (by simp)).aD (k3.trans k4) (by simp)).aD hk hsF).aD ks (by simp);obtain⟨s7,e7,c7,k7⟩:=cT.storeAll ks.ok (vs:=[int a,int b,int c,int d,int e]) rfl rfl;have l7:bD s7.look ⟨s.next,0,none⟩ 5=some [int a,int b,int c,int d,int e]:=c7.bD (i:=0) (k:=5) (Nat.le_refl _);have t0:s.next≤t:=by omega
   have hkk:aC F s' s':=.refl hk.ok;refine aA fun AA oF yX=>?_;refine dH [] [] [] (by kernel_rfl) (by kernel_rfl) (by rfl) fun O hO bK hR=>?_;simp only[eK,seval,r9,dZ,l1,l6,bJ,Nat.zero_add,e7];refine hR _ _ (oF _ _ ?_);simp only[eK,seval,r9,l7];have kA:aC [] s s':=(mB.trans k4).step hk fun g hg=>.inr (hs.fresh g (by
    rcases hF g hg with h | h | h
    ·omega
    ·omega
    ·omega))
   have kB:aC [] s s7:=(kA.trans ks).step k7 fun g hg=>.inr (hs.fresh g (by rw[List.mem_singleton.1 hg];omega));exact hΦ s7 t u K1 a b c d e ((hV.M.aD ks (by simp) (by simp)).aD k7 (by simp;omega) (by simp;omega)) hI hdi (fun x hx hp=>hsub x (aHu x (S4 x hx hp))) t0 (by omega) kB
  ·refine⟨F++F5,K5,?_,?_,V5,I5,fun _ h=>h,rfl,FQ.app JH,wL⟩
   all_goals try simp only[eK,seval,r9,dZ]
 ·refine⟨[],?_,?_,?_,?_,?_,?_,V4,gV.nil,.refl k4.ok⟩
  all_goals try simp only[eK,seval]
  all_goals rfl
end
open Go.Proofs
set_option maxRecDepth 100000
set_option maxHeartbeats 2000000
theorem Ft {P:PH} {L K:List Int} (I:mN P L K []) (hd:AE P K) (hr:∀ x∈L,P.has x=true→x∈K) {x:Int}:x∈K↔eU P L x:=by
 refine⟨I.pB x,fun h=>?_⟩
 induction h with
 | root h1 h2=>exact hr _ h1 h2
 | dJ _ h2 h3 ih=>exact I.cl _ ih (by simp) _ h2 h3
 | uT _ h2 _ h4 ih1 ih2=>exact hd _ ih1 h2 ih2 h4
theorem Ho {P:PH} {a y:Int} (h0:P.has 0=false) (hy:P.has y=true):y∈P.gW a↔y∈P.dJ a:=by
 rw[P.WE];unfold PH.gW PH.pW;rw[List.mem_map];constructor
 ·rintro⟨i,hi,rfl⟩;obtain⟨h1,h2⟩:=List.mem_filter.1 hi;unfold PH.wI at h2;rw[Bool.and_eq_true,Bool.not_eq_true',Bool.not_eq_true'] at h2;exact⟨i,List.mem_range.1 h1,h2.2,rfl⟩
 ·rintro⟨i,hi,hs,rfl⟩;refine⟨i,List.mem_filter.2 ⟨List.mem_range.2 hi,?_⟩,rfl⟩;unfold PH.wI;rw[hs];cases hb:(P.ref a i==0) with
  | false=>rfl
  | true=>rw[beq_iff_eq] at hb;rw[hb,h0] at hy;cases hy
structure uJ (P:PH) (K K':List Int):Prop where
 ext:∃ E,K'=K++E
 cl:∀ x∈K',x∉K→∀ y∈P.gW x,P.has y=true→y∈K'
theorem uJ.sub {P:PH} {K K':List Int} (h:uJ P K K'):∀ x∈K,x∈K':=by
 obtain⟨E,rfl⟩:=h.ext;exact fun x hx=>List.mem_append_left _ hx
theorem uJ.refl {P:PH} {K:List Int}:uJ P K K:=⟨⟨[],(List.append_nil K).symm⟩,fun x h h'=>absurd h h'⟩
theorem uJ.trans {P:PH} {K K' sg:List Int} (h:uJ P K K') (k:uJ P K' sg):uJ P K sg:=by
 obtain⟨E,rfl⟩:=h.ext;obtain⟨E',rfl⟩:=k.ext;refine⟨⟨E++E',List.append_assoc _ _ _⟩,fun x hx hn y hy hp=>?_⟩;by_cases h':x∈K++E
 ·exact k.sub y (h.cl x h' hn y hy hp)
 ·exact k.cl x hx h' y hy hp
theorem du {P:PH} {N:Nat} {g:List Int→Int→List Int} (hg:∀ K a,P.free K≤N→uJ P K (g K a)∧(P.has a=true→a∈g K a)):∀ (l K:List Int),P.free K≤N→uJ P K (l.foldl g K)∧∀ y∈l,P.has y=true→y∈l.foldl g K
 | [],K,h=>⟨.refl,fun _ h=>by cases h⟩
 | a::l,K,h=>by
  rw[List.foldl_cons];obtain⟨h1,h2⟩:=hg K a h;obtain⟨h3,h4⟩:=du hg l (g K a) (Nat.le_trans (P.TX h1.sub) h);refine⟨h1.trans h3,fun y hy hp=>?_⟩;rcases List.mem_cons.1 hy with rfl | h
  ·exact h3.sub _ (h2 hp)
  ·exact h4 y h hp
theorem Qs {P:PH}:∀ n K a,P.free K≤n→uJ P K (P.visit n K a)∧(P.has a=true→a∈P.visit n K a)
 | 0,K,a,h=>by
  refine⟨.refl,fun hp=>?_⟩;cases hc:K.contains a with
  | true=>exact List.contains_iff_mem.1 hc
  | false=>have:=PH.FM hp hc;omega
 | n+1,K,a,h=>by
  unfold PH.visit;by_cases hc:P.has a=true∧K.contains a=false
  ·rw[if_pos hc];have:=PH.FM hc.1 hc.2;obtain⟨g1,g2⟩:=du (P:=P) (Qs n) (P.gW a) (K++[a]) (by omega);obtain⟨E,hE⟩:=g1.ext;have ha:a∈(P.gW a).foldl (P.visit n) (K++[a]):=g1.sub a (List.mem_append_right _ List.mem_cons_self);refine⟨⟨⟨[a]++E,by rw[hE,List.append_assoc]⟩,fun x hx hn y hy hp=>?_⟩,fun _=>ha⟩;by_cases El:x=a
   ·subst El;exact g2 y hy hp
   ·exact g1.cl x hx (fun hh=>(List.mem_append.1 hh).elim hn fun h=>El (List.mem_singleton.1 h)) y hy hp
  ·rw[if_neg hc];refine⟨.refl,fun hp=>?_⟩;cases hk:K.contains a with
   | true=>exact List.contains_iff_mem.1 hk
   | false=>exact absurd ⟨hp,hk⟩ hc
theorem dk {Q:Int→Prop} {P:PH} {g:List Int→Int→List Int} (hg:∀ K a,(∀ x∈K,Q x)→(P.has a=true→Q a)→∀ x∈g K a,Q x):∀ (l K:List Int),(∀ x∈K,Q x)→(∀ a∈l,P.has a=true→Q a)→∀ x∈l.foldl g K,Q x
 | [],K,h,_=>h
 | a::l,K,h,hl=>by
  rw[List.foldl_cons];exact dk hg l _ (hg K a h (hl a List.mem_cons_self)) fun b hb=>hl b (List.mem_cons_of_mem _ hb)
theorem Qu {Q:Int→Prop} {P:PH} (hQ:∀ x y,Q x→y∈P.gW x→P.has y=true→Q y):∀ n K a,(∀ x∈K,Q x)→(P.has a=true→Q a)→∀ x∈P.visit n K a,Q x
 | 0,K,a,h,_=>h
 | n+1,K,a,h,ha=>by
  unfold PH.visit;by_cases hc:P.has a=true∧K.contains a=false
  ·rw[if_pos hc];refine dk (Qu hQ n) (P.gW a) (K++[a]) (fun x hx=>?_) fun y hy hp=>hQ a y (ha hc.1) hy hp;rcases List.mem_append.1 hx with h' | h'
   ·exact h x h'
   ·rw[List.mem_singleton.1 h'];exact ha hc.1
  ·rw[if_neg hc];exact h
structure sk (P:PH) (L K Lc:List Int):Prop where
 cl:∀ x∈K,∀ y∈P.gW x,P.has y=true→y∈K
 sd:∀ x∈K,eU P L x
 ls:∀ x∈Lc,P.has x=true→eU P L x
 st:(K=[]∧Lc=L)∨((∀ x∈L,P.has x=true→x∈K)∧Lc=P.oT K P.all)
theorem Hm {P:PH} {K:List Int} (hK:∀ x∈K,P.has x=true) {y:Int}:y∈P.oT K P.all↔∃ x∈K,(P.aY x).k=2∧P.ref x 0∈K∧y=P.ref x 1:=by
 unfold PH.oT;rw[List.mem_map];constructor
 ·rintro⟨x,hx,rfl⟩;have h:=(List.mem_filter.1 hx).2;unfold PH.due at h;rw[Bool.and_eq_true,Bool.and_eq_true,beq_iff_eq,List.contains_iff_mem,List.contains_iff_mem] at h;exact⟨x,h.1.1,h.1.2,h.2,rfl⟩
 ·rintro⟨x,hx,hk,h0,rfl⟩;refine⟨x,List.mem_filter.2 ⟨P.qN.2 (hK x hx),?_⟩,rfl⟩;unfold PH.due;rw[Bool.and_eq_true,Bool.and_eq_true,beq_iff_eq,List.contains_iff_mem,List.contains_iff_mem];exact⟨⟨hx,hk⟩,h0⟩
theorem aHx {P:PH} {L K Lc:List Int} (h0:P.has 0=false) (J:sk P L K Lc) :
  uJ P K (P.gX K Lc)∧(∀ y∈Lc,P.has y=true→y∈P.gX K Lc)∧(∀ x∈P.gX K Lc,eU P L x)∧∀ x∈P.gX K Lc,∀ y∈P.gW x,P.has y=true→y∈P.gX K Lc:=by
 obtain⟨g1,g2⟩:=du (P:=P) (Qs (32*P.N)) Lc K (P.JE K);have hQ:∀ x y,eU P L x→y∈P.gW x→P.has y=true→eU P L y:=fun x y hx hy hp=>.dJ hx ((Ho h0 hp).1 hy) hp;refine⟨g1,g2,dk (Qu hQ _) Lc K J.sd J.ls,fun x hx y hy hp=>?_⟩;by_cases Ek:x∈K
 ·exact g1.sub y (J.cl x Ek y hy hp)
 ·exact g1.cl x hx Ek y hy hp
theorem Lr {P:PH} {L:List Int} (h0:P.has 0=false):∀ f K Lc n,P.free K<f→sk P L K Lc→(∀ x∈(P.sP f K Lc n).1,eU P L x)∧(∀ x∈(P.sP f K Lc n).1,∀ y∈P.gW x,P.has y=true→y∈(P.sP f K Lc n).1)∧(∀ x∈L,P.has x=true→x∈(P.sP f K Lc n).1)∧AE P (P.sP f K Lc n).1
 | 0,K,Lc,n,h,_=>by omega
 | f+1,K,Lc,n,hf,J=>by
  obtain⟨g,s1,s2,s3⟩:=aHx h0 J;unfold PH.sP;by_cases he:(P.gX K Lc).length=K.length
  ·rw[if_pos he];obtain⟨E,hE⟩:=g.ext;have Cj:P.gX K Lc=K:=by
    have:=congrArg List.length hE;rw[List.length_append] at this;have hE0:E=[]:=List.length_eq_zero_iff.1 (by omega);rw[hE,hE0,List.append_nil]
   refine⟨s2,s3,?_,?_⟩
   ·rcases J.st with ⟨_,rfl⟩ | ⟨h,_⟩
    ·exact s1
    ·exact fun x hx hp=>g.sub x (h x hx hp)
   ·show AE P (P.gX K Lc);rcases J.st with ⟨h,_⟩ | ⟨_,h⟩
    ·rw[Cj,h];exact fun x hx=>by cases hx
    ·intro x hx hk hr hp;rw[Cj] at hx hr;refine s1 _ ?_ hp;rw[h];exact(Hm fun x hx=>(J.sd x hx).has).2 ⟨x,hx,hk,hr,rfl⟩
  ·rw[if_neg he];refine Lr h0 f _ _ _ (by have:=P.Pa K Lc he;omega) ⟨s3,s2,fun x hx hp=>?_,.inr ⟨?_,rfl⟩⟩
   ·obtain⟨y,hy,hk,hr,rfl⟩:=(Hm fun x hx=>(s2 x hx).has).1 hx;exact .uT (s2 y hy) hk (s2 _ hr) hp
   ·rcases J.st with ⟨_,rfl⟩ | ⟨h,_⟩
    ·exact s1
    ·exact fun x hx hp=>g.sub x (h x hx hp)
theorem aGc {P:PH} {L:List Int} (h0:P.has 0=false) {x:Int}:x∈(P.rounds L).1↔eU P L x:=by
 obtain⟨h1,h2,h3,h4⟩:=Lr (L:=L) h0 (32*P.N+1) [] L 0 (by have:=P.JE [];omega) ⟨fun _ h=>(by cases h),fun _ h=>(by cases h),fun x hx hp=>.root hx hp,.inl ⟨rfl,rfl⟩⟩;refine⟨h1 x,fun h=>?_⟩
 induction h with
 | root a b=>exact h3 _ a b
 | dJ _ b c ih=>exact h2 _ ih _ ((Ho h0 c).2 b) c
 | uT _ b _ d ih1 ih2=>exact h4 _ ih1 b ih2 d
section
variable {kc:Kc} {q:Bool} {s:St} {Φ:Value→St→Prop} {t u h:Nat} {P:PH} {M:Nat→Nat}
theorem tX:type_of% (An @RC<|An @RO<|An @RD<|An @RV<|An @RB<|@RG):=An @RC<|An @RO<|An @RD<|An @RV<|An @RB<|@RG
theorem aIn (hs:Ok s) (H:bS s h P) (T:eZ s t u (32*P.N) 1 M) {a:Option Addr} {n c:Nat} {l:List Int} (hl:gL s (.slice a n c) l) (hn:n<1000) (hc:l.contains 1=true) (hΦ:∀ s',aC [] s s'→Φ (.bool true) s'):okF q X (KO kc) 101 [ptr h,ptr t,.slice a n c] s Φ:=by
 have n2:=H.n2;have bW:=H.bW;have g:((P.N:Int)>0):=by omega
 have w1:IntKind.i64.wrap ((P.N:Int)*64)=(P.N:Int)*64:=aU (by omega) (by omega);have w2:IntKind.i64.wrap (((P.N:Int)*64).tdiv 2)=((32*P.N:Nat):Int):=by
  have:((P.N:Int)*64).tdiv 2=32*P.N:=by
   rw[show (P.N:Int)*64=2*(32*P.N) by omega];exact Int.mul_tdiv_cancel_left _ (by omega)
  rw[this,aU (by omega) (by omega)];rfl
 refine aV rfl Ym rfl (rs:=[.tmp 6]) rfl (N:=25) rfl rfl ?_;refine aA fun bB aF aZ=>?_;simp only[tX,seval];refine aF _ _ ?_;refine aA fun Ψ1 aE aK=>?_;refine cK [(3,10),(12,19)] (by kernel_rfl) fun O hO bK hR=>?_;have y3:∀ a,aN O a 3=bC (a.aB 10):=hO (3,10) (by simp);have ID:∀ a,aN O a 12=bC (a.aB 19):=hO (12,19) (by simp);simp only[tX,seval];refine aJ ?_ (FX H ?_)
 ·simp only[tX,seval]
 simp only[tX,seval,y3,ID,g,decide_true];refine aJ ?_ (Nt T ?_)
 ·simp only[tX,seval]
 simp only[tX,seval,y3,ID];refine aJ ?_ (FX H ?_)
 ·simp only[tX,seval]
 simp only[tX,seval,y3,ID,w1,w2,beq_self_eq_true];refine aJ ?_ (aH9 T ?_)
 ·simp only[tX,seval]
 simp only[tX,seval,y3,ID];refine aJ ?_ (pw ((1:Nat):Int) hl (by omega) hs fun s1 k1=>?_)
 ·simp only[tX,seval]
 rw[show l.contains ((1:Nat):Int)=true from hc];simp only[tX,seval,y3,ID];refine hR _ _ (aE _ _ ?_);simp only[tX,seval];exact hΦ s1 k1
end
open Go.Proofs
set_option maxRecDepth 100000
set_option maxHeartbeats 2000000
theorem dm {g:List Int→Int→List Int} (hg:∀ K a,K.Nodup→(g K a).Nodup):∀ (l K:List Int),K.Nodup→(l.foldl g K).Nodup
 | [],K,h=>h
 | a::l,K,h=>dm hg l (g K a) (hg K a h)
theorem Qt {P:PH}:∀ n K a,K.Nodup→(P.visit n K a).Nodup
 | 0,K,a,h=>h
 | n+1,K,a,h=>by
  unfold PH.visit;split
  ·rename_i hc;refine dm (Qt n) _ _ ?_;rw[List.nodup_append];refine⟨h,by simp,fun x hx y hy=>?_⟩;rw[List.mem_singleton.1 hy];rintro rfl;have:=hc.2;rw[List.contains_iff_mem.2 hx] at this;cases this
  ·exact h
theorem Ls {P:PH}:∀ f K L n,K.Nodup→(P.sP f K L n).1.Nodup
 | 0,K,L,n,h=>h
 | f+1,K,L,n,h=>by
  unfold PH.sP;have hs:(P.gX K L).Nodup:=dm (Qt _) L K h;split
  ·exact hs
  ·exact Ls f _ _ _ hs
theorem aGd {P:PH} {L:List Int}:(P.rounds L).1.Nodup:=Ls _ _ _ _ List.nodup_nil
theorem aCp {l:List Int} {x y:Int}:x∈once l y↔x∈l∨x=y:=by
 unfold once;split
 ·rename_i h;constructor
  ·exact .inl
  ·rintro(h' | rfl)
   ·exact h'
   ·exact List.contains_iff_mem.1 h
 ·rw[List.mem_append,List.mem_singleton]
theorem Hn:∀ (L l:List Int) {x:Int},x∈L.foldl once l↔x∈l∨x∈L
 | [],l,x=>by simp
 | y::L,l,x=>by
  rw[List.foldl_cons,Hn L,aCp,List.mem_cons,or_assoc]
theorem OQ {R:PR} {x:Int}:x∈R.leads↔x∈R.all.map R.get:=by
 show x∈(R.all.map R.get).foldl once []↔_;rw[Hn];simp
theorem eU.mono {P:PH} {L L':List Int} (h:∀ x∈L,P.has x=true→x∈L') {x:Int} (k:eU P L x):eU P L' x:=by
 induction k with
 | root a b=>exact .root (h _ a b) b
 | dJ _ b c ih=>exact .dJ ih b c
 | uT _ b _ d ih1 ih2=>exact .uT ih1 b ih2 d
theorem Lt {P:PH} {R:PR} (h0:P.has 0=false) {x:Int}:x∈(P.rounds R.leads).1↔eU P (R.all.map R.get) x:=by
 rw[aGc h0];exact⟨.mono fun x hx _=>OQ.1 hx,.mono fun x hx _=>OQ.2 hx⟩
theorem Ww {H:bG} {it mb aO since aT:Nat} {es:List MapEntry} {seen:List Nat} {e:MapEntry} (hI:H it=some (.gC (some mb) since (e.born::seen) aO aT)) (hM:mapOf H mb=some (es,aO)) (hn:(es.map fun e=>e.born).Nodup) (he:e∈es):tE H (ptr it)=some (.tuple #[e.key,e.val]):=by
 have aAf:∀ e'∈es,e'.born=e.born→e'=e:=by
  intro e' he' hb;clear hI hM
  induction es with
  | nil=>cases he
  | cons x es ih =>
   rw[List.map_cons,List.nodup_cons] at hn;rcases List.mem_cons.1 he with rfl | h1
   ·rcases List.mem_cons.1 he' with rfl | h2
    ·try rfl
    ·exact absurd (List.mem_map.2 ⟨e',h2,hb⟩) hn.1
   ·rcases List.mem_cons.1 he' with rfl | h2
    ·exact absurd (List.mem_map.2 ⟨e,h1,hb.symm⟩) hn.1
    ·exact ih hn.2 h1 h2
 cases hf:es.find? (·.born==e.born) with
 | none =>
  have:=List.find?_eq_none.1 hf e he;simp at this
 | some e' =>
  have h1:=List.mem_of_find?_eq_some hf;have h2:=List.find?_some hf;simp only[beq_iff_eq] at h2;rw[aAf e' h1 h2] at hf;simp only[tE,ptr,and_self,if_true,hI,hM,hf]
theorem aB9 {es:List MapEntry} {K:List Int} (h:es.map (fun e=>(e.key,e.val))=(keys K).map (fun p=>(int p.1,p.2))) (hn:K.Nodup) {e e':MapEntry} (he:e∈es) (he':e'∈es) (hk:e.key=e'.key):e=e':=by
 have hk2:es.map (fun e=>e.key)=K.map int:=by
  have:=congrArg (List.map Prod.fst) h;simpa [List.map_map,Function.comp_def,keys] using this
 have hnd:(es.map fun e=>e.key).Nodup:=by
  rw[hk2];exact List.pairwise_map.2 (List.Pairwise.imp (fun{a b} R3 hh=>R3 (by simpa [int] using hh)) hn)
 clear hk2 h
 induction es with
 | nil=>cases he
 | cons x es ih =>
  rw[List.map_cons,List.nodup_cons] at hnd;rcases List.mem_cons.1 he with rfl | h1
  ·rcases List.mem_cons.1 he' with rfl | h2
   ·try rfl
   ·exact absurd (List.mem_map.2 ⟨e',h2,hk.symm⟩) hnd.1
  ·rcases List.mem_cons.1 he' with rfl | h2
   ·exact absurd (List.mem_map.2 ⟨e,h1,hk⟩) hnd.1
   ·exact ih h1 h2 hnd.2
theorem aBb {es:List MapEntry} {K:List Int} (h:es.map (fun e=>(e.key,e.val))=(keys K).map (fun p=>(int p.1,p.2))) {a:Int} (ha:a∈K):∃ e∈es,e.key=int a:=by
 have h1:(int a,(Value.bool true))∈(keys K).map (fun p=>(int p.1,p.2)):=by
  rw[List.map_map];exact List.mem_map.2 ⟨a,ha,rfl⟩
 rw[← h] at h1;obtain⟨e,he,hh⟩:=List.mem_map.1 h1;simp only[Prod.mk.injEq] at hh;exact⟨e,he,hh.1⟩
theorem Obj.uniq {s:St} {b:Nat} {L L':List Value} (h:Obj s b L) (h':Obj s b L'):L=L':=by
 obtain⟨e,c,z,room,aT,h1,h2⟩:=h;obtain⟨e',c',z',aK6,ver',k1,k2⟩:=h';rw[h1] at k1;simp only[Option.some.injEq,bU.cells.injEq] at k1;obtain⟨rfl,rfl,hl,rfl,rfl,_,rfl⟩:=k1;apply List.ext_getElem?;intro i;by_cases hi:i<L.length
 ·rw[← h2 i hi,hl,k2 i (by omega)]
 ·rw[List.getElem?_eq_none (by omega),List.getElem?_eq_none (by omega)]
theorem eZ.uniq {s:St} {t u u' n n' w w':Nat} {L L':Nat→Nat} (h:eZ s t u n w L) (h':eZ s t u' n' w' L'):u'=u∧n'=n∧w'=w∧∀ i,i<n→L' i=L i:=by
 have hc:=h.c.uniq h'.c;simp only[List.cons.injEq,int,Value.int.injEq,true_and,Value.slice.injEq,Option.some.injEq,Addr.mk.injEq,Int.ofNat_inj,Int.natCast_inj,and_true] at hc;obtain⟨rfl,rfl,rfl,_⟩:=hc;refine⟨rfl,rfl,rfl,fun i hi=>?_⟩;obtain⟨U,a1,a2,a3,a4⟩:=h.ws;obtain⟨U',b1,b2,b3,b4⟩:=h'.ws;have hU:=a1.uniq b1;have R1:U=U':=by
  apply List.ext_getElem?;intro j;have:=congrArg (fun l=>l[j]?) hU;simp only[List.getElem?_map] at this;cases hx:U[j]? with
  | none =>
   rw[hx] at this;cases hy:U'[j]? with
   | none=>rfl
   | some y=>rw[hy] at this;cases this
  | some x =>
   rw[hx] at this;cases hy:U'[j]? with
   | none=>rw[hy] at this;cases this
   | some y =>
    rw[hy] at this;simp only[Option.map_some,Option.some.injEq,Value.int.injEq,true_and] at this;rw[Int.natCast_inj.1 this]
 subst R1;rw[← a4 i hi,← b4 i hi]
theorem pd {n:Nat} {f g:Nat→Value} (h:row n f=row n g) {i:Nat} (hi:i<n):f i=g i:=by
 have:=congrArg (fun l=>l[i]?) h;simp only[lM _ hi,Option.some.injEq] at this;exact this
structure PH.jU (P P':PH):Prop where
 N:P'.N=P.N
 w:∀ i,i<64*P.N→P'.w i=P.w i
 S:∀ i,i<32*P.N→P'.S i=P.S i
theorem bS.ZR {s:St} {h:Nat} {P P':PH} (H:bS s h P) (H':bS s h P'):P.jU P':=by
 have hc:=H.c.uniq H'.c;simp only[List.cons.injEq,int,ptr,Value.int.injEq,Value.pointer.injEq,Value.map.injEq,true_and,Value.slice.injEq,Option.some.injEq,Addr.mk.injEq,Int.natCast_inj,and_true] at hc;obtain⟨⟨GH,hN,_⟩,⟨UT,_⟩,hst,hpt,hmp,hmf,aJ8⟩:=hc;have hw:=H'.cw;rw[← UT,← hN] at hw;have ht:=H'.ts;rw[← hst] at ht;refine⟨hN.symm,fun i hi=>?_,fun i hi=>(H.ts.uniq ht).2.2.2 i hi⟩;have:=pd (H.cw.uniq hw) hi;simp only[int,Value.int.injEq,true_and] at this;exact this.symm
namespace PH
variable {P P':PH}
theorem jU.has (A:P.jU P') (a:Int):P'.has a=P.has a:=by
 rw[Bool.eq_iff_iff,iN,iN,A.N];constructor
 ·rintro⟨h1,h2,h3,h4⟩;exact⟨h1,h2,h3,by rw[← A.S _ (by omega)];exact h4⟩
 ·rintro⟨h1,h2,h3,h4⟩;exact⟨h1,h2,h3,by rw[A.S _ (by omega)];exact h4⟩
theorem jU.shape (A:P.jU P') {a:Int} (h:P.has a=true):P'.shape a=P.shape a:=by
 obtain⟨h1,h2,h3,_⟩:=iN.1 h;unfold PH.shape;rw[A.w _ (by omega)]
theorem jU.aY (A:P.jU P') (a:Int):P'.aY a=P.aY a:=by
 unfold PH.aY;rw[A.has];split
 ·rename_i h;exact A.shape h
 ·try rfl
theorem jU.gA (A:P.jU P') (a i:Int) (d:Bool):P'.gA a i d=P.gA a i d:=by
 unfold PH.gA;rw[A.has];split
 ·rename_i h;have:P'.many a d=P.many a d:=by unfold PH.many;rw[A.shape h]
  rw[this]
 ·try rfl
theorem jU.Yj (A:P.jU P') (G:P.cM) (a i:Int) (d:Bool) (h:P.gA a i d=0):P'.w (P'.kI a i d).toNat=P.w (P.kI a i d).toNat:=by
 have h':P'.gA a i d=0:=by rw[A.gA];exact h
 have hb:=(NF h).1;have e:P'.kI a i d=P.kI a i d:=by
  unfold PH.kI;rw[if_pos h',if_pos h];unfold PH.first;rw[A.shape hb]
 obtain⟨_,_,_,h4,h5⟩:=CW G h;rw[e,A.w _ (by omega)]
theorem jU.ref (A:P.jU P') (G:P.cM) (a i:Int):P'.ref a i=P.ref a i:=by
 unfold PH.ref;rw[A.gA];split
 ·rename_i h;exact A.Yj G a i false h
 ·try rfl
theorem jU.dJ (A:P.jU P') (G:P.cM) (a:Int):P'.dJ a=P.dJ a:=by
 unfold PH.dJ PH.vB PH.cX;rw[A.aY];exact List.map_congr_left fun i _=>A.ref G _ _
theorem jU.pB (A:P.jU P') (G:P.cM) {L L':List Int} (hL:∀ x∈L,x∈L') {x:Int} (h:eU P L x):eU P' L' x:=by
 induction h with
 | root a b=>exact .root (hL _ a) (by rw[A.has];exact b)
 | dJ _ b c ih=>exact .dJ ih (by rw[A.dJ G];exact b) (by rw[A.has];exact c)
 | uT _ b _ d ih1 ih2 =>
  rw[← A.ref G] at ih2 d ⊢;exact .uT ih1 (by rw[A.aY];exact b) ih2 (by rw[A.has];exact d)
theorem jU.symm (A:P.jU P'):P'.jU P:=⟨A.N.symm,fun i hi=>(A.w i (by rw[← A.N];exact hi)).symm,fun i hi=>(A.S i (by rw[← A.N];exact hi)).symm⟩
end PH
def PR.xY (R:PR) (x:Int):Prop:=x≠0∧((∃ i,i<16*R.m∧R.sl i=x)∨(∃ i,i<16∧R.gl i=x)∨x∈R.q)
theorem PR.UA (R:PR) (i:Nat):R.get (PR.cQ 0 i)=R.sl i:=by
 unfold PR.get PR.cQ;rw[if_pos (show ((0:Nat):Int)=0 from rfl)];simp only[if_true];congr 1;omega
theorem PR.UB (R:PR) (i:Nat):R.get (PR.cQ 1 i)=R.gl i:=by
 unfold PR.get PR.cQ;rw[if_neg (by simp),if_pos (show ((1:Nat):Int)=1 from rfl)];simp
theorem PR.dq (R:PR) (i:Nat):R.get (PR.cQ 2 i)=R.q.getD i 0:=by
 unfold PR.get PR.cQ;rw[if_neg (by simp),if_neg (by simp)];simp
theorem PR.KI {R:PR} {x:Int}:x∈R.all.map R.get↔R.xY x:=by
 unfold PR.all PR.upto PR.part PR.one PR.xY;simp only[List.mem_map,List.mem_flatMap,List.mem_range];constructor
 ·rintro⟨p,⟨k,hk,i,hi,hp⟩,rfl⟩;split at hp
  ·cases hp
  ·rename_i hne;rw[List.mem_singleton] at hp;subst hp;refine⟨hne,?_⟩;unfold PR.len at hi;rcases(show k=0∨k=1∨k=2 by omega) with rfl | rfl | rfl
   ·simp only[if_true] at hi;exact .inl ⟨i,hi,(R.UA i).symm⟩
   ·simp only[if_true,if_false,Nat.one_ne_zero] at hi;exact .inr (.inl ⟨i,hi,(R.UB i).symm⟩)
   ·simp at hi;refine .inr (.inr ?_);rw[R.dq,List.getD_eq_getElem?_getD,List.getElem?_eq_getElem hi];exact List.getElem_mem _
 ·rintro⟨h0,h⟩;have key:∀ k i,k<3→i<R.len k→R.get (PR.cQ k i)=x→∃ a,(∃ k,k<3∧∃ i,i<R.len k∧a∈(if R.get (PR.cQ k i)=0 then [] else [PR.cQ k i]))∧R.get a=x:=fun k i hk hi hx =>
   ⟨_,⟨k,hk,i,hi,by rw[if_neg (by rw[hx];exact h0)];exact List.mem_singleton.2 rfl⟩,hx⟩
  rcases h with ⟨i,hi,hx⟩ | ⟨i,hi,hx⟩ | hx
  ·exact key 0 i (by omega) (by unfold PR.len;simpa using hi) (by rw[R.UA];exact hx)
  ·exact key 1 i (by omega) (by unfold PR.len;simpa using hi) (by rw[R.UB];exact hx)
  ·obtain⟨i,hi,rfl⟩:=List.mem_iff_getElem.1 hx;exact key 2 i (by omega) (by unfold PR.len;simpa using hi) (by rw[R.dq,List.getD_eq_getElem?_getD,List.getElem?_eq_getElem hi];rfl)
theorem dV.ZR {s:St} {r:Nat} {R R':PR} (A:dV s r R) (A':dV s r R') (x:Int):R'.xY x↔R.xY x:=by
 have hc:=A.c.uniq A'.c;simp only[List.cons.injEq,int,Value.int.injEq,true_and,Value.slice.injEq,Option.some.injEq,Addr.mk.injEq,Int.natCast_inj,and_true] at hc;obtain⟨hm,⟨hns,_⟩,hng,wO,kK,hvc⟩:=hc;have hs:=A'.cs;rw[← hns,← hm] at hs;have hg:=A'.cg;rw[← hng] at hg;have h1:∀ i,i<16*R.m→R'.sl i=R.sl i:=fun i hi=>by
  have:=pd (A.cs.uniq hs) hi;simp only[int,Value.int.injEq,true_and] at this;exact this.symm
 have h2:∀ i,i<16→R'.gl i=R.gl i:=fun i hi=>by
  have:=pd (A.cg.uniq hg) hi;simp only[int,Value.int.injEq,true_and] at this;exact this.symm
 have h3:R'.q=R.q:=by
  have q1:=A.cq.sl;have q2:=A'.cq.sl;rw[← wO,← kK,← hvc] at q2;have hl1:=q1.len;have hl2:=q2.len;rw[List.length_map] at hl1 hl2;apply List.ext_getElem?;intro i;by_cases hi:i<R.q.length
  ·obtain⟨b,off,aAg⟩:=q1.addr (by omega);rw[aAg] at q1 q2;have e1:=q1.load (i:=i) (v:=int R.q[i]) (by rw[List.getElem?_map,List.getElem?_eq_getElem hi];rfl);have e2:=q2.load (i:=i) (v:=int (R'.q[i]'(by omega))) (by rw[List.getElem?_map,List.getElem?_eq_getElem (by omega)];rfl);rw[e1] at e2;simp only[int,Option.some.injEq,Value.int.injEq,true_and] at e2;rw[List.getElem?_eq_getElem hi,List.getElem?_eq_getElem (by omega),e2]
  ·rw[List.getElem?_eq_none (by omega),List.getElem?_eq_none (by omega)]
 unfold PR.xY;rw[← hm,h3];have e1:(∃ i,i<16*R.m∧R'.sl i=x)↔∃ i,i<16*R.m∧R.sl i=x:=⟨fun⟨i,a,b⟩=>⟨i,a,by rw[← h1 i a];exact b⟩,fun⟨i,a,b⟩=>⟨i,a,by rw[h1 i a];exact b⟩⟩;have e2:(∃ i,i<16∧R'.gl i=x)↔∃ i,i<16∧R.gl i=x:=⟨fun⟨i,a,b⟩=>⟨i,a,by rw[← h2 i a];exact b⟩,fun⟨i,a,b⟩=>⟨i,a,by rw[h2 i a];exact b⟩⟩;rw[e1,e2]
open Go.Proofs
set_option maxRecDepth 100000
set_option maxHeartbeats 2000000
theorem bE.aHw {X:Env} {s:St} {t e N k n c:Nat} {a:Option Addr} {L:List Value} (hd:((X.ty t).map fun i=>i.desc)=some (.slice e)) (he:((X.ty e).map fun i=>i.size)=some N)
  (B:bE s e N (.slice a n c) L) (hk:k≤n):∃ v,eI X s.look t (.slice a n c) none (some (int k)) none=some v∧tL v=some k∧jM s.look N k v=some (L.take (k*N)):=by
 cases hi:X.ty t with
 | none=>rw[hi] at hd;cases hd
 | some i =>
  cases hj:X.ty e with
  | none=>rw[hj] at he;cases he
  | some j =>
   rw[hi] at hd;rw[hj] at he;obtain⟨d,sz,bs,zz,ag,ms,cm⟩:=i;simp only[Option.map_some,Option.some.injEq] at hd he;subst hd;have hS:=B.sl;cases B with
   | nil =>
    obtain rfl:k=0:=by omega
    exact⟨.slice none 0 0,by simp[eI,hi,hj,kC,lU],rfl,by simp[jM]⟩
   | @own b off _ _ L0 _ hC hc hnc hlen hl =>
    obtain⟨cc,z,room,aT,hg,_⟩:=hC;have hb:lU n c none (some (k:Int))=some (0,k):=by
     unfold lU;simp only;rw[if_pos (by omega)];simp only[Int.toNat_natCast]
    have e1:eI X s.look t (.slice (some ⟨b,off,none⟩) n c) none (some (int k)) none=some (.slice (some (if c=0 then(if room=true then⟨b,off,some 0⟩ else⟨b,off,none⟩) else⟨b,off,none⟩)) k c):=by
     simp only[eI,hi,hj,kC,hb,St.look,hg,Nat.zero_le,true_and,Nat.zero_mul,Nat.sub_zero,bJ,Nat.add_zero];rw[if_pos (by omega)];split <;> rfl
    refine⟨_,e1,rfl,?_⟩;by_cases hz:k*N=0
    ·simp only[jM];rw[if_pos hz,hz];rfl
    ·have NN:c≠0:=fun h=>hz (by rw[show k=0 by omega,Nat.zero_mul]);rw[if_neg NN];simp only[jM];rw[if_neg hz];have h1:k*N≤n*N:=Nat.mul_le_mul_right _ hk;have:=hS.bD (i:=0) (k:=k*N) (by omega) (by omega);simpa using this
theorem bE.aHv {X:Env} {s:St} {t e N k n c:Nat} {a:Option Addr} {L:List Value} (hd:((X.ty t).map fun i=>i.desc)=some (.slice e)) (he:((X.ty e).map fun i=>i.size)=some N)
  (B:bE s e N (.slice a n c) L) (hk:k≤n):∃ v,eI X s.look t (.slice a n c) (some (int k)) none none=some v∧tL v=some (n-k)∧jM s.look N (n-k) v=some (L.drop (k*N)):=by
 cases hi:X.ty t with
 | none=>rw[hi] at hd;cases hd
 | some i =>
  cases hj:X.ty e with
  | none=>rw[hj] at he;cases he
  | some j =>
   rw[hi] at hd;rw[hj] at he;obtain⟨d,sz,bs,zz,ag,ms,cm⟩:=i;simp only[Option.map_some,Option.some.injEq] at hd he;subst hd;have hS:=B.sl;have hlen:=hS.len;cases B with
   | nil =>
    obtain rfl:k=0:=by omega
    exact⟨.slice none 0 0,by simp[eI,hi,hj,kC,lU],rfl,by simp[jM]⟩
   | @own b off _ _ L0 _ hC hc hnc fv hl =>
    obtain⟨cc,z,room,aT,hg,_⟩:=hC;have hb:lU n c (some (k:Int)) none=some (k,n):=by
     unfold lU;simp only;rw[if_pos (by omega)];simp only[Int.toNat_natCast]
    have e1:eI X s.look t (.slice (some ⟨b,off,none⟩) n c) (some (int k)) none none=some (.slice (some (if c=k then(if room=true then⟨b,off,some (k*N)⟩ else⟨b,off,none⟩) else⟨b,off+k*N,none⟩)) (n-k) (c-k)):=by
     simp only[eI,hi,hj,kC,hb,St.look,hg,bJ,he];rw[if_pos (by omega)];split <;> rfl
    refine⟨_,e1,rfl,?_⟩;have h1:k*N≤n*N:=Nat.mul_le_mul_right _ hk;have h2:(n-k)*N=n*N-k*N:=Nat.sub_mul ..;by_cases hz:(n-k)*N=0
    ·simp only[jM];rw[if_pos hz,List.drop_of_length_le (by omega)]
    ·have hck:c≠k:=fun h=>hz (by rw[show n-k=0 by omega,Nat.zero_mul]);rw[if_neg hck];simp only[jM];rw[if_neg hz];have:=hS.bD (i:=k*N) (k:=(n-k)*N) (by omega) (by omega);rw[this,List.take_of_length_le (by rw[List.length_drop];omega)]
section
variable {kc:Kc} {q:Bool} {s:St} {Φ:Value→St→Prop} {a:Option Addr} {n c:Nat} {l:List Int}
theorem rQ:type_of% (An @RX<|An @dG<|An @dE<|@aW):=An @RX<|An @dG<|An @dE<|@aW
theorem aFe (h:gL s (.slice a n c) l) (hn:n<1000000) (x:Int) (h1:∀ i:Nat,x∈l→Φ (int i) s) (h2:x∉l→Φ (int (-1)) s):okF q X (KO kc) 185 [.slice a n c,int x] s Φ:=by
 have hl:=h.len;refine aV rfl q9 rfl (rs:=[.tmp 4]) rfl (N:=19) rfl rfl ?_;refine aA fun bB aF aZ=>?_;simp only[rQ,seval];refine aF _ _ ?_;refine aA fun Ψ1 aE aK=>?_;refine aA fun Ψ2 aH bM=>?_;simp only[rQ,seval];refine aH _ _ ?_;refine cB fun Ψ3 aM oG bN=>?_;refine gD (n:=n) (fun j a' s'=>a'.aB 0=.slice a n c∧a'.aB 1=int x∧a'.aB 5=int j∧s'=s∧∀ k (hk:k<l.length),k<j→l[k]≠x)
  (fun j a' s'=>a'.aB 0=.slice a n c∧a'.aB 1=int x∧a'.aB 5=int j∧s'=s∧∀ k (hk:k<l.length),k<j+1→l[k]≠x) ?_ ?_ ?_ ?_ (Nat.zero_le _) ?_
 ·rintro j a' s' hj ⟨r0,r1,r5,rfl,hn⟩ aR bH;simp only[rQ,seval,r0,r5];refine bH _ _ (decide ((j:Int)<n)) ?_ (by simp) ⟨?_,?_,?_,rfl,hn⟩
  all_goals simp only[rQ,seval,r0,r1,r5]
 ·rintro j a' s' hj ⟨r0,r1,r5,rfl,hn⟩ aR w1 w2 w3;obtain⟨b,off,rfl⟩:=Sl.addr h (by omega);have jO:j<l.length:=by omega
  have lj:=gL.get h (List.getElem?_eq_getElem jO);have g1:(0:Int)≤(j:Int):=Int.natCast_nonneg _;have g2:(j:Int)<(n:Int):=by omega
  refine aA fun dK bO cV=>?_;simp only[rQ,seval,r0,r1,r5,g1,g2,and_self,bJ,Int.toNat_natCast,Nat.mul_one,lj];refine bO _ _ ?_;by_cases he:l[j]=x
  ·have he':(l[j]==x)=true:=by simpa using he
   simp only[rQ,seval,he',r5];refine w3 _ _ _ (by simp) (by simp) (bN _ _ _ (by simp) (by simp) (aK _ _ _ (by simp) ?_));simp only[rQ,seval];exact h1 j (by rw[← he];exact List.getElem_mem _)
  ·have he':(l[j]==x)=false:=by simpa using he
   simp only[rQ,seval,he'];refine w1 _ _ ⟨?_,?_,?_,rfl,fun k hk UO=>?_⟩
   ·simp only[rQ,seval,r0]
   ·simp only[rQ,seval,r1]
   ·simp only[rQ,seval,r5]
   ·by_cases e:k=j
    ·subst e;exact he
    ·exact hn k hk (by omega)
 ·rintro j a' s' hj ⟨r0,r1,r5,rfl,hn⟩ aR w1;have w:IntKind.i64.wrap ((j:Int)+1)=((j+1:Nat):Int):=by rw[aU (by omega) (by omega)];rfl
  simp only[rQ,seval,r5,w];refine w1 _ _ ⟨?_,?_,?_,rfl,hn⟩
  all_goals try simp only[rQ,seval,r0,r1,r5]
 ·rintro a' s' ⟨r0,r1,r5,rfl,hn⟩;refine oG _ _ (aE _ _ ?_);simp only[rQ,seval];refine h2 fun hx=>?_;obtain⟨i,hi,rfl⟩:=List.mem_iff_getElem.1 hx;exact hn i hi (by omega) rfl
 ·refine⟨?_,?_,?_,rfl,fun k hk h=>absurd h (Nat.not_lt_zero _)⟩
  all_goals try simp only[rQ,seval]
  try rfl
theorem QH:type_of% (An @RC<|An @RO<|An @RD<|An @RV<|An @RB<|@RG):=An @RC<|An @RO<|An @RD<|An @RV<|An @RB<|@RG
theorem aFf (h:gL s (.slice a n c) l) (hn:n<1000000) (x:Int) (hΦ:Φ (.bool (decide (x∈l))) s):okF q X (KO kc) 108 [.slice a n c,int x] s Φ:=by
 refine aV rfl Yq rfl (rs:=[.tmp 4]) rfl (N:=9) rfl rfl ?_;refine aA fun bB aF aZ=>?_;simp only[QH,seval];refine aF _ _ ?_;simp only[QH,seval];refine aJ ?_ (aFe h hn x (fun i hx=>?_) (fun hx=>?_))
 ·simp only[QH,seval]
 ·rw[decide_eq_true hx] at hΦ;have g:(i:Int)≥0:=by omega
  simp only[QH,seval,g,decide_true];exact hΦ
 ·rw[decide_eq_false hx] at hΦ;have g:¬ (-1:Int)≥0:=by omega
  simp only[QH,seval,g,decide_false];exact hΦ
theorem QK:type_of% (An @RX<|@yF):=An @RX<|@yF
theorem Kp (hs:Ok s) (h:gL s (.slice a n c) l) (hn:n<1000000) (hΦ:∀ a' c' s',bE s' 3 1 (.slice a' n c') (l.map int)→aC [] s s'→(∀ b∈nameOf (.slice a' n c'),s.next≤b)→Φ (.slice a' n c') s'):okF q X (KO kc) 184 [.slice a n c] s Φ:=by
 have hl:=h.len;refine aV rfl q8 rfl (rs:=[.tmp 2]) rfl (N:=6) rfl rfl ?_;refine aA fun bB aF aZ=>?_;simp only[QK,seval];refine aF _ _ ?_;obtain⟨s1,e1,k1,c1,n1⟩:=cA hs (L:=[]) (n:=0) (e:=3) rfl;obtain⟨e,c1⟩:=c1;have B1:bE s1 3 1 (.slice (some ⟨s.next,0,none⟩) 0 0) []:=by
  rw[← e1];exact .own (L0:=[]) Cells.vL (by simp) (Nat.le_refl _) rfl (fun i hi=>absurd hi (Nat.not_lt_zero _))
 obtain⟨v,s4,h4,b4,k4,m4,a4,c4,rfl⟩:=iT (X:=X) (t:=62) (e:=3) (N:=1) (B:=8) (z:=.int .i64 0) (x:=.slice a n c) (k:=n) (new:=l.map int) (by kernel_rfl) (by kernel_rfl) rfl k1.ok (by omega) B1 rfl (Sl.aD h k1 (by simp)).first (by rw[List.length_map,Nat.mul_one,hl]) (MM _) (by omega) (by omega);have hk:aC [] s s4:=k1.step k4 fun y hy=>.inr (by rw[List.mem_singleton.1 (show y∈[s.next] from hy)];exact hs.fresh _ (Nat.le_refl _));simp only[QK,seval];rw[e1]
 try simp only[QK,seval]
 refine iX ?_ h4 ?_
 ·simp only[QK,seval]
 simp only[QK,seval];rw[Nat.zero_add] at b4 m4 ⊢;refine hΦ a4 c4 s4 (by simpa using b4) hk fun b hb=>?_;rcases m4 b hb with h | h
 ·rw[List.mem_singleton.1 (show b∈[s.next] from h)];exact Nat.le_refl _
 ·have:=k1.next;omega
theorem aEx {l:List Int} {x:Int} {j:Nat} (hp:l.Pairwise (·<·)) (hj:j≤l.length) (h1:∀ i (hi:i<l.length),i<j→l[i]<x) (h2:∀ (hi:j<l.length),x<l[j]):(l.take j++[x]++l.drop j).Pairwise (·<·):=by
 have hle:∀ y∈l.take j,y<x:=fun y hy=>by
  obtain⟨i,hi,rfl⟩:=List.mem_iff_getElem.1 hy;rw[List.length_take] at hi;rw[List.getElem_take];exact h1 i (by omega) (by omega)
 have hge:∀ y∈l.drop j,x<y:=fun y hy=>by
  obtain⟨i,hi,rfl⟩:=List.mem_iff_getElem.1 hy;rw[List.length_drop] at hi;rw[List.getElem_drop];have h3:=h2 (by omega);by_cases hi0:i=0
  ·subst hi0;simpa using h3
  ·have:=List.pairwise_iff_getElem.1 hp j (j+i) (by omega) (by omega) (by omega);omega
 rw[List.append_assoc,List.pairwise_append,List.pairwise_append];refine⟨hp.sublist (List.take_sublist ..),⟨by simp,hp.sublist (List.drop_sublist ..),fun a ha b hb=>?_⟩,fun a ha b hb=>?_⟩
 ·rw[List.mem_singleton.1 ha];exact hge b hb
 ·rcases List.mem_append.1 hb with h | h
  ·rw[List.mem_singleton.1 h];exact hle a ha
  ·have:=hle a ha;have:=hge b h;omega
theorem aEv {l:List Int} {x y:Int} {j:Nat}:y∈l.take j++[x]++l.drop j↔y∈l∨y=x:=by
 have:y∈l↔y∈l.take j∨y∈l.drop j:=by
  rw[← List.mem_append,List.take_append_drop]
 rw[this];simp only[List.mem_append,List.mem_singleton];constructor
 ·rintro((h | h) | h)
  ·exact .inl (.inl h)
  ·exact .inr h
  ·exact .inl (.inr h)
 ·rintro((h | h) | h)
  ·exact .inl (.inl h)
  ·exact .inr h
  ·exact .inl (.inr h)
end
end Go.Dust
