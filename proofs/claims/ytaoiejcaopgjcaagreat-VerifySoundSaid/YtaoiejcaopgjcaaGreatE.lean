/- The plain interpreter D and its laws (Dh Di). -/
import Derived.Test.YtaoiejcaopgjcaaGreatD
set_option linter.unusedVariables false
set_option linter.unusedSimpArgs false
namespace Go.Dust
variable {P:Program} {ι:cR} {s s':St} {w:World}
abbrev RS (P:Program) (ι:cR) (s:St) (w:World):Prop:=R (env P) ι s.look s.next w
abbrev ES (ι:cR) (s:St) (w:World) (ι':cR) (s':St) (w':World):Prop:=Ext ι s.look s.next w ι' s'.look s'.next w'
def kb (P:Program) (ι:cR) (s:St) (w:World) (sem:Sem Value) (v:Value) (s':St):Prop :=
 ∃ u ι' w',sem.run P w=.ok u w'∧VR ι' v u∧RS P ι' s' w'∧ES ι s w ι' s' w'
theorem RS.put (hR:RS P ι s w) {b:Nat} {o:bX} {l:Loc} (hb:s.heap.get b=some o) (hd:o.bC=false) (hl:ι b=some l) (hro:l.ro=false) (x:Obj) {f:Nat→bX}
  (ho:nV (env P) ι (World.dM w l.dR x) l (f s.cM)):RS P ι (s.put b f) (World.dM w l.dR x)∧ES ι s w ι (s.put b f) (World.dM w l.dR x):=by
 have h1:=R.put (H:=s.look) hR hb hd hl hro x ho
 have h2:=Ext.put (H:=s.look) (n:=s.next) (w:=w) hb hd hl hro x (f s.cM)
 unfold RS ES
 rw[JX]
 exact⟨h1,h2⟩
theorem RS.new {ex:Nat} (hR:RS P ι s w) (x:Obj) {f:Nat→bX} (ho:nV (env P) (ι.add s.next ⟨w.heap.size,0,ex,false⟩) (w.alloc x) ⟨w.heap.size,0,ex,false⟩ (f s.cM)) :
  RS P (ι.add s.next ⟨w.heap.size,0,ex,false⟩) (s.new f) (w.alloc x)∧ES ι s w (ι.add s.next ⟨w.heap.size,0,ex,false⟩) (s.new f) (w.alloc x):=by
 have hfree:ι s.next=none:=hR.fresh _ (Nat.le_refl _) hR.GZ
 have hodd:=hR.GZ
 have h1:=R.newAt (H:=s.look) hR s.next (s.next+2) hfree hR.GZ (by omega) (by omega) (by omega) x ho
 have h2:=Ext.newAt (H:=s.look) (n:=s.next) (w:=w) (ex:=ex) s.next (s.next+2) hfree (Nat.le_refl _) (by omega) (by omega) x (f s.cM)
 unfold RS ES
 rw[WC]
 exact⟨h1,h2⟩
theorem qP (hR:RS P ι s w) {b o:Nat} {l:Loc} (hl:ι b=some l) {vs us:List Value} (hv:eF ι vs us) (h:bJ s ⟨b,o,none⟩ vs=some s') :
  ∃ w',(storeCells ⟨l.dR,l.off+o,none⟩ us).run P w=.ok () w'∧RS P ι s' w'∧ES ι s w ι s' w':=by
 unfold bJ at h
 simp only at h
 split at h
 ·rename_i c z n e r dF hs hb
  split at h
  ·rename_i hc
   simp only[Option.some.injEq] at h;subst h
   obtain⟨l',arr,e',fz,h1,h2,h3,h4,h5,h6,h7,h8⟩:=oV hR (show s.look b=_ from hb)
   rw[hl] at h1;cases h1
   rw[h3 rfl] at h2
   have hlen:=hv.length
   have h1u:us.all kZ=true:=by rw[← hv.kZ];exact hc.2
   refine⟨_,rS us w l.dR (l.off+o) 0 arr e' h2 h1u (by omega),?_⟩
   refine hR.put hb rfl hl h4 _ ⟨nX arr (l.off+o+0) us,e',(0,0),dI (bG h2),fun _=>rfl,h4,h5,?_,by simpa using h7,?_⟩
   ·intro ei hei
    have:=h6 ei hei
    simpa using this
   ·intro i hi
    obtain⟨v0,u0,g1,g2,g3⟩:=h8 i hi
    rw[AF us arr _ _ (by omega)]
    unfold cellAt at g1 ⊢
    rw[if_pos hi] at g1 ⊢
    rw[PT.rF]
    by_cases hoi:o≤i
    ·rw[if_pos hoi,if_pos (by omega),show l.off+i-(l.off+o+0)=i-o from by omega]
     cases hvi:vs[i-o]? with
     | some v1 =>
      obtain⟨u1,k1,k2⟩:=hv.uE _ hvi
      rw[k1]
      exact⟨v1,u1,rfl,rfl,k2⟩
     | none =>
      have:us[i-o]?=none:=by
       rw[List.getElem?_eq_none_iff] at hvi ⊢;omega
      rw[this]
      exact⟨v0,u0,g1,g2,g3⟩
    ·rw[if_neg hoi,if_neg (by omega)]
     exact⟨v0,u0,g1,g2,g3⟩
  ·cases h
 ·cases h
theorem SY (hR:RS P ι s w) {t:TypeId} {a:Addr} {v x u:Value} (hx:VR ι (.pointer (some a)) x) (hv:VR ι v u) (h:storeT (env P) s t a v=some s') :
  ∃ w',(Instr.storeAt t x u).run P w=.ok () w'∧RS P ι s' w'∧ES ι s w ι s' w':=by
 obtain⟨b,o,l,rfl,hl,rfl⟩:=nI hx
 unfold storeT at h
 split at h
 ·rename_i i hi
  split at h
  ·rename_i hsz
   obtain⟨w',g1,g2,g3⟩:=qP hR hl hv.cells h
   refine⟨w',?_,g2,g3⟩
   have husz:u.cells.size=i.size:=by rw[← hv.cells.size];exact hsz
   simp only[Instr.storeAt,Instr.sureAddr,Sem.run_bind,Sem.run_pure,Result.andThen_ok,storeVar,cU hi,husz,ne_eq,not_true_eq_false,if_false,g1]
  ·cases h
 ·cases h
theorem QM (l:List UInt8):eF ι (l.map fun b=>Value.int .u8 b.toNat) (l.map fun b=>Value.int .u8 b.toNat):=.map₂ _ fun _ _=>.int _ _
theorem FG (hR:RS P ι s w) {size n:Nat} {x x':Value} (hx:VR ι x x') {l:List Value} (h:iS s.look size n x=some l) (hn:∀ a c d,x=.slice a c d→n≤c) :
  ∃ l',(Builtin.firstCells size n x').run P w=.ok l' w∧eF ι l l'.toList:=by
 unfold iS at h
 split at h
 ·rename_i a c d
  split at h
  ·rename_i h0
   simp only[Option.some.injEq] at h;subst h
   refine⟨#[],?_,.nil⟩
   cases hx <;> simp[Builtin.firstCells,h0,loadCells,loadCellsFrom]
  ·rename_i h0
   have hc:0<c:=by
    have:=hn _ _ _ rfl
    by_cases hz:n=0
    ·subst hz;simp at h0
    ·omega
   cases hx with
   | slice _ _ hl =>
    obtain⟨us,g1,g2,_⟩:=FP (P:=P) hR hl h
    exact⟨us,by simpa [Builtin.firstCells] using g1,g2⟩
   | nN hl=>omega
 ·simp only[Option.some.injEq] at h;subst h
  rw[qK hx]
  exact⟨#[],rfl,.nil⟩
 ·simp only[Option.some.injEq] at h;subst h
  rw[hx.gA]
  refine⟨_,rfl,?_⟩
  simp only[Array.toList_map]
  exact QM _
 ·cases h
theorem len_run {x x':Value} (hx:VR ι x x') {n:Nat} (h:JS x=some n):(Builtin.lenOf x').run P w=.ok n w:=by
 unfold JS at h
 split at h
 ·simp only[Option.some.injEq] at h;subst h
  cases hx <;> rfl
 ·simp only[Option.some.injEq] at h;subst h
  rw[hx.gA];rfl
 ·cases h
theorem gu {x:Value} {n:Nat} (h:JS x=some n):∀ a c d,x=.slice a c d→n≤c:=by
 rintro a c d rfl
 simp only[JS,Option.some.injEq] at h
 omega
theorem nextslicecap_le {need c:Nat} (h:c<need):Builtin.nextslicecap need c≤2*need+1000:=by
 unfold Builtin.nextslicecap
 split
 ·omega
 ·split
  ·omega
  ·have key:∀ r c,c≤2*need+1000→Builtin.growBy need r c≤2*need+1000:=by
    intro r
    induction r with
    | zero=>intro c hc;simpa [Builtin.growBy] using hc
    | succ r ih =>
     intro c hc
     simp only[Builtin.growBy]
     split
     ·exact hc
     ·exact ih _ (by omega)
   exact key 4 c (by omega)
theorem TM {argTypes:Array TypeId} {ty t t2 e:TypeId} {args:Array Value} {base:Option Addr} {sLen sCap n:Nat} {x:Value} {i i2 ei:Ty} {z:Value}
    (hat:argTypes.toList=[t,t2]) (harg:args.toList=[.slice base sLen sCap,x]) (ht:(env P).ty t=some i) (hd:i.desc=.slice e) (ht2:(env P).ty t2=some i2)
    (hni:uY i2.desc=true) (he:(env P).ty e=some ei) (hz:ei.zero=some z) (hlen:(Builtin.lenOf x).run P w=.ok n w)
    {l':Array Value} (hfirst:(Builtin.firstCells ei.size n x).run P w=.ok l' w) :
    (sLen+n≤sCap→(Builtin.append_ argTypes ty args).run P w =
      ((match base with | some a=>storeCells (a.add (sLen*ei.size)) l'.toList | none=>pure ()).run P w).andThen fun _ w'=>.ok (.slice base (sLen+n) sCap) w') ∧
    (¬ sLen+n≤sCap→sLen+n<2 ^ 40→(2*(sLen+n)+1000)*ei.bytes≤2 ^ 47→∃ newCap w1,w1.heap=w.heap∧w1.tape=w.tape∧w1.os=w.os∧w1.output=w.output∧sLen+n≤newCap ∧
      ∀ (mC new:Array Value),(Builtin.firstCells ei.size sLen (.slice base sLen sCap)).run P w1=.ok mC w1→(Builtin.firstCells ei.size n x).run P w1=.ok new w1 →
        (Builtin.append_ argTypes ty args).run P w=.ok (.slice (some ⟨w1.heap.size,0,none⟩) (sLen+n) newCap)
          (w1.alloc (.cells (mC++new++Builtin.zeroCells z.cells (newCap-(sLen+n))) e (0,0)))):=by
  obtain⟨a0,a1⟩:argTypes[0]?=some t∧argTypes[1]?=some t2:=by
    constructor
    · rw[← Array.getElem?_toList,hat];rfl
    · rw[← Array.getElem?_toList,hat];rfl
  obtain⟨b0,b1⟩:args[0]?=some (.slice base sLen sCap)∧args[1]?=some x:=by
    constructor
    · rw[← Array.getElem?_toList,harg];rfl
    · rw[← Array.getElem?_toList,harg];rfl
  have hz0:i2.desc=.string∨∃ q,i2.desc=.slice q:=by
    cases hdd:i2.desc <;> rw[hdd] at hni <;> first | exact .inl rfl | exact .inr ⟨_,rfl⟩ | cases hni
  obtain⟨inf,e1,e2,_⟩:=rQ (w:=w) he
  constructor
  · intro hfit
    unfold Builtin.append_
    rcases hz0 with hz0 | ⟨q,hz0⟩ <;>
      (simp only[a0,a1,b0,b1,Sem.run_bind,aK ht,hd,Result.andThen_ok,cU he,aK ht2,hz0,Sem.run_pure,Bool.false_eq_true,if_false,hlen,hfit,if_true,Bool.not_false,hfirst]
       cases base <;> simp)
  · intro hfit h40 hb
    have hsc:sCap<sLen+n:=by omega
    have hns:=nextslicecap_le hsc
    have hb':Builtin.nextslicecap (sLen+n) sCap*ei.bytes≤2 ^ 48:=by
      have:Builtin.nextslicecap (sLen+n) sCap*ei.bytes≤(2*(sLen+n)+1000)*ei.bytes:=Nat.mul_le_mul_right _ hns
      omega
    obtain⟨cap,hcap⟩:∃ cap,cap=Question.cut (.appendCap (sLen+n) sCap e) (w.tape w.drawn (.appendCap (sLen+n) sCap e)):=⟨_,rfl⟩
    refine⟨cap,{w with drawn:=w.drawn+1},rfl,rfl,rfl,rfl,?_,?_⟩
    · rw[hcap];simp only[Question.cut];omega
    · intro mC new hold hnew
      have hch:(choose (.appendCap (sLen+n) sCap e)).run P w=.ok cap {w with drawn:=w.drawn+1}:=by
        simp[choose,Sem.run,Question.forced,← hcap]
      have e1':=rQ (w:={w with drawn:=w.drawn+1}) he
      obtain⟨inf',e3,e4,_⟩:=e1'
      have hgt:¬ (((sLen+n:Nat):Int)>IntKind.i64.max):=by
        simp only[IntKind.max,IntKind.signed,IntKind.bits]
        simp
        omega
      unfold Builtin.append_
      rcases hz0 with hz0 | ⟨q,hz0⟩ <;>
        (simp only[a0,a1,b0,b1,Sem.run_bind,aK ht,hd,Result.andThen_ok,cU he,aK ht2,hz0,Sem.run_pure,Bool.false_eq_true,if_false,hlen,hfit,Bool.not_false,e1,e2]
         rw[if_neg (fun hh=>hgt hh.1)]
         simp only[Sem.run_bind,e1,e2,Result.andThen_ok]
         rw[if_neg (by omega)]
         simp only[Sem.run_bind,Sem.run_pure,Result.andThen_ok,hch,e3,run_askRoom,hold,hnew,if_true,jV he hz,newRow,run_newObj]
         rfl)
section
variable {X:Env} {H:aY} {n:Nat}
theorem R.vd (h:R X ι H n w) {b:Nat} {o:bX} {l:Loc} (hb:H b=some o) (hd:o.bC=false) (hl:ι b=some l) (hro:l.ro=false) (x:Obj) (off ex:Nat) {o':bX}
  (ho:nV X (ι.add n ⟨l.dR,off,ex,false⟩) (World.dM w l.dR x) ⟨l.dR,off,ex,false⟩ o') :
  R X (ι.add n ⟨l.dR,off,ex,false⟩) (vQ (vQ H b .dead) n o') (n+2) (World.dM w l.dR x):=by
 have hfree:ι n=none:=h.fresh _ (Nat.le_refl _) h.GZ
 have hle:ι.le (ι.add n ⟨l.dR,off,ex,false⟩):=cR.oB hfree
 have hodd:=h.GZ
 have hbn:b≠n:=by intro e;subst e;rw[hfree] at hl;cases hl
 have mC:∀ c oc,vQ (vQ H b .dead) n o' c=some oc→oc.bC=false→c≠n→c≠b∧H c=some oc:=by
  intro c oc hc hdc hcn
  unfold vQ at hc
  rw[if_neg hcn] at hc
  split at hc
  ·cases hc;cases hdc
  ·rename_i e;exact⟨e,hc⟩
 refine⟨?_,by omega,?_,?_,?_,?_⟩
 ·intro c
  unfold cR.add
  rw[if_neg (by omega)]
  exact h.even c
 ·intro c hc hc2
  unfold cR.add
  rw[if_neg (by omega)]
  exact h.fresh c (by omega) hc2
 ·intro c lc hc hr
  rw[GJ]
  unfold cR.add at hc
  split at hc
  ·cases hc;exact h.qx b l hl hro
  ·exact h.qx c lc hc hr
 ·intro c oc hc hdc
  by_cases hcn:c=n
  ·subst hcn
   simp only[vQ,if_true,Option.some.injEq] at hc
   subst hc
   exact⟨_,cR.add_same _ _ _,ho⟩
  ·obtain⟨hcb,hc'⟩:=mC c oc hc hdc hcn
   obtain⟨lc,h1,h2⟩:=h.obj c oc hc' hdc
   refine⟨lc,hle _ _ h1,h2.mono hle (hY ?_)⟩
   intro he
   exact hcb (h.inj b c o oc l lc hb hd hc' hdc hl h1 hro he.symm).symm
 ·intro c c' oc oc' lc lc' hc hdc hc' hdc' h1 h2 hr he
  by_cases e1:c=n <;> by_cases e2:c'=n
  ·rw[e1,e2]
  ·obtain⟨k1,k2⟩:=mC c' oc' hc' hdc' e2
   unfold cR.add at h1 h2
   rw[if_pos e1] at h1
   rw[if_neg e2] at h2
   cases h1
   exact absurd (h.inj b c' o oc' l lc' hb hd k2 hdc' hl h2 hro he) (Ne.symm k1)
  ·obtain⟨k1,k2⟩:=mC c oc hc hdc e1
   unfold cR.add at h1 h2
   rw[if_neg e1] at h1
   rw[if_pos e2] at h2
   cases h2
   exact absurd (h.inj c b oc o lc l k2 hdc hb hd h1 hl hr he) k1
  ·obtain⟨k1,k2⟩:=mC c oc hc hdc e1
   obtain⟨k3,k4⟩:=mC c' oc' hc' hdc' e2
   unfold cR.add at h1 h2
   rw[if_neg e1] at h1
   rw[if_neg e2] at h2
   exact h.inj c c' oc oc' lc lc' k2 hdc k4 hdc' h1 h2 hr he
theorem Ext.vd (hodd:n%2=1) (hfree:ι n=none) {b:Nat} {o:bX} {l:Loc} (hb:H b=some o) (hd:o.bC=false) (hl:ι b=some l) (hro:l.ro=false) (x:Obj) (off ex:Nat) (o':bX) :
  Ext ι H n w (ι.add n ⟨l.dR,off,ex,false⟩) (vQ (vQ H b .dead) n o') (n+2) (World.dM w l.dR x):=by
 refine⟨cR.oB hfree,?_,by omega,rfl,rfl,rfl,by simp,?_,?_⟩
 ·intro c hc hc2
  unfold cR.add
  rw[if_neg (by omega)]
  exact hc
 ·intro c hc hown
  exact hY fun e=>hown ⟨b,o,l,hb,hd,hl,hro,e.symm⟩
 ·rintro c ⟨d,od,ld,h1,h2,h3,h4,h5⟩
  unfold vQ at h1
  unfold cR.add at h3
  split at h1
  ·rename_i e
   rw[if_pos e] at h3
   cases h3
   exact .inl ⟨b,o,l,hb,hd,hl,hro,h5⟩
  ·rename_i e
   rw[if_neg e] at h3
   split at h1
   ·cases h1;cases h2
   ·exact .inl ⟨d,od,ld,h1,h2,h3,h4,h5⟩
theorem Ext.drew {ι':cR} {H':aY} {n':Nat} {w1 w':World} (h:Ext ι H n w1 ι' H' n' w') (hh:w1.heap=w.heap) (ht:w1.tape=w.tape) (ho:w1.os=w.os) (hu:w1.output=w.output) :
  Ext ι H n w ι' H' n' w' :=
 ⟨h.le,h.new,h.nxt,h.os.trans ho,h.tape.trans ht,h.output.trans hu,hh ▸ h.size,fun c hc hn=>(h.aF c (hh ▸ hc) hn).trans (by rw[hh]),fun c hc=>(h.own c hc).imp id (fun k=>hh ▸ k)⟩
end
theorem RS.kill (hR:RS P ι s w) (b:Nat):RS P ι (s.kill b) w∧ES ι s w ι (s.kill b) w:=by
 have hlook:(s.kill b).look=vQ s.look b .dead:=JX s b _
 have hsub:∀ c o,vQ s.look b .dead c=some o→o.bC=false→s.look c=some o:=by
  intro c o hc hd
  unfold vQ at hc
  split at hc
  ·cases hc;cases hd
  ·exact hc
 unfold RS ES
 rw[hlook]
 refine⟨R.uk hR hsub,⟨cR.le_refl _,fun _ h _=>h,Nat.le_refl _,rfl,rfl,rfl,Nat.le_refl _,fun _ _ _=>rfl,?_⟩⟩
 rintro c ⟨d,od,ld,h1,h2,h3⟩
 exact .inl ⟨d,od,ld,hsub d od h1 h2,h2,h3⟩
theorem vK {c:PT Value} {z:List Value} {m:Nat}:∀ (k i:Nat),i+k≤m→∃ l,dJ c z m i k=some l∧l.length=k∧∀ j,j<k→l[j]?=cellAt c z m (i+j)
 | 0,i,_=>⟨[],rfl,rfl,fun j hj=>by omega⟩
 | k+1,i,h=>by
  obtain⟨l,h1,h2,h3⟩:=vK (c:=c) (z:=z) (m:=m) k (i+1) (by omega)
  obtain⟨v,hv⟩:∃ v,cellAt c z m i=some v:=by
   unfold cellAt
   rw[if_pos (by omega)]
   exact⟨_,rfl⟩
  refine⟨v::l,by simp[dJ,hv,h1],by simp[h2],?_⟩
  intro j hj
  cases j with
  | zero=>simp[hv]
  | succ j=>rw[List.getElem?_cons_succ,h3 j (by omega)];congr 1;omega
theorem ZJ {c:PT Value} {z:List Value} {m:Nat} {a:Addr} {k:Nat} {new:List Value} {c':PT Value} {z':List Value} (h:jK c z m a k new=some (c',z')) :
  ∃ mC,mC.length=k∧(k=0∨(a.spot=none∧dJ c z m a.off k=some mC))∧∀ i,i<k+new.length→cellAt c' z' (k+new.length) i=(mC++new)[i]?:=by
 unfold jK at h
 split at h
 ·rename_i hk
  subst hk
  simp only[Option.some.injEq,Prod.mk.injEq] at h
  obtain⟨rfl,rfl⟩:=h
  refine⟨[],rfl,.inl rfl,?_⟩
  intro i hi
  unfold cellAt
  rw[if_pos hi,PT.fE]
  have:new[i]?=some new[i]:=List.getElem?_eq_getElem (by omega)
  simp[this]
 ·rename_i hk
  split at h
  ·cases h
  ·rename_i hsp
   split at h
   ·rename_i h0
    split at h
    ·rename_i hkm
     simp only[Option.some.injEq,Prod.mk.injEq] at h
     obtain⟨rfl,rfl⟩:=h
     obtain⟨mC,h1,h2,h3⟩:=vK (c:=c) (z:=z) (m:=m) k 0 (by omega)
     refine⟨mC,h2,.inr ⟨hsp,by rw[h0];exact h1⟩,?_⟩
     intro i hi
     by_cases hik:i<k
     ·rw[List.getElem?_append_left (by omega),h3 i hik]
      unfold cellAt
      rw[if_pos hi,if_pos (by omega),PT.rF,if_neg (by omega)]
      simp
     ·rw[List.getElem?_append_right (by omega),h2]
      unfold cellAt
      rw[if_pos hi,PT.rF,if_pos (by omega)]
      have:new[i-k]?=some new[i-k]:=List.getElem?_eq_getElem (by omega)
      simp[this]
    ·cases h
   ·split at h
    ·rename_i mC ho
     simp only[Option.some.injEq,Prod.mk.injEq] at h
     obtain⟨rfl,rfl⟩:=h
     have hlen:mC.length=k:=by
      have:∀ (k i:Nat) (l:List Value),dJ c z m i k=some l→l.length=k:=by
       intro k
       induction k with
       | zero=>intro i l h;simp[dJ] at h;subst h;rfl
       | succ k ih =>
        intro i l h
        simp only[dJ] at h
        split at h
        ·split at h
         ·rename_i hr
          simp only[Option.some.injEq] at h
          subst h
          simp[ih _ _ hr]
         ·cases h
        ·cases h
      exact this _ _ _ ho
     refine⟨mC,hlen,.inr ⟨hsp,ho⟩,?_⟩
     intro i hi
     unfold cellAt
     rw[if_pos hi,PT.fE]
     obtain⟨y,hy⟩:∃ y,(mC++new)[i]?=some y:=⟨_,List.getElem?_eq_getElem (by simp;omega)⟩
     rw[hy]
    ·cases h
theorem KH {X:Env} {l l':List Value} (hl:eF ι l l') {loc:Loc} {c:PT Value} {z:List Value} {e e':TypeId} {room:Bool} {dF m:Nat} (hm:m=l.length) (hc:∀ i,i<m→cellAt c z m i=l[i]?)
  {arr:Array Value} (hb:w.heap[loc.dR]?=some (.cells arr e' (0,0))) (harr:∀ i,i<m→arr[loc.off+i]?=l'[i]?) (hro:loc.ro=false) (hroom:room=false→loc.extra=0)
  (hsz:∀ ei,X.ty e=some ei→loc.off+m+loc.extra*ei.size≤arr.size) (hsz':loc.off+m≤arr.size):nV X ι w loc (.cells c z m e room false dF):=by
 refine⟨arr,e',(0,0),hb,fun _=>rfl,hro,hroom,hsz,hsz',?_⟩
 intro i hi
 have hg:l[i]?=some l[i]:=List.getElem?_eq_getElem (by omega)
 obtain⟨u,h1,h2⟩:=hl.uE i hg
 exact⟨l[i],u,by rw[hc i hi,hg],by rw[harr i hi,h1],h2⟩
theorem FH (hR:RS P ι s w) {w1:World} (hh:w1.heap=w.heap) (ht:w1.tape=w.tape) (ho:w1.os=w.os) (hu:w1.output=w.output) {e:TypeId} {ei:Ty} {z:Value}
  (he:(env P).ty e=some ei) (hzs:z.cells.size=ei.size) {L:List Value} {U:Array Value} (hL:eF ι L U.toList) {need newCap:Nat} (hlen:L.length=need*ei.size) (hcap:need≤newCap)
  {c:PT Value} {zz:List Value} (hc:∀ i,i<need*ei.size→cellAt c zz (need*ei.size) i=L[i]?) :
  ∃ ι' w',w'=w1.alloc (.cells (U++Builtin.zeroCells z.cells (newCap-need)) e (0,0))∧VR ι' (.slice (some ⟨s.next,0,none⟩) need need) (.slice (some ⟨w1.heap.size,0,none⟩) need newCap) ∧
   RS P ι' (s.new fun v=>.cells c zz (need*ei.size) e true false v) w'∧ES ι s w ι' (s.new fun v=>.cells c zz (need*ei.size) e true false v) w':=by
 have hR1:RS P ι s w1:=R.drew hR hh
 have hfree:ι s.next=none:=hR.fresh _ (Nat.le_refl _) hR.GZ
 have hUl:U.size=need*ei.size:=by rw[← hlen];exact(by simpa using hL.length.symm)
 have hsz:(U++Builtin.zeroCells z.cells (newCap-need)).size=need*ei.size+(newCap-need)*ei.size:=by
  simp[Builtin.zeroCells,hUl,hzs]
 have hobj:nV (env P) (ι.add s.next ⟨w1.heap.size,0,newCap-need,false⟩) (w1.alloc (.cells (U++Builtin.zeroCells z.cells (newCap-need)) e (0,0))) ⟨w1.heap.size,0,newCap-need,false⟩
   ((fun v=>bX.cells c zz (need*ei.size) e true false v) s.cM):=by
  refine KH (eF.mono (cR.oB hfree) hL) hlen.symm hc (e':=e) heap_alloc_new ?_ rfl (fun h=>by cases h) ?_ ?_
  ·intro i hi
   simp only[Nat.zero_add]
   rw[Array.getElem?_append_left (by omega)]
   simp
  ·intro ei' hei'
   rw[he] at hei'
   cases hei'
   simp only[Nat.zero_add];omega
  ·simp only[Nat.zero_add];omega
 obtain⟨g1,g2⟩:=RS.new hR1 _ hobj
 refine⟨_,_,rfl,?_,g1,Ext.drew g2 hh ht ho hu⟩
 have:=VR.slice (ι:=ι.add s.next ⟨w1.heap.size,0,newCap-need,false⟩) (o:=0) need need (cR.add_same ι s.next _)
 simpa [show need+(newCap-need)=newCap from by omega] using this
theorem MP (hR:RS P ι s w) {argTypes:Array TypeId} {ty t t2 e:TypeId} {args:Array Value} {base base':Option Addr} {sLen sCap sCap' n:Nat} {x:Value} {i i2 ei:Ty} {z:Value}
  (hat:argTypes.toList=[t,t2]) (harg:args.toList=[.slice base' sLen sCap',x]) (ht:(env P).ty t=some i) (hd:i.desc=.slice e) (ht2:(env P).ty t2=some i2)
  (hni:uY i2.desc=true) (he:(env P).ty e=some ei) (hz:ei.zero=some z) (hzs:z.cells.size=ei.size) (hlen:∀ w1:World,(Builtin.lenOf x).run P w1=.ok n w1)
  (hs:VR ι (.slice base sLen sCap) (.slice base' sLen sCap')) {new:List Value} {newU:Array Value} (hnew:eF ι new newU.toList)
  (hfirst:∀ w1:World,w1.heap=w.heap→(Builtin.firstCells ei.size n x).run P w1=.ok newU w1) (hnl:new.length=n*ei.size) (h40:sLen+n<2 ^ 40)
  (hb47:(2*(sLen+n)+1000)*ei.bytes≤2 ^ 47) (hone:new.all kZ=true) {v:Value} (h:jI s e ei.size base sLen sCap n new=some (v,s')) :
  kb P ι s w (Builtin.append_ argTypes ty args) v s':=by
 obtain⟨hfit,hgrow⟩:=TM (w:=w) (ty:=ty) hat harg ht hd ht2 hni he hz (hlen w) (hfirst w rfl)
 unfold jI at h
 split at h
 ·
  rename_i hle
  split at h
  ·rename_i a
   split at h
   ·rename_i hemp
    simp only[Option.some.injEq,Prod.mk.injEq] at h
    obtain⟨rfl,rfl⟩:=h
    have uG:new=[]:=by simpa using hemp
    subst uG
    have hUnil:newU.toList=[]:=hnew.WG
    generalize hb':Value.slice base' sLen sCap'=u at hs
    cases hs with
    | slice _ _ hl =>
     cases hb'
     refine⟨_,ι,w,?_,.slice _ _ hl,hR,Ext.refl⟩
     rw[hfit (by omega),hUnil];rfl
    | nN hl =>
     cases hb'
     have hn0:n=0:=by omega
     subst hn0
     refine⟨_,ι,w,?_,.nN hl,hR,Ext.refl⟩
     rw[hfit (by omega),hUnil];rfl
   ·rename_i hemp
    split at h
    ·rename_i s1 hst
     simp only[Option.some.injEq,Prod.mk.injEq] at h
     obtain⟨rfl,rfl⟩:=h
     generalize hb':Value.slice base' sLen sCap'=u at hs
     cases hs with
     | slice _ _ hl =>
      cases hb'
      rw[Addr.gF] at hst
      obtain⟨w',g1,g2,g3⟩:=qP hR hl hnew hst
      refine⟨_,ι,w',?_,.slice _ _ hl,g2,g3⟩
      rw[hfit (by omega)]
      simp only[Addr.gF]
      rw[Nat.add_assoc,g1];rfl
     | nN hl =>
      have hn0:n=0:=by omega
      subst hn0
      have:new=[]:=List.eq_nil_of_length_eq_zero (by simpa using hnl)
      subst this
      exact absurd rfl hemp
    ·cases h
  ·split at h
   ·rename_i hn0
    subst hn0
    simp only[Option.some.injEq,Prod.mk.injEq] at h
    obtain⟨rfl,rfl⟩:=h
    cases hs
    refine⟨_,ι,w,?_,.nF _ _,hR,Ext.refl⟩
    rw[hfit hle];rfl
   ·cases h
 ·
  rename_i hle
  split at h
  ·split at h
   ·rename_i hs0
    subst hs0
    simp only[Option.some.injEq,Prod.mk.injEq] at h
    obtain⟨rfl,rfl⟩:=h
    cases hs
    obtain⟨newCap,w1,k1,k2,k3,k4,k5,k6⟩:=hgrow hle h40 hb47
    have hrun:=k6 #[] newU rfl (hfirst w1 k1)
    obtain⟨ι',w',q1,q2,q3,q4⟩:=FH hR k1 k2 k3 k4 he hzs hnew (need:=0+n) (by simpa using hnl) k5 (c:=PT.ofList new) (zz:=[]) (by
     intro i hi
     unfold cellAt
     rw[if_pos hi,PT.fE]
     obtain⟨y,hy⟩:∃ y,new[i]?=some y:=⟨_,List.getElem?_eq_getElem (by rw[hnl];simpa using hi)⟩
     rw[hy])
    refine⟨_,ι',w',?_,q2,q3,q4⟩
    rw[hrun,q1];simp
   ·cases h
  ·rename_i a
   split at h
   ·rename_i c zz m e0 room dF hH
    split at h
    ·rename_i hcond
     obtain⟨he0,hin⟩:=hcond
     have he0':=he0.symm
     subst he0'
     split at h
     ·rename_i c' z' hg
      simp only[Option.some.injEq,Prod.mk.injEq] at h
      obtain⟨rfl,rfl⟩:=h
      obtain⟨mC,g1,g2,g3⟩:=ZJ hg
      obtain⟨l,arr,e',fz,p1,p2,p3,p4,p5,p6,p7,p8⟩:=oV hR (show s.look a.block=_ from hH)
      rw[p3 rfl] at p2
      have p6':=p6 ei he
      obtain⟨off',hbase,hcap',hF1,hF2⟩:∃ off',base'=some ⟨l.dR,off',none⟩∧sCap'=sCap+l.extra∧(sLen*ei.size≠0→a.spot=none∧off'=l.off+a.off) ∧
        (sLen+n≤sCap'→off'+(sCap+l.extra)*ei.size≤arr.size):=by
       generalize hb':Value.slice base' sLen sCap'=u at hs
       cases hs with
       | slice _ _ hl =>
        cases hb'
        simp only at p1
        rw[hl] at p1;cases p1
        simp only[inBlock,decide_eq_true_eq] at hin
        refine⟨_,rfl,rfl,fun _=>⟨rfl,rfl⟩,fun _=>?_⟩
        rw[Nat.add_mul];omega
       | nN hl =>
        cases hb'
        simp only at p1
        rw[hl] at p1;cases p1
        simp only[inBlock,decide_eq_true_eq] at hin
        refine⟨_,rfl,by omega,fun h0=>by simp at h0,fun hf=>?_⟩
        rw[if_neg (by omega)]
        simp only[Nat.zero_add];omega
      subst hbase
      subst hcap'
      obtain⟨oldU,hold,holdrun,holdarr⟩:∃ oldU:Array Value,eF ι mC oldU.toList ∧
        (∀ w1:World,w1.heap=w.heap→(Builtin.firstCells ei.size sLen (.slice (some ⟨l.dR,off',none⟩) sLen (sCap+l.extra))).run P w1=.ok oldU w1) ∧
        ∀ i,i<sLen*ei.size→arr[off'+i]?=oldU.toList[i]?:=by
       by_cases h0:sLen*ei.size=0
       ·have:mC=[]:=List.eq_nil_of_length_eq_zero (by omega)
        subst this
        exact⟨#[],.nil,fun w1 _=>by simp[Builtin.firstCells,h0,loadCells,loadCellsFrom],fun i hi=>by omega⟩
       ·obtain⟨hsp,hoff⟩:=hF1 h0
        subst hoff
        rcases g2 with g2 | ⟨_,g2⟩
        ·exact absurd g2 h0
        ·obtain⟨r1,r2,r3⟩:=oR p8 _ _ _ g2
         refine⟨((arr.toList.drop (l.off+a.off)).take (sLen*ei.size)).toArray,by simpa using r3,?_,?_⟩
         ·intro w1 hw1
          have:=run_loadCells (P:=P) (w:=w1) (k:=sLen*ei.size) (o:=l.off+a.off) (by rw[hw1];exact p2) (by omega)
          simpa [Builtin.firstCells] using this
         ·intro i hi
          simp[hi,List.getElem?_drop]
      have hLU:eF ι (mC++new) (oldU++newU).toList:=by simpa using hold.append hnew
      have hLlen:(mC++new).length=(sLen+n)*ei.size:=by rw[List.length_append,g1,hnl,Nat.add_mul]
      have hcells:∀ i,i<(sLen+n)*ei.size→cellAt c' z' ((sLen+n)*ei.size) i=(mC++new)[i]?:=by
       intro i hi
       have:=g3 i (by rw[hnl,← Nat.add_mul];exact hi)
       rw[hnl,← Nat.add_mul] at this
       exact this
      by_cases hfc:sLen+n≤sCap+l.extra
      ·
       have hroom:room=true:=by
        cases room with
        | true=>rfl
        | false=>have:=p5 rfl;omega
       subst hroom
       have hb2:=hF2 hfc
       have hnlU:newU.toList.length=n*ei.size:=by rw[← hnew.length];exact hnl
       have hneed:(sLen+n)*ei.size≤(sCap+l.extra)*ei.size:=Nat.mul_le_mul_right _ hfc
       have hmul:(sLen+n)*ei.size=sLen*ei.size+n*ei.size:=Nat.add_mul _ _ _
       have hst:=rS (P:=P) newU.toList w l.dR (off'+sLen*ei.size) 0 arr e' p2 (by rw[← hnew.kZ];exact hone) (by omega)
       have hsub:(sCap+l.extra-(sLen+n))*ei.size+(sLen+n)*ei.size=(sCap+l.extra)*ei.size:=by rw[← Nat.add_mul];congr 1;omega
       have hfree:ι s.next=none:=hR.fresh _ (Nat.le_refl _) hR.GZ
       have hobj:nV (env P) (ι.add s.next ⟨l.dR,off',sCap+l.extra-(sLen+n),false⟩) (World.dM w l.dR (.cells (nX arr (off'+sLen*ei.size+0) newU.toList) e' (0,0)))
         ⟨l.dR,off',sCap+l.extra-(sLen+n),false⟩ (.cells c' z' ((sLen+n)*ei.size) e true false (s.cM+1)):=by
        refine KH (eF.mono (cR.oB hfree) hLU) hLlen.symm hcells (e':=e') (dI (bG p2)) ?_ rfl (fun h=>by cases h) ?_ ?_
        ·intro i hi
         have hol:oldU.toList.length=sLen*ei.size:=by rw[← hold.length];exact g1
         simp only
         rw[AF _ _ _ _ (by omega)]
         by_cases hi2:i<sLen*ei.size
         ·rw[if_neg (by omega),holdarr i hi2,Array.toList_append,List.getElem?_append_left (by omega)]
         ·rw[if_pos (by omega),Array.toList_append,List.getElem?_append_right (by omega),hol,show off'+i-(off'+sLen*ei.size+0)=i-sLen*ei.size from by omega]
          obtain⟨y,hy⟩:∃ y,newU.toList[i-sLen*ei.size]?=some y:=⟨_,List.getElem?_eq_getElem (by omega)⟩
          rw[hy]
        ·intro ei' hei'
         rw[he] at hei';cases hei'
         simp only[wU];omega
        ·simp only[wU];omega
       have k1:=R.vd (H:=s.look) hR (show s.look a.block=_ from hH) rfl p1 p4 _ off' (sCap+l.extra-(sLen+n)) hobj
       have k2:=Ext.vd (H:=s.look) (w:=w) hR.GZ hfree (show s.look a.block=_ from hH) rfl p1 p4 (.cells (nX arr (off'+sLen*ei.size+0) newU.toList) e' (0,0)) off' (sCap+l.extra-(sLen+n))
        (.cells c' z' ((sLen+n)*ei.size) e true false (s.cM+1))
       have hlook:((s.kill a.block).new fun v=>bX.cells c' z' ((sLen+n)*ei.size) e true false v).look =
         vQ (vQ s.look a.block .dead) s.next (.cells c' z' ((sLen+n)*ei.size) e true false (s.cM+1)):=by
        rw[WC]
        show vQ (s.kill a.block).look s.next _=_
        rw[show (s.kill a.block).look=vQ s.look a.block .dead from JX s _ _]
        rfl
       refine⟨.slice (some ⟨l.dR,off',none⟩) (sLen+n) (sCap+l.extra),ι.add s.next ⟨l.dR,off',sCap+l.extra-(sLen+n),false⟩,World.dM w l.dR (.cells (nX arr (off'+sLen*ei.size+0) newU.toList) e' (0,0)),?_,?_,?_,?_⟩
       ·rw[hfit hfc]
        simp only[Addr.gF]
        rw[hst];rfl
       ·have:=VR.slice (ι:=ι.add s.next ⟨l.dR,off',sCap+l.extra-(sLen+n),false⟩) (o:=0) (sLen+n) (sLen+n) (cR.add_same ι s.next _)
        simpa [show sLen+n+(sCap+l.extra-(sLen+n))=sCap+l.extra from by omega] using this
       ·unfold RS;simp only[if_true];rw[hlook];exact k1
       ·unfold ES;simp only[if_true];rw[hlook];exact k2
      ·
       obtain⟨newCap,w1,k1,k2,k3,k4,k5,k6⟩:=hgrow hfc h40 hb47
       have hrun:=k6 oldU newU (holdrun w1 k1) (hfirst w1 k1)
       have hs1:∃ s1:St,s1=(if room then s.kill a.block else s)∧s1.next=s.next∧RS P ι s1 w∧ES ι s w ι s1 w:=by
        cases room with
        | true=>exact⟨_,rfl,rfl,(hR.kill a.block).1,(hR.kill a.block).2⟩
        | false=>exact⟨_,rfl,rfl,hR,Ext.refl⟩
       obtain⟨s1,hs1,hn1,hR1,hE1⟩:=hs1
       rw[← hs1]
       obtain⟨ι',w',q1,q2,q3,q4⟩:=FH hR1 k1 k2 k3 k4 he hzs hLU hLlen k5 hcells
       rw[hn1] at q2
       refine⟨_,ι',w',?_,q2,q3,Ext.trans hE1 q4⟩
       rw[hrun,q1]
     ·cases h
    ·cases h
   ·cases h
variable {P:Program} {ι:cR} {s s':St} {w:World}
theorem RS.drew (hR:RS P ι s w) {w':World} (h:w'.heap=w.heap):RS P ι s w':=R.drew hR h
theorem VV {x x':Value} (hx:VR ι x x') {n:Nat} (h:JS x=some n) (w1:World):(Builtin.lenOf x').run P w1=.ok n w1:=len_run hx h
theorem NW (hR:RS P ι s w) {size n:Nat} {x x':Value} (hx:VR ι x x') {l:List Value} (h:iS s.look size n x=some l) (hn:∀ a c d,x=.slice a c d→n≤c) :
  ∃ l':Array Value,eF ι l l'.toList∧∀ w1:World,w1.heap=w.heap→(Builtin.firstCells size n x').run P w1=.ok l' w1:=by
 obtain⟨l',g1,g2⟩:=FG (P:=P) hR hx h hn
 refine⟨l',g2,fun w1 hw1=>?_⟩
 obtain⟨l'',k1,k2⟩:=FG (P:=P) (hR.drew hw1) hx h hn
 have:l''=l':=by
  unfold iS at h
  split at h
  ·rename_i a c d
   split at h
   ·rename_i h0
    cases hx <;> simp[Builtin.firstCells,h0,loadCells,loadCellsFrom] at g1 k1 <;> rw[g1,k1]
   ·rename_i h0
    have hc:0<c:=by
     have:=hn _ _ _ rfl
     by_cases hz:n=0
     ·subst hz;simp at h0
     ·omega
    cases hx with
    | @slice b0 o0 l0 _ _ hl =>
     unfold aS at h
     simp only at h
     split at h
     ·rename_i cc z m e room ro dF hs hb
      obtain⟨l1,arr,e',fz,p1,p2,_,_,_,_,p6,p7⟩:=oV hR (show s.look _=_ from hb)
      rw[hl] at p1;cases p1
      obtain⟨q1,_,_⟩:=oR p7 _ _ _ h
      have r1:=run_loadCells (P:=P) (w:=w) (k:=n*size) (o:=l0.off+o0) p2 (by omega)
      have r2:=run_loadCells (P:=P) (w:=w1) (k:=n*size) (o:=l0.off+o0) (by rw[hw1];exact p2) (by omega)
      simp only[Builtin.firstCells] at g1 k1
      rw[r1] at g1
      rw[r2] at k1
      cases g1;cases k1;rfl
     ·cases h
    | nN hl=>omega
  ·rw[qK hx] at g1 k1
   cases g1;cases k1;rfl
  ·rw[hx.gA] at g1 k1
   cases g1;cases k1;rfl
  ·cases h
 rw[← this];exact k1
theorem QD (hR:RS P ι s w) {argTypes:Array TypeId} {ty:TypeId} {args:List Value} {args':Array Value} (ha:eF ι args args'.toList) {v:Value}
  (h:iC (env P) s argTypes args=some (v,s')):kb P ι s w (Builtin.append_ argTypes ty args') v s':=by
 unfold iC at h
 split at h
 ·rename_i t t2 base sLen sCap x hat
  generalize hl:args'.toList=l' at ha
  cases ha with
  | cons hs ha =>
  cases ha with
  | cons hx ha =>
  cases ha with
  | nil =>
  rename_i u x'
  split at h
  ·rename_i e sz by_ ze ag me cm i2 ht ht2
   split at h
   ·rename_i d z esz eb ea em ec n he hn
    split at h
    ·cases h
    ·rename_i new hf
     split at h
     ·rename_i hc
      obtain⟨c1,c2,c3,c4,c5,c6⟩:=hc
      obtain⟨newU,q1,q2⟩:=NW hR hx hf (gu hn)
      have hsv:∃ base' sCap',u=.slice base' sLen sCap':=by
       cases hs <;> exact⟨_,_,rfl⟩
      obtain⟨base',sCap',rfl⟩:=hsv
      exact MP hR hat hl ht rfl ht2 c2 he rfl c3 (fun w1=>VV hx hn w1) hs q1 q2 c1 c4 c5 c6 h
     ·cases h
   ·cases h
  ·cases h
 ·cases h
theorem YV (hR:RS P ι s w) {argTypes:Array TypeId} {ty:TypeId} {args:List Value} {args':Array Value} (ha:eF ι args args'.toList) {v:Value}
  (h:NR (env P) s argTypes args=some (v,s')):kb P ι s w (Builtin.copy_ argTypes ty args') v s':=by
 unfold NR at h
 split at h
 ·rename_i t base dLen dCap x hat
  generalize hl:args'.toList=l' at ha
  cases ha with
  | cons hs ha =>
  cases ha with
  | cons hx ha =>
  cases ha with
  | nil =>
  rename_i u x'
  obtain⟨b0,b1⟩:args'[0]?=some u∧args'[1]?=some x':=by
   constructor
   ·rw[← Array.getElem?_toList,hl];rfl
   ·rw[← Array.getElem?_toList,hl];rfl
  split at h
  ·rename_i e sz by_ ze ag me cm ht
   split at h
   ·rename_i ei m he hm
    split at h
    ·rename_i cs hf
     obtain⟨csU,q1,q2⟩:=NW hR hx hf (fun a c d e=>Nat.le_trans (Nat.min_le_left m dLen) (gu hm a c d e))
     have hsv:∃ base' dCap',u=.slice base' dLen dCap'∧(base=none↔base'=none):=by
      cases hs <;> exact⟨_,_,rfl,by simp⟩
     obtain⟨base',dCap',rfl,hbn⟩:=hsv
     have hrun:(Builtin.copy_ argTypes ty args').run P w=((match base' with | some a=>storeCells a csU.toList | none=>pure ()).run P w).andThen fun _ w'=>.ok (goInt (Nat.min m dLen:Nat)) w':=by
      unfold Builtin.copy_
      simp only[hat,b0,b1,Sem.run_bind,aK ht,Result.andThen_ok,VV hx hm w,cU he,q2 w rfl]
      cases base' <;> simp
     split at h
     ·rename_i a
      split at h
      ·rename_i hemp
       simp only[Option.some.injEq,Prod.mk.injEq] at h
       obtain⟨rfl,rfl⟩:=h
       have:cs=[]:=by simpa using hemp
       subst this
       have hU:=q1.WG
       refine⟨_,ι,w,?_,.int _ _,hR,Ext.refl⟩
       rw[hrun]
       cases base' with
       | none=>rfl
       | some a'=>simp[goInt,hU,storeCells]
      ·rename_i hemp
       split at h
       ·rename_i s1 hst
        simp only[Option.some.injEq,Prod.mk.injEq] at h
        obtain⟨rfl,rfl⟩:=h
        generalize hb':Value.slice base' dLen dCap'=u' at hs
        cases hs with
        | slice _ _ hl2 =>
         cases hb'
         obtain⟨w',g1,g2,g3⟩:=qP hR hl2 q1 hst
         refine⟨_,ι,w',?_,.int _ _,g2,g3⟩
         rw[hrun]
         simp only[g1];rfl
        | nN hl2 =>
         unfold bJ at hst
         simp at hst
       ·cases h
     ·simp only[Option.some.injEq,Prod.mk.injEq] at h
      obtain⟨rfl,rfl⟩:=h
      have:base'=none:=hbn.1 rfl
      subst this
      exact⟨_,ι,w,by rw[hrun];rfl,.int _ _,hR,Ext.refl⟩
    ·cases h
   ·cases h
  ·cases h
 ·cases h
theorem SP {k x:Value} (h:vH k x=some true):Instr.sameBits 10000 x k=true:=by
 unfold vH at h
 split at h
 ·split at h
  ·rename_i hk
   subst hk
   simp only[Option.some.injEq,beq_iff_eq] at h
   subst h
   simp[Instr.sameBits]
  ·cases h
 ·simp only[Option.some.injEq] at h
  simp only[Instr.sameBits]
  rw[beq_toListBytes] at h ⊢
  rw[beq_iff_eq] at h ⊢
  exact h.symm
 ·simp only[Option.some.injEq,beq_iff_eq] at h
  subst h
  simp[Instr.sameBits]
 ·cases h
theorem sN.get {l l':List MapEntry} (h:sN ι l l') (j:Nat) {e:MapEntry} (he:l[j]?=some e):∃ e',l'[j]?=some e'∧ER ι e e':=by
 induction h generalizing j with
 | nil=>simp at he
 | cons hx t ih =>
  cases j with
  | zero=>simp at he;subst he;exact⟨_,by simp,hx⟩
  | succ j=>obtain⟨e',h1,h2⟩:=ih j (by simpa using he);exact⟨e',by simpa using h1,h2⟩
theorem sN.modify {l l':List MapEntry} (h:sN ι l l') (j:Nat) {f g:MapEntry→MapEntry} (hfg:∀ e e',ER ι e e'→ER ι (f e) (g e')):sN ι (l.modify j f) (l'.modify j g):=by
 induction h generalizing j with
 | nil=>simp;exact .nil
 | cons hx t ih =>
  cases j with
  | zero=>simp only[List.modify_zero_cons];exact .cons (hfg _ _ hx) t
  | succ j=>simp only[List.modify_succ_cons];exact .cons hx (ih j)
theorem sN.append {a a' b b':List MapEntry} (h:sN ι a a') (k:sN ι b b'):sN ι (a++b) (a'++b'):=by
 induction h with
 | nil=>exact k
 | cons hx _ ih=>exact .cons hx ih
theorem sN.eraseIdx {l l':List MapEntry} (h:sN ι l l') (j:Nat):sN ι (l.eraseIdx j) (l'.eraseIdx j):=by
 induction h generalizing j with
 | nil=>simp;exact .nil
 | cons hx t ih =>
  cases j with
  | zero=>simpa using t
  | succ j=>simp only[List.eraseIdx_cons_succ];exact .cons hx (ih j)
theorem RU (hR:RS P ι s w) {r:Nat} {es:List MapEntry} {c dF:Nat} (h:s.heap.get r=some (.map es c dF)) :
  ∃ l es',ι r=some l∧l.ro=false∧l.off=0∧l.extra=0∧w.heap[l.dR]?=some (.map es' c)∧sN ι es es'.toList:=by
 obtain⟨l,h1,h2,h3,h4,es',h5,h6⟩:=hR.obj r _ (show s.look r=_ from h) rfl
 exact⟨l,es',h1,h2,h3,h4,h5,h6⟩
theorem rR {b:Nat} {es:Array MapEntry} {c:Nat} (h:w.heap[b]?=some (.map es c)) (o:Obj):(setObj b o).run P w=.ok () (World.dM w b o):=by
 simp[setObj,Sem.run,h,World.dM]
theorem CD (hR:RS P ι s w) {t:TypeId} {m k v m' k' v':Value} (hm:VR ι m m') (hk:VR ι k k') (hv:VR ι v v') (h:gM (env P) s t m k v=some s') :
  ∃ w',(Instr.mapUpdate t m' k' v').run P w=.ok () w'∧RS P ι s' w'∧ES ι s w ι s' w':=by
 unfold gM at h
 split at h
 ·rename_i kt et sz by_ ze ag me cm r ht
  obtain⟨l,hl,rfl⟩:=uL hm
  split at h
  ·rename_i hkk
   have hkeq:=ZT hkk hk
   have hkeq':=hkeq.symm
   subst hkeq'
   split at h
   ·rename_i es c dF hH
    obtain⟨l',es',p1,p2,p3,p4,p5,p6⟩:=RU hR hH
    rw[hl] at p1;cases p1
    have hck:=run_checkKey (w:=w) hkk false
    split at h
    ·rename_i j v0 hf
     simp only[Option.some.injEq] at h;subst h
     obtain⟨r',g1,v0',g2,g3,e0,g4,g5⟩:=run_findKey (P:=P) (w:=w) hkk p6 hf
     subst g2
     obtain⟨e0',q1,q2⟩:=p6.get j g4
     have q1':es'[j]?=some e0':=by simpa using q1
     have hsb:Instr.sameBits 10000 e0'.key k=true:=by
      rw[AI g5 q2.key];exact SP g5
     refine⟨_,?_,hR.put hH rfl hl p2 (.map (es'.modify j fun e=>{e with key:=k,val:=v'}) c) ⟨p2,p3,p4,_,dI (bG p5),?_⟩⟩
     ·unfold Instr.mapUpdate
      simp only[Sem.run_bind,aK ht,Result.andThen_ok,hZ p5,hck,g1,q1',Option.map_some,Option.getD_some,Instr.keyThatStays,hsb,if_true,Sem.run_pure,rR p5]
     ·rw[Array.toList_modify]
      exact p6.modify j fun e e' he=>⟨hk,hv,he.born⟩
    ·rename_i hf
     simp only[Option.some.injEq] at h;subst h
     obtain⟨r',g1,g2⟩:=run_findKey (P:=P) (w:=w) hkk p6 hf
     cases (show r'=none from g2)
     refine⟨_,?_,hR.put hH rfl hl p2 (.map (es'.push {key:=k,val:=v',born:=c}) (c+1)) ⟨p2,p3,p4,_,dI (bG p5),?_⟩⟩
     ·unfold Instr.mapUpdate
      simp only[Sem.run_bind,aK ht,Result.andThen_ok,hZ p5,hck,g1,rR p5]
     ·rw[Array.toList_push]
      exact p6.append (.cons ⟨hk,hv,rfl⟩ .nil)
    ·cases h
   ·cases h
  ·cases h
 ·cases h
theorem QO (hR:RS P ι s w) {argTypes:Array TypeId} {ty:TypeId} {args:List Value} {args':Array Value} (ha:eF ι args args'.toList) {v:Value}
  (h:mZ (env P) s argTypes args=some (v,s')):kb P ι s w (Builtin.delete_ argTypes ty args') v s':=by
 unfold mZ at h
 split at h
 ·rename_i t m k hat
  generalize hl:args'.toList=l' at ha
  cases ha with
  | cons hm ha =>
  cases ha with
  | cons hk ha =>
  cases ha with
  | nil =>
  rename_i m' k'
  obtain⟨b0,b1⟩:args'[0]?=some m'∧args'[1]?=some k':=by
   constructor
   ·rw[← Array.getElem?_toList,hl];rfl
   ·rw[← Array.getElem?_toList,hl];rfl
  have hunit:VR ι (.tuple #[]) (.tuple #[]):=VR.undef ι
  split at h
  ·rename_i kt et sz by_ ze ag me cm ht
   split at h
   ·rename_i hkk
    have hkeq:=ZT hkk hk
    have hkeq':=hkeq.symm
    subst hkeq'
    split at h
    ·rw[rJ hm] at b0
     simp only[Option.some.injEq,Prod.mk.injEq] at h
     obtain⟨rfl,rfl⟩:=h
     refine⟨_,ι,w,?_,hunit,hR,Ext.refl⟩
     unfold Builtin.delete_
     simp only[hat,b0,b1,Sem.run_bind,aK ht,Result.andThen_ok,run_checkKey hkk,Sem.run_pure]
    ·rename_i r
     obtain⟨l,hl2,rfl⟩:=uL hm
     split at h
     ·rename_i es c dF hH
      obtain⟨l',es',p1,p2,p3,p4,p5,p6⟩:=RU hR hH
      rw[hl2] at p1;cases p1
      split at h
      ·rename_i j v0 hf
       simp only[Option.some.injEq,Prod.mk.injEq] at h
       obtain⟨rfl,rfl⟩:=h
       obtain⟨r',g1,v0',g2,g3,e0,g4,g5⟩:=run_findKey (P:=P) (w:=w) hkk p6 hf
       subst g2
       obtain⟨q1,q2⟩:=hR.put (f:=fun v=>.map (es.eraseIdx j) c v) hH rfl hl2 p2 (.map (es'.eraseIdxIfInBounds j) c) ⟨p2,p3,p4,_,dI (bG p5),by
        rw[Array.toList_eraseIdxIfInBounds];exact p6.eraseIdx j⟩
       refine⟨_,ι,_,?_,hunit,q1,q2⟩
       unfold Builtin.delete_
       simp only[hat,b0,b1,Sem.run_bind,aK ht,Result.andThen_ok,hZ p5,run_checkKey hkk,g1,rR p5,Sem.run_pure]
      ·rename_i hf
       simp only[Option.some.injEq,Prod.mk.injEq] at h
       obtain⟨rfl,rfl⟩:=h
       obtain⟨r',g1,g2⟩:=run_findKey (P:=P) (w:=w) hkk p6 hf
       cases (show r'=none from g2)
       refine⟨_,ι,w,?_,hunit,hR,Ext.refl⟩
       unfold Builtin.delete_
       simp only[hat,b0,b1,Sem.run_bind,aK ht,Result.andThen_ok,hZ p5,run_checkKey hkk,g1,rR p5,Sem.run_pure]
       rw[GH p5]
      ·cases h
     ·cases h
    ·cases h
   ·cases h
  ·cases h
 ·cases h
theorem jb {α:Type} (l:List α):∀ (n i:Nat),(rep l n)[i]?=if i<n*l.length then l[i%l.length]? else none
 | 0,i=>by simp[rep]
 | n+1,i=>by
  rw[rep]
  by_cases h:i<l.length
  ·rw[List.getElem?_append_left h,if_pos (by rw[Nat.succ_mul];omega),Nat.mod_eq_of_lt h]
  ·rw[List.getElem?_append_right (by omega),jb l n]
   have hm:(i-l.length)%l.length=i%l.length:=(Nat.mod_eq_sub_mod (by omega)).symm
   rw[hm]
   have:(i-l.length<n*l.length)=(i<(n+1)*l.length):=by rw[Nat.succ_mul];simp;omega
   simp only[this]
theorem NF (z:Array Value) (n:Nat):(Builtin.zeroCells z n).toList=rep z.toList n:=by
 apply List.ext_getElem?
 intro i
 rw[jb]
 simp only[Builtin.zeroCells,Array.toList_map,List.getElem?_map]
 by_cases h:i<n*z.size
 ·have hpos:0<z.size:=by
   by_cases h0:z.size=0
   ·rw[h0] at h;simp at h
   ·omega
  have hmod:i%z.size<z.size:=Nat.mod_lt _ hpos
  have h1:(Array.range (n*z.size)).toList[i]?=some i:=by simp[h]
  rw[h1,if_pos (by simpa using h)]
  simp only[Option.map_some,Array.length_toList]
  rw[getElem!_pos z _ hmod]
  simp[hmod]
 ·have h1:(Array.range (n*z.size)).toList[i]?=none:=by simp;omega
  rw[h1,if_neg (by simpa using h)];rfl
theorem eF.rep {l l':List Value} (h:eF ι l l'):∀ n,eF ι (Dust.rep l n) (Dust.rep l' n)
 | 0=>.nil
 | n+1=>h.append (eF.rep h n)
theorem UF (hR:RS P ι s w) {argTypes:Array TypeId} {ty:TypeId} {args:List Value} {args':Array Value} (ha:eF ι args args'.toList) {v:Value}
  (h:qZ (env P) s argTypes args=some (v,s')):kb P ι s w (Builtin.clear_ argTypes ty args') v s':=by
 unfold qZ at h
 split at h
 ·rename_i t x hat
  generalize hl:args'.toList=l' at ha
  cases ha with
  | cons hx ha =>
  cases ha with
  | nil =>
  rename_i x'
  have b0:args'[0]?=some x':=by rw[← Array.getElem?_toList,hl];rfl
  have hunit:VR ι (.tuple #[]) (.tuple #[]):=VR.undef ι
  cases ht:(env P).ty t with
  | none=>rw[ht] at h;cases h
  | some i =>
   rw[ht] at h
   simp only at h
   split at h
   ·simp only[Option.some.injEq,Prod.mk.injEq] at h
    obtain⟨rfl,rfl⟩:=h
    rw[rJ hx] at b0
    refine⟨_,ι,w,?_,hunit,hR,Ext.refl⟩
    unfold Builtin.clear_
    simp only[hat,b0,Sem.run_bind,aK ht,Result.andThen_ok,Sem.run_pure]
   ·simp only[Option.some.injEq,Prod.mk.injEq] at h
    obtain⟨rfl,rfl⟩:=h
    rw[qK hx] at b0
    refine⟨_,ι,w,?_,hunit,hR,Ext.refl⟩
    unfold Builtin.clear_
    simp only[hat,b0,Sem.run_bind,aK ht,Result.andThen_ok,Sem.run_pure]
   ·rename_i r
    obtain⟨l,hl2,rfl⟩:=uL hx
    split at h
    ·rename_i es c dF hH
     obtain⟨l',es',p1,p2,p3,p4,p5,p6⟩:=RU hR hH
     rw[hl2] at p1;cases p1
     simp only[Option.some.injEq,Prod.mk.injEq] at h
     obtain⟨rfl,rfl⟩:=h
     obtain⟨q1,q2⟩:=hR.put (f:=fun v=>.map [] c v) hH rfl hl2 p2 (.map #[] c) ⟨p2,p3,p4,_,dI (bG p5),.nil⟩
     refine⟨_,ι,_,?_,hunit,q1,q2⟩
     unfold Builtin.clear_
     simp only[hat,b0,Sem.run_bind,aK ht,Result.andThen_ok,hZ p5,rR p5,Sem.run_pure]
    ·cases h
   ·rename_i a n cap
    split at h
    ·rename_i hn0
     subst hn0
     simp only[Option.some.injEq,Prod.mk.injEq] at h
     obtain⟨rfl,rfl⟩:=h
     refine⟨.tuple #[],ι,w,?_,hunit,hR,Ext.refl⟩
     unfold Builtin.clear_
     cases hx <;> simp only[hat,b0,Sem.run_bind,aK ht,Result.andThen_ok,Sem.run_pure]
    ·rename_i hn0
     split at h
     ·rename_i e hd
      split at h
      ·rename_i d sz by_ z ag me cm he
       split at h
       ·rename_i s1 hst
        simp only[Option.some.injEq,Prod.mk.injEq] at h
        obtain⟨rfl,rfl⟩:=h
        have hz:eF ι z.cells.toList z.cells.toList:=VR.cells (.closed (jG he rfl))
        cases hx with
        | @slice b0' o0 l0 _ _ hl2 =>
         obtain⟨w',g1,g2,g3⟩:=qP (P:=P) hR hl2 (hz.rep n) hst
         refine⟨.tuple #[],ι,w',?_,hunit,g2,g3⟩
         unfold Builtin.clear_
         obtain⟨m,rfl⟩:∃ m,n=m+1:=⟨n-1,by omega⟩
         simp only[hat,b0,Sem.run_bind,aK ht,hd,Result.andThen_ok,jV he rfl,NF,g1,Sem.run_pure]
        | nN hl2=>omega
       ·cases h
      ·cases h
     ·cases h
   ·cases h
 ·cases h
theorem JQ (hR:RS P ι s w) (x:Obj) (f:Nat→bX) (ho:nV (env P) (ι.add s.next (gN w)) (w.alloc x) (gN w) (f s.cM)) :
  ∃ ι',VR ι' (.pointer (some ⟨s.next,0,none⟩)) (.pointer (some ⟨w.heap.size,0,none⟩))∧RS P ι' (s.new f) (w.alloc x)∧ES ι s w ι' (s.new f) (w.alloc x):=by
 obtain⟨g1,g2⟩:=RS.new hR x ho
 refine⟨_,?_,g1,g2⟩
 have:=VR.ptr (ι:=ι.add s.next (gN w)) (o:=0) (cR.add_same ι s.next (gN w))
 simpa [gN] using this
theorem RS.free (hR:RS P ι s w):ι s.next=none:=hR.fresh _ (Nat.le_refl _) hR.GZ
end Go.Dust
