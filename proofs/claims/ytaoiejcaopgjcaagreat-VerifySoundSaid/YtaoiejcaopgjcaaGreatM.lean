/- The plain interpreter D and its laws (Ec Ed Ee Ef Eg Eh). -/
import Derived.Test.YtaoiejcaopgjcaaGreatL
import Derived.Lib.ItoaNum
set_option linter.unusedVariables false
set_option linter.unusedSimpArgs false
namespace Go.Dust
section
variable {q:Bool} {X:Env} {K:qT}
theorem wO {r a s} {Φ:cP→bD→St→Prop}:jU q X K r .skip a s Φ↔Φ .normal a s :=
 ⟨fun⟨n,hn⟩=>by
  cases n with
  | zero=>rw[bH] at hn;exact hn.elim
  | succ n=>rw[bH] at hn;exact hn,.skip⟩
theorem ig {r a s} {Φ:cP→bD→St→Prop}:jU q X K r .ret a s Φ↔Φ .ret a s :=
 ⟨fun⟨n,hn⟩=>by
  cases n with
  | zero=>rw[bH] at hn;exact hn.elim
  | succ n=>rw[bH] at hn;exact hn,.ret⟩
theorem wM {r a s i} {Φ:cP→bD→St→Prop}:jU q X K r (.exit i) a s Φ↔Φ (.exit i) a s :=
 ⟨fun⟨n,hn⟩=>by
  cases n with
  | zero=>rw[bH] at hn;exact hn.elim
  | succ n=>rw[bH] at hn;exact hn,.exit⟩
theorem SD {r x y a s} {Φ:cP→bD→St→Prop}:jU q X K r (.seq x y) a s Φ↔jU q X K r x a s fun e a s=>match e with
  | .normal=>jU q X K r y a s Φ
  | e=>Φ e a s :=
 ⟨fun⟨n,hn⟩=>by
  cases n with
  | zero=>rw[bH] at hn;exact hn.elim
  | succ n =>
   rw[bH,cQ.dS] at hn
   refine⟨n,hn.mono fun p hq=>?_⟩
   rcases p with ⟨e,a,s⟩
   cases e with
   | normal=>exact⟨n,hq⟩
   | _=>exact hq,.seq⟩
theorem CN {r c x y a s} {Φ:cP→bD→St→Prop}:jU q X K r (.cond c x y) a s Φ↔∃ b,a.eval c=.bool b∧jU q X K r (if b=true then x else y) a s Φ :=
 ⟨fun⟨n,hn⟩=>by
  cases n with
  | zero=>rw[bH] at hn;exact hn.elim
  | succ n =>
   rw[bH] at hn
   cases hc:a.eval c with
   | bool b =>
    rw[hc] at hn
    refine⟨b,rfl,n,?_⟩
    cases b <;> exact hn
   | _=>rw[hc] at hn;exact hn.elim,fun⟨_,hb,h⟩=>.cond hb h⟩
theorem EB {r id b a s} {Φ:cP→bD→St→Prop}:jU q X K r (.block id b) a s Φ↔jU q X K r b a s fun e a s=>match e with
  | .exit i=>if i=id then Φ .normal a s else Φ (.exit i) a s
  | e=>Φ e a s :=
 ⟨fun⟨n,hn⟩=>by
  cases n with
  | zero=>rw[bH] at hn;exact hn.elim
  | succ n =>
   rw[bH,cQ.dS] at hn
   refine⟨n,hn.mono fun p hq=>?_⟩
   rcases p with ⟨e,a,s⟩
   cases e with
   | exit i =>
    simp only at hq ⊢
    split
    ·rename_i hi
     rw[if_pos hi] at hq;exact hq
    ·rename_i hi
     rw[if_neg hi] at hq;exact hq
   | _=>exact hq,.block⟩
theorem AO {r id ops a s} {Φ:cP→bD→St→Prop}:jU q X K r (.region id ops false) a s Φ↔eE q X K ops ops.toList a s (Φ .normal) :=
 ⟨fun⟨n,hn⟩=>by
  cases n with
  | zero=>rw[bH] at hn;exact hn.elim
  | succ n =>
   rw[bH,cQ.dS] at hn
   exact⟨n,hn⟩,.region⟩
theorem cL (d op ty pos af) (y:Nat→Option Bool):Region.wanted (⟨d,op,ty,pos,af,none⟩:Oper) y=true:=rfl
theorem iu {ops a s} {Φ:bD→St→Prop}:eE q X K ops [] a s Φ↔Φ a s:=⟨fun⟨_,hn⟩=>hn,.nil⟩
theorem OQ {ops d op ty pos af j w l a s} {Φ:bD→St→Prop}:eE q X K ops (⟨d,op,ty,pos,af,some (j,w)⟩::l) a s Φ ↔
  if aE ops a j=some w then eE q X K ops (⟨d,op,ty,pos,af,none⟩::l) a s Φ else eE q X K ops l (a.put d undef) s Φ:=by
 have hw:Region.wanted (⟨d,op,ty,pos,af,some (j,w)⟩:Oper) (aE ops a)=(aE ops a j==some w):=rfl
 have hw':Region.wanted (⟨d,op,ty,pos,af,none⟩:Oper) (aE ops a)=true:=rfl
 unfold eE
 simp only[dL,hw,hw',if_true]
 by_cases h:aE ops a j=some w
 ·simp only[h,beq_self_eq_true,if_true]
 ·have h':(aE ops a j==some w)=false:=by simpa using h
  simp only[h',Bool.false_eq_true,if_false,h]
theorem yJ {ops d op ty pos af l a s} {Φ:bD→St→Prop} (hk:bN op=.still):eE q X K ops (⟨d,op,ty,pos,af,none⟩::l) a s Φ ↔
  ∃ v,bS X s.look a.eval op=some v∧eE q X K ops l (a.put d v) s Φ:=by
 refine⟨fun⟨n,hn⟩=>?_,fun⟨v,hv,h⟩=>.still rfl hk hv h⟩
 rw[dL,if_pos (cL ..),kD,hk] at hn
 simp only at hn
 cases hv:bS X s.look a.eval op with
 | none=>rw[hv] at hn;exact hn.elim
 | some v=>rw[hv] at hn;exact⟨v,rfl,n,hn⟩
theorem pj {ops d op ty pos af l a s} {Φ:bD→St→Prop} (hk:bN op=.alloc):eE q X K ops (⟨d,op,ty,pos,af,none⟩::l) a s Φ ↔
  ∃ v f,cS X s.next a.eval op=some (v,f)∧eE q X K ops l (a.put d v) (s.new f) Φ:=by
 refine⟨fun⟨n,hn⟩=>?_,fun⟨v,f,hv,h⟩=>.alloc rfl hk hv h⟩
 rw[dL,if_pos (cL ..),kD,hk] at hn
 simp only at hn
 cases hv:cS X s.next a.eval op with
 | none=>rw[hv] at hn;exact hn.elim
 | some p=>rcases p with ⟨v,f⟩;rw[hv] at hn;exact⟨v,f,rfl,n,hn⟩
theorem pn {ops d t p x ty pos af l a s} {Φ:bD→St→Prop}:eE q X K ops (⟨d,.store t p x,ty,pos,af,none⟩::l) a s Φ ↔
  ∃ ad s',a.eval p=.pointer (some ad)∧storeT X s t ad (a.eval x)=some s'∧eE q X K ops l (a.put d undef) s' Φ:=by
 constructor
 ·rintro⟨n,hn⟩
  rw[dL,if_pos (cL ..)] at hn
  simp only[kD,bN,bL] at hn
  cases hp:a.eval p with
  | pointer ad =>
   rw[hp] at hn
   cases ad with
   | none=>exact hn.elim
   | some ad =>
    simp only at hn
    cases hs:storeT X s t ad (a.eval x) with
    | none=>rw[hs] at hn;exact hn.elim
    | some s'=>rw[hs] at hn;exact⟨ad,s',rfl,hs,n,hn⟩
  | _=>rw[hp] at hn;exact hn.elim
 ·rintro⟨ad,s',hp,hs,h⟩
  exact .effect rfl rfl (v:=undef) (s':=s') (fun c r=>by simp only[bL,hp,hs]) h
theorem yq {ops d f aAm ts ty pos af l a s} {Φ:bD→St→Prop}:eE q X K ops (⟨d,.call ⟨.value (.func f),aAm,ts⟩,ty,pos,af,none⟩::l) a s Φ ↔
  okF q X K f (aAm.toList.map a.eval) s fun v s=>eE q X K ops l (a.put d v) s Φ:=by
 have hv:∀ (c:eR) (r:dK),bL X c r s a.eval (.call ⟨.value (.func f),aAm,ts⟩)=c f (aAm.toList.map a.eval) s:=fun c r=>by
  simp[bL,bD.eval,mQ]
 constructor
 ·rintro⟨n,hn⟩
  rw[dL,if_pos (cL ..)] at hn
  simp only[kD,show bN (.call ⟨.value (.func f),aAm,ts⟩)=.effect from rfl,hv] at hn
  rw[cQ.dS] at hn
  exact⟨n,hn.mono fun p hq=>⟨n,hq⟩⟩
 ·exact fun h=>.call rfl rfl hv h
end
theorem ja (a:bD) (d:Tmp) (v:Value) (t:Tmp):(a.put (some d) v).aD t=if t=d then v else a.aD t:=by
 simp only[bD.put,bD.aD,PT.bU]
 split <;> rfl
theorem WW (a:bD) (v:Value):a.put none v=a:=rfl
theorem US (a:bD) (t:Tmp):a.eval (.tmp t)=a.aD t:=rfl
theorem eval_const (a:bD) (v:Value):a.eval (.const v)=v:=rfl
theorem OB (l:List Value) (n t:Nat):bD.aD {tmps:=PT.ofList l,nt:=n} t=l[t]?.getD undef:=by
 simp only[bD.aD,PT.fE]
section
variable {q:Bool} {X:Env} {K:qT} {ops:Array Oper} {d:Option Tmp} {ty:TypeId} {pos:String} {af:Array Edge} {l:List Oper} {a:bD} {s:St} {Φ:bD→St→Prop}
theorem yk {x}:eE q X K ops (⟨d,.move x,ty,pos,af,none⟩::l) a s Φ↔eE q X K ops l (a.put d (a.eval x)) s Φ :=
 (yJ rfl).trans ⟨fun⟨_,hv,h⟩=>by cases hv;exact h,fun h=>⟨_,rfl,h⟩⟩
theorem WJ {x}:eE q X K ops (⟨d,.assign x,ty,pos,af,none⟩::l) a s Φ↔eE q X K ops l (a.put d (a.eval x)) s Φ :=
 (yJ rfl).trans ⟨fun⟨_,hv,h⟩=>by cases hv;exact h,fun h=>⟨_,rfl,h⟩⟩
end
section
variable {X:Env} {K:qT}
def FV (X:Env) (K:qT) (ops:Array Oper) (base:Nat) (l:List Oper) (i:Nat) (a:bD) (s:St) (Φ:bD→St→List rU→Prop):Prop :=
 ∃ n x,cI X (dN X K n) (dH X K n) ops base l i a s=some x∧Φ x.1 x.2.1 x.2.2
theorem OM {n m:Nat} (hnm:n≤m) {ops base l i a s x} (h:cI X (dN X K n) (dH X K n) ops base l i a s=some x):cI X (dN X K m) (dH X K m) ops base l i a s=some x:=by
 induction hnm with
 | refl=>exact h
 | step _ ih=>exact yC (sD X K _).2.1 (sD X K _).2.2 _ _ _ _ _ _ _ ih
theorem pd {q r id ops a s c} {Φ:cP→bD→St→Prop} (hc:BH ops=some c)
  (h:FV X K ops s.next ops.toList 0 a {heap:=s.heap,next:=s.next+2*ops.size,cM:=s.cM} fun a s lg=>WB lg c=true∧Φ .normal a s):jU q X K r (.region id ops true) a s Φ:=by
 obtain⟨n,⟨a',s',lg⟩,h1,h2,h3⟩:=h
 refine⟨n+1,?_⟩
 rw[bH,cQ.dS]
 simp only[if_true,pM,hc,h1,h2]
 exact h3
theorem okL_nil {ops base i a s} {Φ:bD→St→List rU→Prop} (h:Φ a s []):FV X K ops base [] i a s Φ:=⟨0,_,rfl,h⟩
theorem pg {ops base d op ty pos af j w l i a s} {Φ:bD→St→List rU→Prop} (h:if aE ops a j=some w then FV X K ops base (⟨d,op,ty,pos,af,none⟩::l) i a s Φ
  else FV X K ops base l (i+1) (a.put d undef) s fun a2 s2 lg=>Φ a2 s2 ({yK:=false,reads:=[],pre:=s,post:=s}::lg)):FV X K ops base (⟨d,op,ty,pos,af,some (j,w)⟩::l) i a s Φ:=by
 have hw:Region.wanted (⟨d,op,ty,pos,af,some (j,w)⟩:Oper) (aE ops a)=(aE ops a j==some w):=rfl
 by_cases hy:aE ops a j=some w
 ·rw[if_pos hy] at h
  obtain⟨n,x,h1,h2⟩:=h
  refine⟨n,x,?_,h2⟩
  rw[cI] at h1 ⊢
  rw[hw,hy]
  rw[if_pos (cL ..)] at h1
  rw[if_pos (by simp)]
  exact h1
 ·rw[if_neg hy] at h
  obtain⟨n,⟨a2,s2,lg⟩,h1,h2⟩:=h
  refine⟨n,⟨a2,s2,{yK:=false,reads:=[],pre:=s,post:=s}::lg⟩,?_,h2⟩
  rw[cI,hw,if_neg (by simpa using hy)]
  simp only[h1]
theorem ph {ops base d op ty pos af l i a s v} {Φ:bD→St→List rU→Prop} (hk:bN op=.still) (hv:bS X s.look a.eval op=some v)
  (h:FV X K ops base l (i+1) (a.put d v) s fun a2 s2 lg=>Φ a2 s2 ({yK:=true,reads:=bZ a.eval s.look op,pre:=s,post:=s}::lg)):FV X K ops base (⟨d,op,ty,pos,af,none⟩::l) i a s Φ:=by
 obtain⟨n,⟨a2,s2,lg⟩,h1,h2⟩:=h
 refine⟨n,⟨a2,s2,{yK:=true,reads:=bZ a.eval s.look op,pre:=s,post:=s}::lg⟩,?_,h2⟩
 rw[cI,if_pos (cL ..),jP,hk]
 simp only[hv,h1]
theorem pf {ops base d op ty pos af l i a s v f} {Φ:bD→St→List rU→Prop} (hk:bN op=.alloc) (hv:cS X (base+2*i) a.eval op=some (v,f))
  (h:FV X K ops base l (i+1) (a.put d v) (s.put (base+2*i) f) fun a2 s2 lg=>Φ a2 s2 ({yK:=true,reads:=bZ a.eval s.look op,pre:=s,post:=s.put (base+2*i) f}::lg)):FV X K ops base (⟨d,op,ty,pos,af,none⟩::l) i a s Φ:=by
 obtain⟨n,⟨a2,s2,lg⟩,h1,h2⟩:=h
 refine⟨n,⟨a2,s2,{yK:=true,reads:=bZ a.eval s.look op,pre:=s,post:=s.put (base+2*i) f}::lg⟩,?_,h2⟩
 rw[cI,if_pos (cL ..),jP,hk]
 simp only[hv,h1]
theorem yp {ops base d f aAm ts ty pos af l i a s} {Φ:bD→St→List rU→Prop} (h:okF false X K f (aAm.toList.map a.eval) s fun v s'=>FV X K ops base l (i+1) (a.put d v) s' fun a2 s2 lg =>
  Φ a2 s2 ({yK:=true,reads:=bZ a.eval s.look (.call ⟨.value (.func f),aAm,ts⟩),pre:=s,post:=s'}::lg)):FV X K ops base (⟨d,.call ⟨.value (.func f),aAm,ts⟩,ty,pos,af,none⟩::l) i a s Φ:=by
 obtain⟨n,hn⟩:=h
 obtain⟨⟨v,s'⟩,h1,m,⟨a2,s2,lg⟩,h2,h3⟩:=cQ.zY hn
 have hv:∀ (c:eR) (r:dK),bL X c r s a.eval (.call ⟨.value (.func f),aAm,ts⟩)=c f (aAm.toList.map a.eval) s:=fun c r=>by
  simp[bL,bD.eval,mQ]
 refine⟨max n m,⟨a2,s2,{yK:=true,reads:=bZ a.eval s.look (.call ⟨.value (.func f),aAm,ts⟩),pre:=s,post:=s'}::lg⟩,?_,h3⟩
 rw[cI,if_pos (cL ..),jP]
 have h4:dN X K (max n m) f (aAm.toList.map a.eval) s=.ret (v,s'):=by
  have h5:(dN X K n f (aAm.toList.map a.eval) s).jO false fun p=>p=(v,s'):=by rw[h1];rfl
  obtain⟨p,hp,rfl⟩:=cQ.zY (ey (Nat.le_max_left n m) h5)
  exact hp
 simp only[show bN (.call ⟨.value (.func f),aAm,ts⟩)=.effect from rfl,hv,h4]
 rw[OM (Nat.le_max_right n m) h2]
theorem FV.mono {ops base l i a s} {Φ Ψ:bD→St→List rU→Prop} (h:FV X K ops base l i a s Φ) (hp:∀ a s lg,Φ a s lg→Ψ a s lg):FV X K ops base l i a s Ψ:=by
 obtain⟨n,x,h1,h2⟩:=h
 exact⟨n,x,h1,hp _ _ _ h2⟩
def St.wf (s:St):Prop:=∀ b o,s.heap.get b=some o→o.bC=false→o.dF<s.cM
theorem okF.evol (hK:∀ f args s r,K f args s=some r→r.Lv fun p=>eZ s p.2) {q f args s} {Φ:Value→St→Prop} (h:okF q X K f args s Φ):okF q X K f args s fun v s'=>Φ v s'∧eZ s s':=by
 obtain⟨n,hn⟩:=h
 exact⟨n,cQ.TG hn ((DK hK n).2.1 f args s)⟩
theorem aG {q:Bool} {f:FuncId} {fn:Func} {c:Code} {rs:List ResultVar} {N:Nat} {args:List Value} {s:St} {Φ:Value→St→Prop} (hk:K f args s=none) (hf:X.fn f=some fn) (hb:fn.body=some c) (hr:fn.results.toList=rs) (hN:fn.ntmps=N) (hn:Nat.ble args.length N=true)
  (h:jU q X K none c {tmps:=PT.ofList args,nt:=N} s fun e a s=>match e with
   | .exit _=>False
   | _=>∃ l,results1 X s.look a rs=some l∧Φ (match l with | [v]=>v | l=>.tuple l.toArray) s):okF q X K f args s Φ:=by
 refine okF.body hk hf hb (by rw[hN];exact Nat.le_of_ble_eq_true hn) ?_
 rw[hN]
 refine h.mono fun e a s hp=>?_
 cases e with
 | exit i=>exact hp
 | _ =>
  obtain⟨l,hl,hp⟩:=hp
  refine⟨_,?_,hp⟩
  rw[kP,hr,hl]
  match l with
  | []=>rfl
  | [v]=>rfl
  | v::w::l=>rfl
theorem je (H:aY) (a:bD) (t:Tmp) (rest:List ResultVar):results1 X H a (.tmp t::rest)=(results1 X H a rest).map (a.aD t::·):=by
 rw[results1]
 cases results1 X H a rest <;> rfl
theorem jd (H:aY) (a:bD):results1 X H a []=some []:=rfl
end
section
variable {X:Env} {K:qT} {ops:Array Oper} {base i:Nat} {d:Option Tmp} {ty:TypeId} {pos:String} {af:Array Edge} {l:List Oper} {a:bD} {s:St} {Φ:bD→St→List rU→Prop}
theorem MW {op:Op} (hk:bN op=.still):FV X K ops base (⟨d,op,ty,pos,af,none⟩::l) i a s Φ ↔
  ∃ v,bS X s.look a.eval op=some v∧FV X K ops base l (i+1) (a.put d v) s fun a2 s2 lg=>Φ a2 s2 ({yK:=true,reads:=bZ a.eval s.look op,pre:=s,post:=s}::lg):=by
 refine⟨fun⟨n,x,h1,h2⟩=>?_,fun⟨v,hv,h⟩=>ph hk hv h⟩
 rw[cI,if_pos (cL ..),jP,hk] at h1
 simp only at h1
 cases hv:bS X s.look a.eval op with
 | none=>rw[hv] at h1;cases h1
 | some v =>
  rw[hv] at h1
  simp only at h1
  cases hl:cI X (dN X K n) (dH X K n) ops base l (i+1) (a.put d v) s with
  | none=>rw[hl] at h1;cases h1
  | some y =>
   rw[hl] at h1
   simp only[Option.some.injEq] at h1
   subst h1
   exact⟨v,rfl,n,y,hl,h2⟩
theorem SH {f aAm ts}:FV X K ops base (⟨d,.call ⟨.value (.func f),aAm,ts⟩,ty,pos,af,none⟩::l) i a s Φ↔okF false X K f (aAm.toList.map a.eval) s fun v s'=>FV X K ops base l (i+1) (a.put d v) s' fun a2 s2 lg =>
  Φ a2 s2 ({yK:=true,reads:=bZ a.eval s.look (.call ⟨.value (.func f),aAm,ts⟩),pre:=s,post:=s'}::lg):=by
 refine⟨fun⟨n,x,h1,h2⟩=>?_,yp⟩
 have hv:∀ (c:eR) (r:dK),bL X c r s a.eval (.call ⟨.value (.func f),aAm,ts⟩)=c f (aAm.toList.map a.eval) s:=fun c r=>by
  simp[bL,bD.eval,mQ]
 rw[cI,if_pos (cL ..),jP] at h1
 simp only[show bN (.call ⟨.value (.func f),aAm,ts⟩)=.effect from rfl,hv] at h1
 cases hc:dN X K n f (aAm.toList.map a.eval) s with
 | ret p =>
  rcases p with ⟨v,s'⟩
  rw[hc] at h1
  simp only at h1
  cases hl:cI X (dN X K n) (dH X K n) ops base l (i+1) (a.put d v) s' with
  | none=>rw[hl] at h1;cases h1
  | some y =>
   rw[hl] at h1
   simp only[Option.some.injEq] at h1
   subst h1
   refine⟨n,?_⟩
   rw[hc]
   exact⟨n,y,hl,h2⟩
 | _=>rw[hc] at h1;cases h1
theorem WO:FV X K ops base [] i a s Φ↔Φ a s []:=⟨fun⟨_,x,h1,h2⟩=>by cases h1;exact h2,okL_nil⟩
end
section
variable (X:Env) (H:aY) (t:TypeId)
theorem dz (x y:Int):binop X H .gtr t (.int .i64 x) (.int .i64 y)=some (.bool (decide (x>y))):=rfl
theorem dy (x y:Int):binop X H .geq t (.int .i64 x) (.int .i64 y)=some (.bool (decide (x≥y))):=rfl
theorem ee (x y:Int):binop X H .lss t (.int .i64 x) (.int .i64 y)=some (.bool (decide (x<y))):=rfl
theorem ed (x y:Int):binop X H .leq t (.int .i64 x) (.int .i64 y)=some (.bool (decide (x≤y))):=rfl
theorem dx (x y:Int):binop X H .eql t (.int .i64 x) (.int .i64 y)=some (.bool (x==y)):=rfl
theorem eg (x y:Int):binop X H .neq t (.int .i64 x) (.int .i64 y)=some (.bool (!(x==y))):=rfl
theorem ef (x y:Int):binop X H .mul t (.int .i64 x) (.int .i64 y)=some (.int .i64 (IntKind.i64.wrap (x*y))):=rfl
theorem dw (x y:Int):binop X H .add t (.int .i64 x) (.int .i64 y)=some (.int .i64 (IntKind.i64.wrap (x+y))):=rfl
theorem ep (x y:Int):binop X H .sub t (.int .i64 x) (.int .i64 y)=some (.int .i64 (IntKind.i64.wrap (x-y))):=rfl
theorem eo (x y:Int):binop X H .shl t (.int .i64 x) (.int .i64 y)=pU .shl .i64 x y:=rfl
theorem ek (x y:Int):binop X H .quo t (.int .i64 x) (.int .i64 y)=if y=0 then none else some (.int .i64 (IntKind.i64.wrap (x.tdiv y))):=rfl
theorem en (x y:Int):binop X H .rem t (.int .i64 x) (.int .i64 y)=if y=0 then none else some (.int .i64 (x.tmod y)):=rfl
end
theorem aAh (k:IntKind) (n:Int):unop .neg (.int k n)=some (.int k (k.wrap (0-n))):=rfl
theorem aAi (b:Bool):unop .not (.bool b)=some (.bool !b):=rfl
theorem aR {n:Int} (h1:-9223372036854775808≤n) (h2:n≤9223372036854775807):IntKind.i64.wrap n=n:=by
 unfold IntKind.wrap
 simp only[IntKind.bits,IntKind.signed,Bool.true_and]
 have e1:(2:Int) ^ 64=18446744073709551616:=rfl
 have e2:(2:Int) ^ (64-1)=9223372036854775808:=rfl
 simp only[e1,e2,decide_eq_true_eq]
 split <;> omega
def str (l:List UInt8):Value:=.string ⟨⟨l⟩⟩
def St.fresh (s:St):Prop:=∀ b,s.next≤b→s.heap.get b=none
structure rW (s s':St):Prop where
 mC:∀ b o,s.heap.get b=some o→s'.heap.get b=some o
 wf:s'.wf
 fresh:s'.fresh
 next:s.next≤s'.next
theorem rW.refl {s:St} (h1:s.wf) (h2:s.fresh):rW s s:=⟨fun _ _ h=>h,h1,h2,Nat.le_refl _⟩
theorem rW.trans {a b c:St} (h:rW a b) (k:rW b c):rW a c:=⟨fun x o hx=>k.mC x o (h.mC x o hx),k.wf,k.fresh,Nat.le_trans h.next k.next⟩
theorem rW.jf {s s':St} (h:rW s s') (n:Nat):rW s {heap:=s'.heap,next:=s'.next+n,cM:=s'.cM} :=
 ⟨h.mC,h.wf,fun b hb=>h.fresh b (Nat.le_trans (Nat.le_add_right _ _) hb),Nat.le_trans h.next (Nat.le_add_right _ _)⟩
theorem rW.new {s s':St} (h:rW s s') {f:Nat→bX} (hf:(f s'.cM).dF≤s'.cM):rW s (s'.new f):=by
 refine⟨fun b o hb=>?_,fun b o hb hd=>?_,fun b hb=>?_,?_⟩
 ·simp only[St.new,PT.bU]
  split
  ·rename_i e
   subst e
   have:=h.fresh s'.next (Nat.le_refl _)
   rw[h.mC _ o hb] at this;cases this
  ·exact h.mC b o hb
 ·simp only[St.new,PT.bU] at hb ⊢
  split at hb
  ·cases hb;exact Nat.lt_succ_of_le hf
  ·exact Nat.lt_succ_of_lt (h.wf b o hb hd)
 ·have hb':s'.next+2≤b:=hb
  simp only[St.new,PT.bU]
  rw[if_neg (by omega)]
  exact h.fresh b (by omega)
 ·exact Nat.le_trans h.next (Nat.le_add_right _ _)
theorem rW.load {s s':St} (h:rW s s') {a:Addr} {v:Value} (hl:aI s.look a=some v):aI s'.look a=some v:=by
 rcases a with ⟨b,off,sp⟩
 unfold aI at hl ⊢
 simp only[St.look] at hl ⊢
 cases ho:s.heap.get b with
 | none=>rw[ho] at hl;cases sp <;> cases hl
 | some o=>rw[ho] at hl;rw[h.mC _ _ ho];exact hl
theorem xd {s:St} {a:Addr} {v:Value} (hl:aI s.look a=some v):∃ o,s.heap.get a.block=some o∧o.bC=false:=by
 rcases a with ⟨b,off,sp⟩
 unfold aI at hl
 simp only[St.look] at hl ⊢
 cases ho:s.heap.get b with
 | none=>rw[ho] at hl;cases sp <;> cases hl
 | some o =>
  refine⟨o,rfl,?_⟩
  rw[ho] at hl
  cases o with
  | dead=>cases sp <;> cases hl
  | _=>rfl
section
variable {q:Bool} {X:Env} {K:qT} {ops:Array Oper} {base i:Nat} {d:Option Tmp} {ty:TypeId} {pos:String} {af:Array Edge} {l:List Oper} {a:bD} {s:St}
theorem MV {op j w} {Φ:bD→St→List rU→Prop}:FV X K ops base (⟨d,op,ty,pos,af,some (j,w)⟩::l) i a s Φ↔if aE ops a j=some w then FV X K ops base (⟨d,op,ty,pos,af,none⟩::l) i a s Φ
  else FV X K ops base l (i+1) (a.put d undef) s fun a2 s2 lg=>Φ a2 s2 ({yK:=false,reads:=[],pre:=s,post:=s}::lg):=by
 refine⟨fun⟨n,x,h1,h2⟩=>?_,pg⟩
 have hw:Region.wanted (⟨d,op,ty,pos,af,some (j,w)⟩:Oper) (aE ops a)=(aE ops a j==some w):=rfl
 by_cases hy:aE ops a j=some w
 ·rw[if_pos hy]
  refine⟨n,x,?_,h2⟩
  rw[cI] at h1 ⊢
  rw[hw,hy,if_pos (by simp)] at h1
  rw[if_pos (cL ..)]
  exact h1
 ·rw[if_neg hy]
  rw[cI,hw,if_neg (by simpa using hy)] at h1
  cases hl:cI X (dN X K n) (dH X K n) ops base l (i+1) (a.put d undef) s with
  | none=>rw[hl] at h1;cases h1
  | some y =>
   rw[hl] at h1
   simp only[Option.some.injEq] at h1
   subst h1
   exact⟨n,y,hl,h2⟩
end
def aM (v:Value):Option Bool:=match v with
 | .bool b=>some b
 | _=>none
theorem FB (b:Bool):aM (.bool b)=some b:=rfl
def DP (ops:Array Oper) (gd:List (Nat×Tmp)):Bool:=gd.all fun p=>match (ops[p.1]?).bind (·.dst) with
 | some d=>Nat.beq d p.2
 | none=>false
theorem BW {ops:Array Oper} {gd:List (Nat×Tmp)} (h:DP ops gd=true):∀ p∈gd,∀ a,aE ops a p.1=aM (a.aD p.2):=by
 intro p hp a
 have:=List.all_eq_true.1 h p hp
 unfold aE
 cases hd:(ops[p.1]?).bind (·.dst) with
 | none=>rw[hd] at this;cases this
 | some d =>
  rw[hd] at this
  have e:d=p.2:=Nat.eq_of_beq_eq_true this
  subst e
  rfl
theorem aH {q:Bool} {X:Env} {K:qT} {r:Option Nat} {id:Nat} {ops:Array Oper} {a:bD} {s:St} {Φ:cP→bD→St→Prop} (gd:List (Nat×Tmp)) (hg:DP ops gd=true)
  (h:∀ O:Array Oper,(∀ p∈gd,∀ a,aE O a p.1=aM (a.aD p.2))→∀ Ψ:bD→St→Prop,(∀ a s,Φ .normal a s→Ψ a s)→eE q X K O ops.toList a s Ψ):jU q X K r (.region id ops false) a s Φ:=AO.2 (h ops (BW hg) _ fun _ _ h=>h)
theorem aA {q:Bool} {X:Env} {K:qT} {r:Option Nat} {x y:Code} {a:bD} {s:St} {Φ:cP→bD→St→Prop}
  (h:∀ Ψ:cP→bD→St→Prop,(∀ a s,jU q X K r y a s Φ→Ψ .normal a s)→(∀ e a s,e≠.normal→Φ e a s→Ψ e a s)→jU q X K r x a s Ψ):jU q X K r (.seq x y) a s Φ:=by
 refine SD.2 (h _ (fun a s h=>h) fun e a s he h=>?_)
 cases e with
 | normal=>exact absurd rfl he
 | _=>exact h
theorem aL {q:Bool} {X:Env} {K:qT} {r:Option Nat} {id:Nat} {b:Code} {a:bD} {s:St} {Φ:cP→bD→St→Prop}
  (h:∀ Ψ:cP→bD→St→Prop,(∀ a s,Φ .normal a s→Ψ .normal a s)→(∀ a s,Φ .normal a s→Ψ (.exit id) a s)→(∀ e a s,e≠.normal→e≠.exit id→Φ e a s→Ψ e a s)→jU q X K r b a s Ψ):jU q X K r (.block id b) a s Φ:=by
 refine EB.2 (h _ (fun a s h=>h) (fun a s h=>by simpa using h) fun e a s h1 h2 h=>?_)
 cases e with
 | exit i =>
  simp only
  rw[if_neg (fun e=>h2 (by rw[e]))]
  exact h
 | _=>exact h
theorem NN {P:Program} (hm:P.follows .mixedOrders=true) {K:qT} (hK:HV P K) {q:Bool} {f:FuncId} {fn:Func} (hf:P.funcs[f]?=some fn) (hb:fn.body.isSome=true) {args:List Value} {args':Array Value} {W:World}
  {ι:cR} {s:St} {Φ:Value→St→Prop} (hR:RS P ι s W) (hargs:eF ι args args'.toList) (h:okF q (env P) K f args s Φ) :
  Calls P f args' W fun e W'=>∃ v s' ι' v',e=.returned v'∧VR ι' v v'∧RS P ι' s' W'∧ES ι s W ι' s' W'∧Φ v s':=by
 obtain⟨N,hN⟩:=h
 have hrun:=cQ.TF hN
 obtain⟨_,_,hc,_⟩:=HY (FC hm) hK N
 obtain⟨fn',h1,_⟩:=hc.fn f args s _ hrun
 have h2:=(xW h1).1
 rw[hf] at h2;cases h2
 have:=hc.calls f fn args args' s W ι _ none 0 h1 hb hrun hargs hR
 refine(callsIn_wide.1 this).mono ?_
 rintro e W' ⟨v,u,s',ι',rfl,hv,hu,hR',hE⟩
 exact⟨v,s',ι',u,rfl,hu,hR',hE,hv⟩
section
variable {q:Bool} {X:Env} {K:qT} {ops:Array Oper} {base i:Nat} {d:Option Tmp} {ty:TypeId} {pos:String} {af:Array Edge} {l:List Oper} {a:bD} {s:St}
theorem yi {aAm ts} {Φ:bD→St→Prop}:eE q X K ops (⟨d,.call ⟨.builtin .append,aAm,ts⟩,ty,pos,af,none⟩::l) a s Φ ↔
  ∃ v s',iC X s ts (aAm.toList.map a.eval)=some (v,s')∧eE q X K ops l (a.put d v) s' Φ:=by
 constructor
 ·rintro⟨n,hn⟩
  rw[dL,if_pos (cL ..)] at hn
  simp only[kD,show bN (.call ⟨.builtin .append,aAm,ts⟩)=.effect from rfl,bL] at hn
  cases hp:iC X s ts (aAm.toList.map a.eval) with
  | none=>rw[hp] at hn;exact hn.elim
  | some p=>rcases p with ⟨v,s'⟩;rw[hp] at hn;exact⟨v,s',rfl,n,hn⟩
 ·rintro⟨v,s',hv,h⟩
  exact .effect rfl rfl (v:=v) (s':=s') (fun c r=>by simp only[bL,hv];rfl) h
end
inductive Vec (s:St) (e:TypeId) (m:Nat):Value→List Value→Prop
 | nil:Vec s e m (.slice none 0 0) []
 | own {b n:Nat} {c:PT Value} {z L:List Value} {room:Bool} {dF:Nat} (h:s.heap.get b=some (.cells c z (n*m) e room false dF)) (hl:L.length=n*m) (hc:∀ i,i<L.length→cellAt c z (n*m) i=L[i]?) :
   Vec s e m (.slice (some ⟨b,0,none⟩) n n) L
theorem Vec.load {s:St} {e:TypeId} {m b n:Nat} {L:List Value} (h:Vec s e m (.slice (some ⟨b,0,none⟩) n n) L) {i:Nat} {v:Value} (hi:L[i]?=some v):aI s.look ⟨b,i,none⟩=some v:=by
 cases h with
 | own h hl hc =>
  simp only[aI,St.look,h]
  rw[hc i (List.getElem?_eq_some_iff.1 hi).1,hi]
structure Moved (s s':St) (v v':Value):Prop where
 mC:∀ b o,s.heap.get b=some o→(∀ o' n c,v≠.slice (some ⟨b,o',none⟩) n c)→s'.heap.get b=some o
 next:s.next≤s'.next
 wf:s'.wf
 fresh:s'.fresh
 at_:∀ b o n c,v'=.slice (some ⟨b,o,none⟩) n c→s.next≤b
def St.skip (s:St) (n:Nat):St:={heap:=s.heap,next:=s.next+n,cM:=s.cM}
theorem qU (s:St) (n:Nat):(s.skip n).look=s.look:=rfl
theorem xY (s:St) (n:Nat):(s.skip n).heap=s.heap:=rfl
def nn (c:List (Nat×Nat)) (i:Nat):Bool:=c.any fun p=>p.1==i
theorem BX (i:Nat):nn [] i=false:=rfl
theorem xZ (x j i:Nat) (c:List (Nat×Nat)):nn ((x,j)::c) i=(x==i||nn c i):=rfl
def nr (c:List (Nat×Nat)) (i:Nat):Bool:=c.any fun p=>p.2==i
theorem VO (i:Nat):nr [] i=false:=rfl
theorem OF (x j i:Nat) (c:List (Nat×Nat)):nr ((x,j)::c) i=(j==i||nr c i):=rfl
def inB (l F:List Nat):Prop:=∀ b∈l,b∈F
theorem gk (F:List Nat):inB [] F=True:=eq_true fun _ h=>by cases h
theorem VP (b:Nat) (l F:List Nat):inB (b::l) F=(b∈F∧inB l F):=by
 simp[inB]
def HW (F:List Nat) (s s':St):Prop:=∀ b∈F,bP s s' b=true
def bO (c:List (Nat×Nat)) (F:List Nat) (i:Nat) (reads:List Nat) (s s':St):Prop:=(bif nn c i then inB reads F else True)∧(bif nr c i then HW F s s' else True)
def cok (c:List (Nat×Nat)) (F:List Nat):List rU→Nat→Prop
 | [],_=>True
 | n::lg,i=>(n.yK=true→bO c F i n.reads n.pre n.post)∧cok c F lg (i+1)
theorem QN {c:List (Nat×Nat)} {F:List Nat}:∀ {lg:List rU} {i x:Nat} {n:rU},cok c F lg i→lg[x]?=some n→n.yK=true→bO c F (i+x) n.reads n.pre n.post
 | [],_,_,_,_,h,_=>by cases h
 | n::lg,i,0,_,hc,h,hr=>by
  cases h
  exact hc.1 hr
 | n::lg,i,x+1,m,hc,h,hr=>by
  rw[show i+(x+1)=i+1+x from by omega]
  exact QN (lg:=lg) hc.2 h hr
section
variable {X:Env} {K:qT}
theorem RL {call:eR} {round:dK} {ops:Array Oper} {base:Nat}:∀ (rest:List Oper) (i:Nat) (a:bD) (s:St) (a':bD) (s':St) (lg:List rU),cI X call round ops base rest i a s=some (a',s',lg)→lg.length=rest.length
 | [],i,a,s,a',s',l,h=>by
  simp only[cI,Option.some.injEq,Prod.mk.injEq] at h
  obtain⟨_,_,rfl⟩:=h
  rfl
 | o::rest,i,a,s,a',s',l,h=>by
  unfold cI at h
  split at h
  ·split at h
   ·split at h
    ·rename_i hl
     simp only[Option.some.injEq,Prod.mk.injEq] at h
     obtain⟨_,_,rfl⟩:=h
     simp only[List.length_cons,RL rest _ _ _ _ _ _ hl]
    ·cases h
   ·cases h
  ·split at h
   ·rename_i hl
    simp only[Option.some.injEq,Prod.mk.injEq] at h
    obtain⟨_,_,rfl⟩:=h
    simp only[List.length_cons,RL rest _ _ _ _ _ _ hl]
   ·cases h
def fD (X:Env) (K:qT) (ops:Array Oper) (base:Nat) (c:List (Nat×Nat)) (F:List Nat) (l:List Oper) (i:Nat) (a:bD) (s:St) (Φ:bD→St→Prop):Prop :=
 FV X K ops base l i a s fun a2 s2 lg=>cok c F lg i∧Φ a2 s2
theorem aQ {q:Bool} {r:Option Nat} {id:Nat} {ops:Array Oper} {a:bD} {s:St} {Φ:cP→bD→St→Prop} (c:List (Nat×Nat)) (F:List Nat) (gd:List (Nat×Tmp)) (hc:BH ops=some c) (hg:DP ops gd=true)
  (hr:(c.all fun p=>decide (p.1<ops.size)&&decide (p.2<ops.size))=true)
  (h:∀ O:Array Oper,(∀ p∈gd,∀ a,aE O a p.1=aM (a.aD p.2))→∀ Ψ:bD→St→Prop,(∀ a s',Φ .normal a s'→Ψ a s') →
   fD X K O s.next c F ops.toList 0 a (s.skip (2*ops.size)) Ψ):jU q X K r (.region id ops true) a s Φ:=by
 refine pd hc ?_
 obtain⟨n,⟨a',s',lg⟩,h1,h2⟩:=h ops (BW hg) (Φ .normal) fun _ _ h=>h
 refine⟨n,⟨a',s',lg⟩,h1,?_,h2.2⟩
 have hlen:=RL _ _ _ _ _ _ _ h1
 refine List.all_eq_true.2 fun p hp=>?_
 have hp':=List.all_eq_true.1 hr p hp
 simp only[Bool.and_eq_true,decide_eq_true_eq] at hp'
 obtain⟨x,j⟩:=p
 simp only at hp' ⊢
 have hx:x<lg.length:=by rw[hlen];simpa using hp'.1
 have hj:j<lg.length:=by rw[hlen];simpa using hp'.2
 simp only[List.getElem?_eq_getElem hx,List.getElem?_eq_getElem hj]
 cases hrx:lg[x].yK with
 | false=>rfl
 | true =>
  cases hrj:lg[j].yK with
  | false=>rfl
  | true =>
   simp only[Bool.not_true,Bool.false_or]
   refine List.all_eq_true.2 fun b hb=>?_
   have kx:=(QN h2.1 (List.getElem?_eq_getElem hx) hrx).1
   have kj:=(QN h2.1 (List.getElem?_eq_getElem hj) hrj).2
   rw[show nn c (0+x)=true from List.any_eq_true.2 ⟨(x,j),hp,by simp⟩] at kx
   rw[show nr c (0+j)=true from List.any_eq_true.2 ⟨(x,j),hp,by simp⟩] at kj
   exact kj b (kx b hb)
end
section
variable {X:Env} {K:qT} {ops:Array Oper} {base i:Nat} {c:List (Nat×Nat)} {F:List Nat} {d:Option Tmp} {ty:TypeId} {pos:String} {af:Array Edge} {l:List Oper} {a:bD} {s:St} {Φ:bD→St→Prop}
theorem d_nil:fD X K ops base c F [] i a s Φ↔Φ a s:=by
 unfold fD
 rw[WO]
 exact⟨fun h=>h.2,fun h=>⟨trivial,h⟩⟩
theorem okL_and {P:Prop} {Ψ:bD→St→List rU→Prop}:FV X K ops base l i a s (fun a2 s2 lg=>P∧Ψ a2 s2 lg)↔P∧FV X K ops base l i a s Ψ :=
 ⟨fun⟨n,x,h1,h2,h3⟩=>⟨h2,n,x,h1,h3⟩,fun⟨h2,n,x,h1,h3⟩=>⟨n,x,h1,h2,h3⟩⟩
theorem WN {n:rU} {l:List Oper} {j:Nat} {a:bD} {s:St} (hr:n.yK=true):FV X K ops base l (j+1) a s (fun a2 s2 lg=>cok c F (n::lg) j∧Φ a2 s2)↔bO c F j n.reads n.pre n.post∧fD X K ops base c F l (j+1) a s Φ:=by
 unfold fD
 rw[← okL_and]
 simp only[cok,hr,true_implies,and_assoc]
theorem HH {op:Op} (hk:bN op=.still):fD X K ops base c F (⟨d,op,ty,pos,af,none⟩::l) i a s Φ ↔
  ∃ v,bS X s.look a.eval op=some v∧bO c F i (bZ a.eval s.look op) s s∧fD X K ops base c F l (i+1) (a.put d v) s Φ:=by
 unfold fD
 rw[MW hk]
 simp only[WN]
 rfl
theorem ff {op j w}:fD X K ops base c F (⟨d,op,ty,pos,af,some (j,w)⟩::l) i a s Φ↔if aE ops a j=some w then fD X K ops base c F (⟨d,op,ty,pos,af,none⟩::l) i a s Φ
  else fD X K ops base c F l (i+1) (a.put d undef) s Φ:=by
 unfold fD
 rw[MV]
 simp only[cok,Bool.false_eq_true,false_implies,true_and]
theorem d_call {f aAm ts}:fD X K ops base c F (⟨d,.call ⟨.value (.func f),aAm,ts⟩,ty,pos,af,none⟩::l) i a s Φ ↔
  okF false X K f (aAm.toList.map a.eval) s fun v s'=>bO c F i (bZ a.eval s.look (.call ⟨.value (.func f),aAm,ts⟩)) s s'∧fD X K ops base c F l (i+1) (a.put d v) s' Φ:=by
 unfold fD
 rw[SH]
 simp only[WN]
 rfl
theorem d_alloc {op:Op} (hk:bN op=.alloc):fD X K ops base c F (⟨d,op,ty,pos,af,none⟩::l) i a s Φ ↔
  ∃ v f,cS X (base+2*i) a.eval op=some (v,f)∧bO c F i (bZ a.eval s.look op) s (s.put (base+2*i) f)∧fD X K ops base c F l (i+1) (a.put d v) (s.put (base+2*i) f) Φ:=by
 constructor
 ·rintro⟨n,x,h1,h2⟩
  rw[cI,if_pos (cL ..),jP,hk] at h1
  simp only at h1
  cases hv:cS X (base+2*i) a.eval op with
  | none=>rw[hv] at h1;cases h1
  | some p =>
   rcases p with ⟨v,f⟩
   rw[hv] at h1
   simp only at h1
   cases hl:cI X (dN X K n) (dH X K n) ops base l (i+1) (a.put d v) (s.put (base+2*i) f) with
   | none=>rw[hl] at h1;cases h1
   | some y =>
    rw[hl] at h1
    simp only[Option.some.injEq] at h1
    subst h1
    exact⟨v,f,rfl,h2.1.1 rfl,n,y,hl,h2.1.2,h2.2⟩
 ·rintro⟨v,f,hv,hn,n,y,hl,h2⟩
  exact pf hk hv ⟨n,y,hl,⟨fun _=>hn,h2.1⟩,h2.2⟩
theorem BJ {op:Op} {P:Value→St→Prop} (hk:bN op=.effect) (hp:∀ (cl:eR) (r:dK) v s',bL X cl r s a.eval op=.ret (v,s')↔P v s') :
  fD X K ops base c F (⟨d,op,ty,pos,af,none⟩::l) i a s Φ↔∃ v s',P v s'∧bO c F i (bZ a.eval s.look op) s s'∧fD X K ops base c F l (i+1) (a.put d v) s' Φ:=by
 constructor
 ·rintro⟨n,x,h1,h2⟩
  rw[cI,if_pos (cL ..),jP,hk] at h1
  simp only at h1
  cases he:bL X (dN X K n) (dH X K n) s a.eval op with
  | ret p =>
   rcases p with ⟨v,s'⟩
   rw[he] at h1
   simp only at h1
   cases hl:cI X (dN X K n) (dH X K n) ops base l (i+1) (a.put d v) s' with
   | none=>rw[hl] at h1;cases h1
   | some y =>
    rw[hl] at h1
    simp only[Option.some.injEq] at h1
    subst h1
    exact⟨v,s',(hp _ _ _ _).1 he,h2.1.1 rfl,n,y,hl,h2.1.2,h2.2⟩
  | _=>rw[he] at h1;cases h1
 ·rintro⟨v,s',hv,hn,n,y,hl,h2⟩
  refine⟨n,⟨y.1,y.2.1,{yK:=true,reads:=bZ a.eval s.look op,pre:=s,post:=s'}::y.2.2⟩,?_,⟨fun _=>hn,h2.1⟩,h2.2⟩
  rw[cI,if_pos (cL ..),jP,hk]
  simp only[(hp (dN X K n) (dH X K n) v s').2 hv,hl]
theorem d_store {t p x}:fD X K ops base c F (⟨d,.store t p x,ty,pos,af,none⟩::l) i a s Φ ↔
  ∃ ad s',a.eval p=.pointer (some ad)∧storeT X s t ad (a.eval x)=some s'∧bO c F i [] s s'∧fD X K ops base c F l (i+1) (a.put d undef) s' Φ:=by
 rw[BJ (P:=fun v s'=>v=undef∧∃ ad,a.eval p=.pointer (some ad)∧storeT X s t ad (a.eval x)=some s') rfl]
 ·constructor
  ·rintro⟨v,s',⟨rfl,ad,h1,h2⟩,h3⟩
   exact⟨ad,s',h1,h2,h3⟩
  ·rintro⟨ad,s',h1,h2,h3⟩
   exact⟨undef,s',⟨rfl,ad,h1,h2⟩,h3⟩
 ·intro cl r v s'
  simp only[bL]
  cases a.eval p with
  | pointer ad =>
   cases ad with
   | none=>simp
   | some ad =>
    simp only
    cases hs:storeT X s t ad (a.eval x) with
    | none=>simp[hs]
    | some s2=>simp[hs,eq_comm]
  | _=>simp
theorem UM {t m k x}:fD X K ops base c F (⟨d,.mapUpdate t m k x,ty,pos,af,none⟩::l) i a s Φ ↔
  ∃ s',gM X s t (a.eval m) (a.eval k) (a.eval x)=some s'∧bO c F i [] s s'∧fD X K ops base c F l (i+1) (a.put d undef) s' Φ:=by
 rw[BJ (P:=fun v s'=>v=undef∧gM X s t (a.eval m) (a.eval k) (a.eval x)=some s') rfl]
 ·constructor
  ·rintro⟨v,s',⟨rfl,h2⟩,h3⟩
   exact⟨s',h2,h3⟩
  ·rintro⟨s',h2,h3⟩
   exact⟨undef,s',⟨rfl,h2⟩,h3⟩
 ·intro cl r v s'
  simp only[bL]
  cases gM X s t (a.eval m) (a.eval k) (a.eval x) with
  | none=>simp
  | some s2=>simp[eq_comm]
theorem ta {aAm ts}:fD X K ops base c F (⟨d,.call ⟨.builtin .append,aAm,ts⟩,ty,pos,af,none⟩::l) i a s Φ ↔
  ∃ v s',iC X s ts (aAm.toList.map a.eval)=some (v,s')∧bO c F i (bZ a.eval s.look (.call ⟨.builtin .append,aAm,ts⟩)) s s'∧fD X K ops base c F l (i+1) (a.put d v) s' Φ:=by
 rw[BJ (P:=fun v s'=>iC X s ts (aAm.toList.map a.eval)=some (v,s')) rfl]
 intro cl r v s'
 simp only[bL]
 cases iC X s ts (aAm.toList.map a.eval) with
 | none=>simp[cQ.ofOption]
 | some p=>rcases p with ⟨v2,s2⟩;simp[cQ.ofOption]
theorem te {x}:fD X K ops base c F (⟨d,.move x,ty,pos,af,none⟩::l) i a s Φ↔bO c F i [] s s∧fD X K ops base c F l (i+1) (a.put d (a.eval x)) s Φ :=
 (HH rfl).trans ⟨fun⟨_,hv,h⟩=>by cases hv;exact h,fun h=>⟨_,rfl,h⟩⟩
theorem UL {x}:fD X K ops base c F (⟨d,.assign x,ty,pos,af,none⟩::l) i a s Φ↔bO c F i [] s s∧fD X K ops base c F l (i+1) (a.put d (a.eval x)) s Φ :=
 (HH rfl).trans ⟨fun⟨_,hv,h⟩=>by cases hv;exact h,fun h=>⟨_,rfl,h⟩⟩
end
section
variable {q:Bool} {X:Env} {K:qT} {ops:Array Oper} {d:Option Tmp} {ty:TypeId} {pos:String} {af:Array Edge} {l:List Oper} {a:bD} {s:St} {Φ:bD→St→Prop}
theorem WK {t m k x}:eE q X K ops (⟨d,.mapUpdate t m k x,ty,pos,af,none⟩::l) a s Φ↔∃ s',gM X s t (a.eval m) (a.eval k) (a.eval x)=some s'∧eE q X K ops l (a.put d undef) s' Φ:=by
 constructor
 ·rintro⟨n,hn⟩
  rw[dL,if_pos (cL ..)] at hn
  simp only[kD,show bN (.mapUpdate t m k x)=.effect from rfl,bL] at hn
  cases hp:gM X s t (a.eval m) (a.eval k) (a.eval x) with
  | none=>rw[hp] at hn;exact hn.elim
  | some s'=>rw[hp] at hn;exact⟨s',rfl,n,hn⟩
 ·rintro⟨s',hv,h⟩
  exact .effect rfl rfl (v:=undef) (s':=s') (fun c r=>by simp only[bL,hv]) h
theorem oz {b aAm ts} {g:Option (Value×St)} (he:∀ (c:eR) (r:dK),bL X c r s a.eval (.call ⟨.builtin b,aAm,ts⟩)=.ofOption "x" g∨∃ w,bL X c r s a.eval (.call ⟨.builtin b,aAm,ts⟩)=.ofOption w g)
  (hk:bN (.call ⟨.builtin b,aAm,ts⟩)=.effect):eE q X K ops (⟨d,.call ⟨.builtin b,aAm,ts⟩,ty,pos,af,none⟩::l) a s Φ↔∃ v s',g=some (v,s')∧eE q X K ops l (a.put d v) s' Φ:=by
 have he':∀ (c:eR) (r:dK),∃ w,bL X c r s a.eval (.call ⟨.builtin b,aAm,ts⟩)=.ofOption w g:=fun c r=>(he c r).elim (fun h=>⟨_,h⟩) id
 constructor
 ·rintro⟨n,hn⟩
  rw[dL,if_pos (cL ..)] at hn
  obtain⟨w,hw⟩:=he' (dN X K n) (dH X K n)
  simp only[kD,hk,hw] at hn
  cases g with
  | none=>exact hn.elim
  | some p=>rcases p with ⟨v,s'⟩;exact⟨v,s',rfl,n,hn⟩
 ·rintro⟨v,s',rfl,h⟩
  refine .effect rfl hk (v:=v) (s':=s') (fun c r=>?_) h
  obtain⟨w,hw⟩:=he' c r
  rw[hw];rfl
theorem o_clear {aAm ts}:eE q X K ops (⟨d,.call ⟨.builtin .clear,aAm,ts⟩,ty,pos,af,none⟩::l) a s Φ↔∃ v s',qZ X s ts (aAm.toList.map a.eval)=some (v,s')∧eE q X K ops l (a.put d v) s' Φ:=oz (fun _ _=>.inr ⟨_,rfl⟩) rfl
end
def EA (o:Option (Value×(Nat→bX))) (k:Value→(Nat→bX)→Prop):Prop:=match o with
 | some (v,f)=>k v f
 | none=>False
theorem yH (v:Value) (f:Nat→bX) (k:Value→(Nat→bX)→Prop):EA (some (v,f)) k=k v f:=rfl
theorem WL (o:Option (Value×(Nat→bX))) (k:Value→(Nat→bX)→Prop):EA o k↔∃ v f,o=some (v,f)∧k v f:=by
 cases o with
 | none=>exact⟨fun h=>h.elim,fun⟨_,_,h,_⟩=>by cases h⟩
 | some p=>rcases p with ⟨v,f⟩;exact⟨fun h=>⟨v,f,rfl,h⟩,fun⟨_,_,h,k⟩=>by cases h;exact k⟩
noncomputable def QL (X:Env) (nm:Nat) (t len:Nat) (parts:List (Nat×Value)):Option (Value×(Nat→bX)):=match X.ty t with
 | some {desc:=.slice e,..}=>match X.ty e with
  | some {zero:=some z,size:=esz,..} =>
   if len*esz≤2 ^ 24 then
    match Instr.fill (fun i=>some (i*esz,esz)) ((Array.range (len*esz)).map (z.cells[·%z.cells.size]!)) parts with
    | some cs=>some (.slice (some ⟨nm,0,none⟩) len len,fun v=>.cells (PT.ofList cs.toList) [] cs.size e false false v)
    | none=>none
   else none
  | _=>none
 | _=>none
def al (X:Env) (nm:Nat) (t:Nat) (l c:Value):Option (Value×(Nat→bX)):=match X.ty t,l,c with
  | some {desc:=.slice e,..},.int .i64 l,.int .i64 c=>match X.ty e with
   | some {zero:=some z,size:=esz,bytes,..} =>
    if 0≤l∧l≤c∧c<2 ^ 40∧bytes*c≤2 ^ 48∧z.cells.size=esz then
     some (.slice (some ⟨nm,0,none⟩) l.toNat c.toNat,fun v=>.cells .nil z.cells.toList (c.toNat*esz) e false false v)
    else none
   | _=>none
  | _,_,_=>none
def xo (X:Env) (nm:Nat) (t:Nat) (r:Option Value):Option (Value×(Nat→bX)):=match X.ty t,r with
  | some {desc:=.map _ _,..},none=>some (.map (some nm),fun v=>.map [] 0 v)
  | some {desc:=.map _ _,..},some (.int _ _)=>some (.map (some nm),fun v=>.map [] 0 v)
  | _,_=>none
theorem SA (x y:Int):eT (fun x y=>decide (y>x)) (.int .i64 x) [.int .i64 y]=some (.int .i64 (max x y)):=by
 simp only[eT,if_true,decide_eq_true_eq]
 congr 2
 omega
theorem SB (x y:Int):eT (fun x y=>decide (y<x)) (.int .i64 x) [.int .i64 y]=some (.int .i64 (min x y)):=by
 simp only[eT,if_true,decide_eq_true_eq]
 congr 2
 omega
def nH (q:Bool) (X:Env) (K:qT) (s:St) (f:Value) (args:List Value) (Ψ:Value→St→Prop):Prop:=∃ n,(mQ X (dN X K n) (dH X K n) s f args).jO q fun p=>Ψ p.1 p.2
theorem xS {q:Bool} {X:Env} {K:qT} {s:St} {f:FuncId} {fi ca:Array Value} {args:List Value} {Ψ:Value→St→Prop}:nH q X K s (.func (.func f) fi ca) args Ψ↔okF q X K f (fi.toList++args++ca.toList) s Ψ:=Iff.rfl
theorem wA {q:Bool} {X:Env} {K:qT} {s:St} {l:Nat} {fi ca:Array Value} {args:List Value} {Ψ:Value→St→Prop}:nH q X K s (.func (.yield l) fi ca) args Ψ↔okR q X K l (fi.toList++args) s Ψ:=Iff.rfl
section
variable {q:Bool} {X:Env} {K:qT} {ops:Array Oper} {d:Option Tmp} {ty:TypeId} {pos:String} {af:Array Edge} {l:List Oper} {a:bD} {s:St} {Φ:bD→St→Prop}
theorem CM {op:Op} (hk:bN op=.alloc):eE q X K ops (⟨d,op,ty,pos,af,none⟩::l) a s Φ↔EA (cS X s.next a.eval op) fun v f=>eE q X K ops l (a.put d v) (s.new f) Φ :=
 (pj hk).trans (WL _ _).symm
theorem yh {e}:eE q X K ops (⟨d,.alloc e,ty,pos,af,none⟩::l) a s Φ↔EA (cS X s.next a.eval (.alloc e)) fun v f=>eE q X K ops l (a.put d v) (s.new f) Φ:=CM rfl
theorem o_box {e x}:eE q X K ops (⟨d,.box e x,ty,pos,af,none⟩::l) a s Φ↔eE q X K ops l (a.put d (.pointer (some ⟨s.next,0,none⟩))) (s.new fun v=>.cells (PT.ofList (a.eval x).cells.toList) [] (a.eval x).cells.size e false false v) Φ:=CM rfl
theorem o_bs {t n ps}:eE q X K ops (⟨d,.buildSlice t n ps,ty,pos,af,none⟩::l) a s Φ↔EA (QL X s.next t n (ps.toList.map fun(i,x)=>(i,a.eval x))) fun v f=>eE q X K ops l (a.put d v) (s.new f) Φ:=CM rfl
theorem o_mks {t n c}:eE q X K ops (⟨d,.makeSlice t n c,ty,pos,af,none⟩::l) a s Φ↔EA (al X s.next t (a.eval n) (a.eval c)) fun v f=>eE q X K ops l (a.put d v) (s.new f) Φ:=CM rfl
theorem o_mm {t r}:eE q X K ops (⟨d,.makeMap t r,ty,pos,af,none⟩::l) a s Φ↔EA (xo X s.next t (r.map a.eval)) fun v f=>eE q X K ops l (a.put d v) (s.new f) Φ:=CM rfl
theorem KG {f fi ca}:eE q X K ops (⟨d,.makeFunc (.func f) fi ca,ty,pos,af,none⟩::l) a s Φ↔eE q X K ops l (a.put d (.func (.func f) (fi.toList.map a.eval).toArray (ca.toList.map a.eval).toArray)) s Φ:=by
 refine(yJ rfl).trans ?_
 simp only[bS,Option.some.injEq,exists_eq_left']
 rw[← Array.toList_map,← Array.toList_map,Array.toArray_toList,Array.toArray_toList]
theorem o_callv {t aAm ts}:eE q X K ops (⟨d,.call ⟨.value (.tmp t),aAm,ts⟩,ty,pos,af,none⟩::l) a s Φ↔nH q X K s (a.aD t) (aAm.toList.map a.eval) fun v s=>eE q X K ops l (a.put d v) s Φ:=by
 have hv:∀ (c:eR) (r:dK),bL X c r s a.eval (.call ⟨.value (.tmp t),aAm,ts⟩)=mQ X c r s (a.aD t) (aAm.toList.map a.eval):=fun c r=>rfl
 constructor
 ·rintro⟨n,hn⟩
  rw[dL,if_pos (cL ..)] at hn
  simp only[kD,show bN (.call ⟨.value (.tmp t),aAm,ts⟩)=.effect from rfl,hv] at hn
  rw[cQ.dS] at hn
  exact⟨n,hn.mono fun p hq=>⟨n,hq⟩⟩
 ·rintro⟨n,hn⟩
  obtain⟨m,hm⟩:=cQ.jH (Q:=fun m (p:Value×St)=>(dL X (dN X K m) (dH X K m) ops l (a.put d p.1) p.2).jO q fun(p:bD×St)=>Φ p.1 p.2)
   (fun m p hq=>tL (Φ:=fun p=>Φ p.1 p.2) (Nat.le_succ m) hq) hn
  refine⟨max n m,?_⟩
  rw[dL,if_pos (cL ..)]
  simp only[kD,show bN (.call ⟨.value (.tmp t),aAm,ts⟩)=.effect from rfl,hv]
  rw[cQ.dS]
  refine(cQ.le.allQ (IN (X:=X) ?_ ?_ _ _ _) hm).mono fun p hq=>tL (Φ:=fun p=>Φ p.1 p.2) (Nat.le_max_right n m) hq
  ·intro f args s
   exact UB (Nat.le_max_left n m) f args s
  ·intro f args s
   exact OW (Nat.le_max_left n m) f args s
end
section
variable {X:Env} {K:qT} {ops:Array Oper} {base i:Nat} {c:List (Nat×Nat)} {F:List Nat} {d:Option Tmp} {ty:TypeId} {pos:String} {af:Array Edge} {l:List Oper} {a:bD} {s:St} {Φ:bD→St→Prop}
theorem wB {op:Op} (hk:bN op=.alloc) (hr:bZ a.eval s.look op=[]):fD X K ops base c F (⟨d,op,ty,pos,af,none⟩::l) i a s Φ↔EA (cS X (base+2*i) a.eval op) fun v f=>bO c F i [] s (s.put (base+2*i) f)∧fD X K ops base c F l (i+1) (a.put d v) (s.put (base+2*i) f) Φ:=by
 rw[d_alloc hk,WL,hr]
theorem sy {e}:fD X K ops base c F (⟨d,.alloc e,ty,pos,af,none⟩::l) i a s Φ↔EA (cS X (base+2*i) a.eval (.alloc e)) fun v f=>bO c F i [] s (s.put (base+2*i) f)∧fD X K ops base c F l (i+1) (a.put d v) (s.put (base+2*i) f) Φ:=wB rfl rfl
theorem d_bs {t n ps}:fD X K ops base c F (⟨d,.buildSlice t n ps,ty,pos,af,none⟩::l) i a s Φ↔EA (QL X (base+2*i) t n (ps.toList.map fun(i,x)=>(i,a.eval x))) fun v f=>bO c F i [] s (s.put (base+2*i) f)∧fD X K ops base c F l (i+1) (a.put d v) (s.put (base+2*i) f) Φ:=wB rfl rfl
theorem d_mks {t n c'}:fD X K ops base c F (⟨d,.makeSlice t n c',ty,pos,af,none⟩::l) i a s Φ↔EA (al X (base+2*i) t (a.eval n) (a.eval c')) fun v f=>bO c F i [] s (s.put (base+2*i) f)∧fD X K ops base c F l (i+1) (a.put d v) (s.put (base+2*i) f) Φ:=wB rfl rfl
theorem d_mm {t r}:fD X K ops base c F (⟨d,.makeMap t r,ty,pos,af,none⟩::l) i a s Φ↔EA (xo X (base+2*i) t (r.map a.eval)) fun v f=>bO c F i [] s (s.put (base+2*i) f)∧fD X K ops base c F l (i+1) (a.put d v) (s.put (base+2*i) f) Φ:=wB rfl rfl
theorem d_box {e x}:fD X K ops base c F (⟨d,.box e x,ty,pos,af,none⟩::l) i a s Φ↔bO c F i [] s (s.put (base+2*i) fun v=>.cells (PT.ofList (a.eval x).cells.toList) [] (a.eval x).cells.size e false false v)∧fD X K ops base c F l (i+1) (a.put d (.pointer (some ⟨base+2*i,0,none⟩))) (s.put (base+2*i) fun v=>.cells (PT.ofList (a.eval x).cells.toList) [] (a.eval x).cells.size e false false v) Φ:=wB rfl rfl
theorem IU {f fi ca}:fD X K ops base c F (⟨d,.makeFunc (.func f) fi ca,ty,pos,af,none⟩::l) i a s Φ↔bO c F i [] s s∧fD X K ops base c F l (i+1) (a.put d (.func (.func f) (fi.toList.map a.eval).toArray (ca.toList.map a.eval).toArray)) s Φ:=by
 refine(HH rfl).trans ?_
 simp only[bS,Option.some.injEq,exists_eq_left',bZ]
 rw[← Array.toList_map,← Array.toList_map,Array.toArray_toList,Array.toArray_toList]
end
end Go.Dust
