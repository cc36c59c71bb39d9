/- The plain interpreter D and its laws (Ec Ed Ee Ef Eg Eh). -/
import Derived.Test.YtaoiejcaopgjcaaGreatH
import Derived.Lib.ItoaNum
set_option linter.unusedVariables false
set_option linter.unusedSimpArgs false
namespace Go.Dust
section
variable {q:Bool} {X:Env} {K:eE}
theorem KQ {r a s} {Φ:dL→aG→St→Prop}:cN q X K r .skip a s Φ↔Φ .normal a s :=
 ⟨fun⟨n,hn⟩=>by
  cases n with
  | zero=>rw[cH] at hn;exact hn.elim
  | succ n=>rw[cH] at hn;exact hn,.skip⟩
theorem Jj {r a s} {Φ:dL→aG→St→Prop}:cN q X K r .ret a s Φ↔Φ .ret a s :=
 ⟨fun⟨n,hn⟩=>by
  cases n with
  | zero=>rw[cH] at hn;exact hn.elim
  | succ n=>rw[cH] at hn;exact hn,.ret⟩
theorem KP {r a s i} {Φ:dL→aG→St→Prop}:cN q X K r (.exit i) a s Φ↔Φ (.exit i) a s :=
 ⟨fun⟨n,hn⟩=>by
  cases n with
  | zero=>rw[cH] at hn;exact hn.elim
  | succ n=>rw[cH] at hn;exact hn,.exit⟩
theorem mq {r x y a s} {Φ:dL→aG→St→Prop}:cN q X K r (.seq x y) a s Φ↔cN q X K r x a s fun e a s=>match e with
  | .normal=>cN q X K r y a s Φ
  | e=>Φ e a s :=
 ⟨fun⟨n,hn⟩=>by
  cases n with
  | zero=>rw[cH] at hn;exact hn.elim
  | succ n =>
   rw[cH,aS.oO] at hn;refine⟨n,hn.mono fun p hq=>?_⟩;rcases p with ⟨e,a,s⟩;cases e with
   | normal=>exact⟨n,hq⟩
   | _=>exact hq,.seq⟩
theorem PF {r c x y a s} {Φ:dL→aG→St→Prop}:cN q X K r (.cond c x y) a s Φ↔∃ b,a.eval c=.bool b∧cN q X K r (if b=true then x else y) a s Φ :=
 ⟨fun⟨n,hn⟩=>by
  cases n with
  | zero=>rw[cH] at hn;exact hn.elim
  | succ n =>
   rw[cH] at hn;cases hc:a.eval c with
   | bool b =>
    rw[hc] at hn;refine⟨b,rfl,n,?_⟩;cases b <;> exact hn
   | _=>rw[hc] at hn;exact hn.elim,fun⟨_,hb,h⟩=>.cond hb h⟩
theorem mn {r id b a s} {Φ:dL→aG→St→Prop}:cN q X K r (.block id b) a s Φ↔cN q X K r b a s fun e a s=>match e with
  | .exit i=>if i=id then Φ .normal a s else Φ (.exit i) a s
  | e=>Φ e a s :=
 ⟨fun⟨n,hn⟩=>by
  cases n with
  | zero=>rw[cH] at hn;exact hn.elim
  | succ n =>
   rw[cH,aS.oO] at hn;refine⟨n,hn.mono fun p hq=>?_⟩;rcases p with ⟨e,a,s⟩;cases e with
   | exit i =>
    simp only at hq ⊢;split
    ·rename_i hi;rw[if_pos hi] at hq;exact hq
    ·rename_i hi;rw[if_neg hi] at hq;exact hq
   | _=>exact hq,.block⟩
theorem mo {r id ops a s} {Φ:dL→aG→St→Prop}:cN q X K r (.region id ops false) a s Φ↔bP q X K ops ops.toList a s (Φ .normal) :=
 ⟨fun⟨n,hn⟩=>by
  cases n with
  | zero=>rw[cH] at hn;exact hn.elim
  | succ n =>
   rw[cH,aS.oO] at hn;exact⟨n,hn⟩,.region⟩
theorem oN (d op ty pos af) (y:Nat→Option Bool):Region.wanted (⟨d,op,ty,pos,af,none⟩:Oper) y=true:=rfl
theorem Jq {ops a s} {Φ:aG→St→Prop}:bP q X K ops [] a s Φ↔Φ a s:=⟨fun⟨_,hn⟩=>hn,.nil⟩
theorem Jp {ops d op ty pos af j w l a s} {Φ:aG→St→Prop}:bP q X K ops (⟨d,op,ty,pos,af,some (j,w)⟩::l) a s Φ ↔
  if aN ops a j=some w then bP q X K ops (⟨d,op,ty,pos,af,none⟩::l) a s Φ else bP q X K ops l (a.put d undef) s Φ:=by
 have hw:Region.wanted (⟨d,op,ty,pos,af,some (j,w)⟩:Oper) (aN ops a)=(aN ops a j==some w):=rfl;have hw':Region.wanted (⟨d,op,ty,pos,af,none⟩:Oper) (aN ops a)=true:=rfl;unfold bP;simp only[gP,hw,hw',if_true];by_cases h:aN ops a j=some w
 ·simp only[h,beq_self_eq_true,if_true]
 ·have h':(aN ops a j==some w)=false:=by simpa using h
  simp only[h',Bool.false_eq_true,if_false,h]
theorem XD {ops d op ty pos af l a s} {Φ:aG→St→Prop} (hk:dP op=.still):bP q X K ops (⟨d,op,ty,pos,af,none⟩::l) a s Φ ↔
  ∃ v,dU X s.look a.eval op=some v∧bP q X K ops l (a.put d v) s Φ:=by
 refine⟨fun⟨n,hn⟩=>?_,fun⟨v,hv,h⟩=>.still rfl hk hv h⟩;rw[gP,if_pos (oN ..),lX,hk] at hn;simp only at hn;cases hv:dU X s.look a.eval op with
 | none=>rw[hv] at hn;exact hn.elim
 | some v=>rw[hv] at hn;exact⟨v,rfl,n,hn⟩
theorem aE3 {ops d op ty pos af l a s} {Φ:aG→St→Prop} (hk:dP op=.alloc):bP q X K ops (⟨d,op,ty,pos,af,none⟩::l) a s Φ ↔
  ∃ v f,fE X s.next a.eval op=some (v,f)∧bP q X K ops l (a.put d v) (s.new f) Φ:=by
 refine⟨fun⟨n,hn⟩=>?_,fun⟨v,f,hv,h⟩=>.alloc rfl hk hv h⟩;rw[gP,if_pos (oN ..),lX,hk] at hn;simp only at hn;cases hv:fE X s.next a.eval op with
 | none=>rw[hv] at hn;exact hn.elim
 | some p=>rcases p with ⟨v,f⟩;rw[hv] at hn;exact⟨v,f,rfl,n,hn⟩
theorem aE7 {ops d t p x ty pos af l a s} {Φ:aG→St→Prop}:bP q X K ops (⟨d,.store t p x,ty,pos,af,none⟩::l) a s Φ ↔
  ∃ ad s',a.eval p=.pointer (some ad)∧storeT X s t ad (a.eval x)=some s'∧bP q X K ops l (a.put d undef) s' Φ:=by
 constructor
 ·rintro⟨n,hn⟩;rw[gP,if_pos (oN ..)] at hn;simp only[lX,dP,eX] at hn;cases hp:a.eval p with
  | pointer ad =>
   rw[hp] at hn;cases ad with
   | none=>exact hn.elim
   | some ad =>
    simp only at hn;cases hs:storeT X s t ad (a.eval x) with
    | none=>rw[hs] at hn;exact hn.elim
    | some s'=>rw[hs] at hn;exact⟨ad,s',rfl,hs,n,hn⟩
  | _=>rw[hp] at hn;exact hn.elim
 ·rintro⟨ad,s',hp,hs,h⟩;exact .effect rfl rfl (v:=undef) (s':=s') (fun c r=>by simp only[eX,hp,hs]) h
theorem aE4 {ops d f aKe ts ty pos af l a s} {Φ:aG→St→Prop}:bP q X K ops (⟨d,.call ⟨.value (.func f),aKe,ts⟩,ty,pos,af,none⟩::l) a s Φ ↔
  okF q X K f (aKe.toList.map a.eval) s fun v s=>bP q X K ops l (a.put d v) s Φ:=by
 have hv:∀ (c:fZ) (r:gM),eX X c r s a.eval (.call ⟨.value (.func f),aKe,ts⟩)=c f (aKe.toList.map a.eval) s:=fun c r=>by
  simp[eX,aG.eval,oC]
 constructor
 ·rintro⟨n,hn⟩;rw[gP,if_pos (oN ..)] at hn;simp only[lX,show dP (.call ⟨.value (.func f),aKe,ts⟩)=.effect from rfl,hv] at hn;rw[aS.oO] at hn;exact⟨n,hn.mono fun p hq=>⟨n,hq⟩⟩
 ·exact fun h=>.call rfl rfl hv h
end
theorem Kw (a:aG) (d:Tmp) (v:Value) (t:Tmp):(a.put (some d) v).aB t=if t=d then v else a.aB t:=by
 simp only[aG.put,aG.aB,PT.fC];split <;> rfl
theorem Ki (a:aG) (v:Value):a.put none v=a:=rfl
theorem zk (a:aG) (t:Tmp):a.eval (.tmp t)=a.aB t:=rfl
theorem eval_const (a:aG) (v:Value):a.eval (.const v)=v:=rfl
theorem Bv (l:List Value) (n t:Nat):aG.aB {tmps:=PT.ofList l,nt:=n} t=l[t]?.getD undef:=by
 simp only[aG.aB,PT.sF]
section
variable {q:Bool} {X:Env} {K:eE} {ops:Array Oper} {d:Option Tmp} {ty:TypeId} {pos:String} {af:Array Edge} {l:List Oper} {a:aG} {s:St} {Φ:aG→St→Prop}
theorem Jd {x}:bP q X K ops (⟨d,.move x,ty,pos,af,none⟩::l) a s Φ↔bP q X K ops l (a.put d (a.eval x)) s Φ :=
 (XD rfl).trans ⟨fun⟨_,hv,h⟩=>by cases hv;exact h,fun h=>⟨_,rfl,h⟩⟩
theorem Iy {x}:bP q X K ops (⟨d,.assign x,ty,pos,af,none⟩::l) a s Φ↔bP q X K ops l (a.put d (a.eval x)) s Φ :=
 (XD rfl).trans ⟨fun⟨_,hv,h⟩=>by cases hv;exact h,fun h=>⟨_,rfl,h⟩⟩
end
section
variable {X:Env} {K:eE}
def kX (X:Env) (K:eE) (ops:Array Oper) (base:Nat) (l:List Oper) (i:Nat) (a:aG) (s:St) (Φ:aG→St→List nB→Prop):Prop :=
 ∃ n x,eP X (eJ X K n) (gI X K n) ops base l i a s=some x∧Φ x.1 x.2.1 x.2.2
theorem Ha {n m:Nat} (hnm:n≤m) {ops base l i a s x} (h:eP X (eJ X K n) (gI X K n) ops base l i a s=some x):eP X (eJ X K m) (gI X K m) ops base l i a s=some x:=by
 induction hnm with
 | refl=>exact h
 | step _ ih=>exact WB (CX X K _).2.1 (CX X K _).2.2 _ _ _ _ _ _ _ ih
theorem aDk {q r id ops a s c} {Φ:dL→aG→St→Prop} (hc:rZ ops=some c)
  (h:kX X K ops s.next ops.toList 0 a {heap:=s.heap,next:=s.next+2*ops.size,aO:=s.aO} fun a s lg=>OL lg c=true∧Φ .normal a s):cN q X K r (.region id ops true) a s Φ:=by
 obtain⟨n,⟨a',s',lg⟩,h1,h2,h3⟩:=h;refine⟨n+1,?_⟩;rw[cH,aS.oO];simp only[if_true,uR,hc,h1,h2];exact h3
theorem aDz {ops base i a s} {Φ:aG→St→List nB→Prop} (h:Φ a s []):kX X K ops base [] i a s Φ:=⟨0,_,rfl,h⟩
theorem aDx {ops base d op ty pos af j w l i a s} {Φ:aG→St→List nB→Prop} (h:if aN ops a j=some w then kX X K ops base (⟨d,op,ty,pos,af,none⟩::l) i a s Φ
  else kX X K ops base l (i+1) (a.put d undef) s fun a2 s2 lg=>Φ a2 s2 ({iC:=false,reads:=[],pre:=s,post:=s}::lg)):kX X K ops base (⟨d,op,ty,pos,af,some (j,w)⟩::l) i a s Φ:=by
 have hw:Region.wanted (⟨d,op,ty,pos,af,some (j,w)⟩:Oper) (aN ops a)=(aN ops a j==some w):=rfl;by_cases hy:aN ops a j=some w
 ·rw[if_pos hy] at h;obtain⟨n,x,h1,h2⟩:=h;refine⟨n,x,?_,h2⟩;rw[eP] at h1 ⊢;rw[hw,hy];rw[if_pos (oN ..)] at h1;rw[if_pos (by simp)];exact h1
 ·rw[if_neg hy] at h;obtain⟨n,⟨a2,s2,lg⟩,h1,h2⟩:=h;refine⟨n,⟨a2,s2,{iC:=false,reads:=[],pre:=s,post:=s}::lg⟩,?_,h2⟩;rw[eP,hw,if_neg (by simpa using hy)];simp only[h1]
theorem aE1 {ops base d op ty pos af l i a s v} {Φ:aG→St→List nB→Prop} (hk:dP op=.still) (hv:dU X s.look a.eval op=some v)
  (h:kX X K ops base l (i+1) (a.put d v) s fun a2 s2 lg=>Φ a2 s2 ({iC:=true,reads:=fM a.eval s.look op,pre:=s,post:=s}::lg)):kX X K ops base (⟨d,op,ty,pos,af,none⟩::l) i a s Φ:=by
 obtain⟨n,⟨a2,s2,lg⟩,h1,h2⟩:=h;refine⟨n,⟨a2,s2,{iC:=true,reads:=fM a.eval s.look op,pre:=s,post:=s}::lg⟩,?_,h2⟩;rw[eP,if_pos (oN ..),lK,hk];simp only[hv,h1]
theorem aDt {ops base d op ty pos af l i a s v f} {Φ:aG→St→List nB→Prop} (hk:dP op=.alloc) (hv:fE X (base+2*i) a.eval op=some (v,f))
  (h:kX X K ops base l (i+1) (a.put d v) (s.put (base+2*i) f) fun a2 s2 lg=>Φ a2 s2 ({iC:=true,reads:=fM a.eval s.look op,pre:=s,post:=s.put (base+2*i) f}::lg)):kX X K ops base (⟨d,op,ty,pos,af,none⟩::l) i a s Φ:=by
 obtain⟨n,⟨a2,s2,lg⟩,h1,h2⟩:=h;refine⟨n,⟨a2,s2,{iC:=true,reads:=fM a.eval s.look op,pre:=s,post:=s.put (base+2*i) f}::lg⟩,?_,h2⟩;rw[eP,if_pos (oN ..),lK,hk];simp only[hv,h1]
theorem aDv {ops base d f aKe ts ty pos af l i a s} {Φ:aG→St→List nB→Prop} (h:okF false X K f (aKe.toList.map a.eval) s fun v s'=>kX X K ops base l (i+1) (a.put d v) s' fun a2 s2 lg =>
  Φ a2 s2 ({iC:=true,reads:=fM a.eval s.look (.call ⟨.value (.func f),aKe,ts⟩),pre:=s,post:=s'}::lg)):kX X K ops base (⟨d,.call ⟨.value (.func f),aKe,ts⟩,ty,pos,af,none⟩::l) i a s Φ:=by
 obtain⟨n,hn⟩:=h;obtain⟨⟨v,s'⟩,h1,m,⟨a2,s2,lg⟩,h2,h3⟩:=aS.ZE hn;have hv:∀ (c:fZ) (r:gM),eX X c r s a.eval (.call ⟨.value (.func f),aKe,ts⟩)=c f (aKe.toList.map a.eval) s:=fun c r=>by
  simp[eX,aG.eval,oC]
 refine⟨max n m,⟨a2,s2,{iC:=true,reads:=fM a.eval s.look (.call ⟨.value (.func f),aKe,ts⟩),pre:=s,post:=s'}::lg⟩,?_,h3⟩;rw[eP,if_pos (oN ..),lK];have h4:eJ X K (max n m) f (aKe.toList.map a.eval) s=.ret (v,s'):=by
  have h5:(eJ X K n f (aKe.toList.map a.eval) s).gE false fun p=>p=(v,s'):=by rw[h1];rfl
  obtain⟨p,hp,rfl⟩:=aS.ZE (xq (Nat.le_max_left n m) h5);exact hp
 simp only[show dP (.call ⟨.value (.func f),aKe,ts⟩)=.effect from rfl,hv,h4];rw[Ha (Nat.le_max_right n m) h2]
theorem kX.mono {ops base l i a s} {Φ Ψ:aG→St→List nB→Prop} (h:kX X K ops base l i a s Φ) (hp:∀ a s lg,Φ a s lg→Ψ a s lg):kX X K ops base l i a s Ψ:=by
 obtain⟨n,x,h1,h2⟩:=h;exact⟨n,x,h1,hp _ _ _ h2⟩
def St.wf (s:St):Prop:=∀ b o,s.heap.get b=some o→o.cS=false→o.aT<s.aO
theorem okF.zm (hK:∀ f args s r,K f args s=some r→r.Lv fun p=>dN s p.2) {q f args s} {Φ:Value→St→Prop} (h:okF q X K f args s Φ):okF q X K f args s fun v s'=>Φ v s'∧dN s s':=by
 obtain⟨n,hn⟩:=h;exact⟨n,aS.rq hn ((cj hK n).2.1 f args s)⟩
theorem aV {q:Bool} {f:FuncId} {fn:Func} {c:Code} {rs:List ResultVar} {N:Nat} {args:List Value} {s:St} {Φ:Value→St→Prop} (hk:K f args s=none) (hf:X.fn f=some fn) (hb:fn.body=some c) (hr:fn.results.toList=rs) (hN:fn.ntmps=N) (hn:Nat.ble args.length N=true)
  (h:cN q X K none c {tmps:=PT.ofList args,nt:=N} s fun e a s=>match e with
   | .exit _=>False
   | _=>∃ l,results1 X s.look a rs=some l∧Φ (match l with | [v]=>v | l=>.tuple l.toArray) s):okF q X K f args s Φ:=by
 refine okF.body hk hf hb (by rw[hN];exact Nat.le_of_ble_eq_true hn) ?_;rw[hN];refine h.mono fun e a s hp=>?_;cases e with
 | exit i=>exact hp
 | _ =>
  obtain⟨l,hl,hp⟩:=hp;refine⟨_,?_,hp⟩;rw[wX,hr,hl]
  match l with
  | []=>rfl
  | [v]=>rfl
  | v::w::l=>rfl
theorem Ld (H:bG) (a:aG) (t:Tmp) (rest:List ResultVar):results1 X H a (.tmp t::rest)=(results1 X H a rest).map (a.aB t::·):=by
 rw[results1];cases results1 X H a rest <;> rfl
theorem La (H:bG) (a:aG):results1 X H a []=some []:=rfl
end
section
variable {X:Env} {K:eE} {ops:Array Oper} {base i:Nat} {d:Option Tmp} {ty:TypeId} {pos:String} {af:Array Edge} {l:List Oper} {a:aG} {s:St} {Φ:aG→St→List nB→Prop}
theorem aE2 {op:Op} (hk:dP op=.still):kX X K ops base (⟨d,op,ty,pos,af,none⟩::l) i a s Φ ↔
  ∃ v,dU X s.look a.eval op=some v∧kX X K ops base l (i+1) (a.put d v) s fun a2 s2 lg=>Φ a2 s2 ({iC:=true,reads:=fM a.eval s.look op,pre:=s,post:=s}::lg):=by
 refine⟨fun⟨n,x,h1,h2⟩=>?_,fun⟨v,hv,h⟩=>aE1 hk hv h⟩;rw[eP,if_pos (oN ..),lK,hk] at h1;simp only at h1;cases hv:dU X s.look a.eval op with
 | none=>rw[hv] at h1;cases h1
 | some v =>
  rw[hv] at h1;simp only at h1;cases hl:eP X (eJ X K n) (gI X K n) ops base l (i+1) (a.put d v) s with
  | none=>rw[hl] at h1;cases h1
  | some y =>
   rw[hl] at h1;simp only[Option.some.injEq] at h1;subst h1;exact⟨v,rfl,n,y,hl,h2⟩
theorem aDw {f aKe ts}:kX X K ops base (⟨d,.call ⟨.value (.func f),aKe,ts⟩,ty,pos,af,none⟩::l) i a s Φ↔okF false X K f (aKe.toList.map a.eval) s fun v s'=>kX X K ops base l (i+1) (a.put d v) s' fun a2 s2 lg =>
  Φ a2 s2 ({iC:=true,reads:=fM a.eval s.look (.call ⟨.value (.func f),aKe,ts⟩),pre:=s,post:=s'}::lg):=by
 refine⟨fun⟨n,x,h1,h2⟩=>?_,aDv⟩;have hv:∀ (c:fZ) (r:gM),eX X c r s a.eval (.call ⟨.value (.func f),aKe,ts⟩)=c f (aKe.toList.map a.eval) s:=fun c r=>by
  simp[eX,aG.eval,oC]
 rw[eP,if_pos (oN ..),lK] at h1;simp only[show dP (.call ⟨.value (.func f),aKe,ts⟩)=.effect from rfl,hv] at h1;cases hc:eJ X K n f (aKe.toList.map a.eval) s with
 | ret p =>
  rcases p with ⟨v,s'⟩;rw[hc] at h1;simp only at h1;cases hl:eP X (eJ X K n) (gI X K n) ops base l (i+1) (a.put d v) s' with
  | none=>rw[hl] at h1;cases h1
  | some y =>
   rw[hl] at h1;simp only[Option.some.injEq] at h1;subst h1;refine⟨n,?_⟩;rw[hc];exact⟨n,y,hl,h2⟩
 | _=>rw[hc] at h1;cases h1
theorem aE0:kX X K ops base [] i a s Φ↔Φ a s []:=⟨fun⟨_,x,h1,h2⟩=>by cases h1;exact h2,aDz⟩
end
section
variable (X:Env) (H:bG) (t:TypeId)
theorem vm (x y:Int):binop X H .gtr t (.int .i64 x) (.int .i64 y)=some (.bool (decide (x>y))):=rfl
theorem vl (x y:Int):binop X H .geq t (.int .i64 x) (.int .i64 y)=some (.bool (decide (x≥y))):=rfl
theorem vp (x y:Int):binop X H .lss t (.int .i64 x) (.int .i64 y)=some (.bool (decide (x<y))):=rfl
theorem vo (x y:Int):binop X H .leq t (.int .i64 x) (.int .i64 y)=some (.bool (decide (x≤y))):=rfl
theorem vk (x y:Int):binop X H .eql t (.int .i64 x) (.int .i64 y)=some (.bool (x==y)):=rfl
theorem vt (x y:Int):binop X H .neq t (.int .i64 x) (.int .i64 y)=some (.bool (!(x==y))):=rfl
theorem vq (x y:Int):binop X H .mul t (.int .i64 x) (.int .i64 y)=some (.int .i64 (IntKind.i64.wrap (x*y))):=rfl
theorem vj (x y:Int):binop X H .add t (.int .i64 x) (.int .i64 y)=some (.int .i64 (IntKind.i64.wrap (x+y))):=rfl
theorem vx (x y:Int):binop X H .sub t (.int .i64 x) (.int .i64 y)=some (.int .i64 (IntKind.i64.wrap (x-y))):=rfl
theorem vw (x y:Int):binop X H .shl t (.int .i64 x) (.int .i64 y)=vP .shl .i64 x y:=rfl
theorem vu (x y:Int):binop X H .quo t (.int .i64 x) (.int .i64 y)=if y=0 then none else some (.int .i64 (IntKind.i64.wrap (x.tdiv y))):=rfl
theorem vv (x y:Int):binop X H .rem t (.int .i64 x) (.int .i64 y)=if y=0 then none else some (.int .i64 (x.tmod y)):=rfl
end
theorem Qn (k:IntKind) (n:Int):unop .neg (.int k n)=some (.int k (k.wrap (0-n))):=rfl
theorem Qo (b:Bool):unop .not (.bool b)=some (.bool !b):=rfl
theorem aU {n:Int} (h1:-9223372036854775808≤n) (h2:n≤9223372036854775807):IntKind.i64.wrap n=n:=by
 unfold IntKind.wrap;simp only[IntKind.bits,IntKind.signed,Bool.true_and];have e1:(2:Int) ^ 64=18446744073709551616:=rfl;have e2:(2:Int) ^ (64-1)=9223372036854775808:=rfl;simp only[e1,e2,decide_eq_true_eq];split <;> omega
def str (l:List UInt8):Value:=.string ⟨⟨l⟩⟩
def St.fresh (s:St):Prop:=∀ b,s.next≤b→s.heap.get b=none
structure rU (s s':St):Prop where
 cW:∀ b o,s.heap.get b=some o→s'.heap.get b=some o
 wf:s'.wf
 fresh:s'.fresh
 next:s.next≤s'.next
theorem rU.refl {s:St} (h1:s.wf) (h2:s.fresh):rU s s:=⟨fun _ _ h=>h,h1,h2,Nat.le_refl _⟩
theorem rU.trans {a b c:St} (h:rU a b) (k:rU b c):rU a c:=⟨fun x o hx=>k.cW x o (h.cW x o hx),k.wf,k.fresh,Nat.le_trans h.next k.next⟩
theorem rU.Le {s s':St} (h:rU s s') (n:Nat):rU s {heap:=s'.heap,next:=s'.next+n,aO:=s'.aO} :=
 ⟨h.cW,h.wf,fun b hb=>h.fresh b (Nat.le_trans (Nat.le_add_right _ _) hb),Nat.le_trans h.next (Nat.le_add_right _ _)⟩
theorem rU.new {s s':St} (h:rU s s') {f:Nat→bU} (hf:(f s'.aO).aT≤s'.aO):rU s (s'.new f):=by
 refine⟨fun b o hb=>?_,fun b o hb hd=>?_,fun b hb=>?_,?_⟩
 ·simp only[St.new,PT.fC];split
  ·rename_i e;subst e;have:=h.fresh s'.next (Nat.le_refl _);rw[h.cW _ o hb] at this;cases this
  ·exact h.cW b o hb
 ·simp only[St.new,PT.fC] at hb ⊢;split at hb
  ·cases hb;exact Nat.lt_succ_of_le hf
  ·exact Nat.lt_succ_of_lt (h.wf b o hb hd)
 ·have hb':s'.next+2≤b:=hb;simp only[St.new,PT.fC];rw[if_neg (by omega)];exact h.fresh b (by omega)
 ·exact Nat.le_trans h.next (Nat.le_add_right _ _)
theorem rU.load {s s':St} (h:rU s s') {a:Addr} {v:Value} (hl:aI s.look a=some v):aI s'.look a=some v:=by
 rcases a with ⟨b,off,sp⟩;unfold aI at hl ⊢;simp only[St.look] at hl ⊢;cases ho:s.heap.get b with
 | none=>rw[ho] at hl;cases sp <;> cases hl
 | some o=>rw[ho] at hl;rw[h.cW _ _ ho];exact hl
theorem aCa {s:St} {a:Addr} {v:Value} (hl:aI s.look a=some v):∃ o,s.heap.get a.block=some o∧o.cS=false:=by
 rcases a with ⟨b,off,sp⟩;unfold aI at hl;simp only[St.look] at hl ⊢;cases ho:s.heap.get b with
 | none=>rw[ho] at hl;cases sp <;> cases hl
 | some o =>
  refine⟨o,rfl,?_⟩;rw[ho] at hl;cases o with
  | dead=>cases sp <;> cases hl
  | _=>rfl
section
variable {q:Bool} {X:Env} {K:eE} {ops:Array Oper} {base i:Nat} {d:Option Tmp} {ty:TypeId} {pos:String} {af:Array Edge} {l:List Oper} {a:aG} {s:St}
theorem aDy {op j w} {Φ:aG→St→List nB→Prop}:kX X K ops base (⟨d,op,ty,pos,af,some (j,w)⟩::l) i a s Φ↔if aN ops a j=some w then kX X K ops base (⟨d,op,ty,pos,af,none⟩::l) i a s Φ
  else kX X K ops base l (i+1) (a.put d undef) s fun a2 s2 lg=>Φ a2 s2 ({iC:=false,reads:=[],pre:=s,post:=s}::lg):=by
 refine⟨fun⟨n,x,h1,h2⟩=>?_,aDx⟩;have hw:Region.wanted (⟨d,op,ty,pos,af,some (j,w)⟩:Oper) (aN ops a)=(aN ops a j==some w):=rfl;by_cases hy:aN ops a j=some w
 ·rw[if_pos hy];refine⟨n,x,?_,h2⟩;rw[eP] at h1 ⊢;rw[hw,hy,if_pos (by simp)] at h1;rw[if_pos (oN ..)];exact h1
 ·rw[if_neg hy];rw[eP,hw,if_neg (by simpa using hy)] at h1;cases hl:eP X (eJ X K n) (gI X K n) ops base l (i+1) (a.put d undef) s with
  | none=>rw[hl] at h1;cases h1
  | some y =>
   rw[hl] at h1;simp only[Option.some.injEq] at h1;subst h1;exact⟨n,y,hl,h2⟩
end
def bC (v:Value):Option Bool:=match v with
 | .bool b=>some b
 | _=>none
theorem wi (b:Bool):bC (.bool b)=some b:=rfl
def dx (ops:Array Oper) (gd:List (Nat×Tmp)):Bool:=gd.all fun p=>match (ops[p.1]?).bind (·.dst) with
 | some d=>Nat.beq d p.2
 | none=>false
theorem Bz {ops:Array Oper} {gd:List (Nat×Tmp)} (h:dx ops gd=true):∀ p∈gd,∀ a,aN ops a p.1=bC (a.aB p.2):=by
 intro p hp a;have:=List.all_eq_true.1 h p hp;unfold aN;cases hd:(ops[p.1]?).bind (·.dst) with
 | none=>rw[hd] at this;cases this
 | some d =>
  rw[hd] at this;have e:d=p.2:=Nat.eq_of_beq_eq_true this;subst e;rfl
theorem cK {q:Bool} {X:Env} {K:eE} {r:Option Nat} {id:Nat} {ops:Array Oper} {a:aG} {s:St} {Φ:dL→aG→St→Prop} (gd:List (Nat×Tmp)) (hg:dx ops gd=true)
  (h:∀ O:Array Oper,(∀ p∈gd,∀ a,aN O a p.1=bC (a.aB p.2))→∀ Ψ:aG→St→Prop,(∀ a s,Φ .normal a s→Ψ a s)→bP q X K O ops.toList a s Ψ):cN q X K r (.region id ops false) a s Φ:=mo.2 (h ops (Bz hg) _ fun _ _ h=>h)
theorem aA {q:Bool} {X:Env} {K:eE} {r:Option Nat} {x y:Code} {a:aG} {s:St} {Φ:dL→aG→St→Prop}
  (h:∀ Ψ:dL→aG→St→Prop,(∀ a s,cN q X K r y a s Φ→Ψ .normal a s)→(∀ e a s,e≠.normal→Φ e a s→Ψ e a s)→cN q X K r x a s Ψ):cN q X K r (.seq x y) a s Φ:=by
 refine mq.2 (h _ (fun a s h=>h) fun e a s he h=>?_);cases e with
 | normal=>exact absurd rfl he
 | _=>exact h
theorem cB {q:Bool} {X:Env} {K:eE} {r:Option Nat} {id:Nat} {b:Code} {a:aG} {s:St} {Φ:dL→aG→St→Prop}
  (h:∀ Ψ:dL→aG→St→Prop,(∀ a s,Φ .normal a s→Ψ .normal a s)→(∀ a s,Φ .normal a s→Ψ (.exit id) a s)→(∀ e a s,e≠.normal→e≠.exit id→Φ e a s→Ψ e a s)→cN q X K r b a s Ψ):cN q X K r (.block id b) a s Φ:=by
 refine mn.2 (h _ (fun a s h=>h) (fun a s h=>by simpa using h) fun e a s h1 h2 h=>?_);cases e with
 | exit i =>
  simp only;rw[if_neg (fun e=>h2 (by rw[e]))];exact h
 | _=>exact h
theorem xr {P:Program} (hm:P.follows .mixedOrders=true) {K:eE} (hK:FA P K) {q:Bool} {f:FuncId} {fn:Func} (hf:P.funcs[f]?=some fn) (hb:fn.body.isSome=true) {args:List Value} {args':Array Value} {W:World}
  {ι:aP} {s:St} {Φ:Value→St→Prop} (hR:RS P ι s W) (hargs:bQ ι args args'.toList) (h:okF q (env P) K f args s Φ) :
  Calls P f args' W fun e W'=>∃ v s' ι' v',e=.returned v'∧VR ι' v v'∧RS P ι' s' W'∧ES ι s W ι' s' W'∧Φ v s':=by
 obtain⟨N,hN⟩:=h;have hrun:=aS.rm hN;obtain⟨_,_,hc,_⟩:=tw (yo hm) hK N;obtain⟨fn',h1,_⟩:=hc.fn f args s _ hrun;have h2:=(JD h1).1;rw[hf] at h2;cases h2;have:=hc.calls f fn args args' s W ι _ none 0 h1 hb hrun hargs hR;refine(callsIn_wide.1 this).mono ?_;rintro e W' ⟨v,u,s',ι',rfl,hv,hu,hR',hE⟩;exact⟨v,s',ι',u,rfl,hu,hR',hE,hv⟩
section
variable {q:Bool} {X:Env} {K:eE} {ops:Array Oper} {base i:Nat} {d:Option Tmp} {ty:TypeId} {pos:String} {af:Array Edge} {l:List Oper} {a:aG} {s:St}
theorem aD7 {aKe ts} {Φ:aG→St→Prop}:bP q X K ops (⟨d,.call ⟨.builtin .append,aKe,ts⟩,ty,pos,af,none⟩::l) a s Φ ↔
  ∃ v s',oY X s ts (aKe.toList.map a.eval)=some (v,s')∧bP q X K ops l (a.put d v) s' Φ:=by
 constructor
 ·rintro⟨n,hn⟩;rw[gP,if_pos (oN ..)] at hn;simp only[lX,show dP (.call ⟨.builtin .append,aKe,ts⟩)=.effect from rfl,eX] at hn;cases hp:oY X s ts (aKe.toList.map a.eval) with
  | none=>rw[hp] at hn;exact hn.elim
  | some p=>rcases p with ⟨v,s'⟩;rw[hp] at hn;exact⟨v,s',rfl,n,hn⟩
 ·rintro⟨v,s',hv,h⟩;exact .effect rfl rfl (v:=v) (s':=s') (fun c r=>by simp only[eX,hv];rfl) h
end
inductive RT (s:St) (e:TypeId) (m:Nat):Value→List Value→Prop
 | nil:RT s e m (.slice none 0 0) []
 | own {b n:Nat} {c:PT Value} {z L:List Value} {room:Bool} {aT:Nat} (h:s.heap.get b=some (.cells c z (n*m) e room false aT)) (hl:L.length=n*m) (hc:∀ i,i<L.length→cellAt c z (n*m) i=L[i]?) :
   RT s e m (.slice (some ⟨b,0,none⟩) n n) L
theorem RT.load {s:St} {e:TypeId} {m b n:Nat} {L:List Value} (h:RT s e m (.slice (some ⟨b,0,none⟩) n n) L) {i:Nat} {v:Value} (hi:L[i]?=some v):aI s.look ⟨b,i,none⟩=some v:=by
 cases h with
 | own h hl hc =>
  simp only[aI,St.look,h];rw[hc i (List.getElem?_eq_some_iff.1 hi).1,hi]
structure aJ5 (s s':St) (v v':Value):Prop where
 cW:∀ b o,s.heap.get b=some o→(∀ o' n c,v≠.slice (some ⟨b,o',none⟩) n c)→s'.heap.get b=some o
 next:s.next≤s'.next
 wf:s'.wf
 fresh:s'.fresh
 at_:∀ b o n c,v'=.slice (some ⟨b,o,none⟩) n c→s.next≤b
def St.skip (s:St) (n:Nat):St:={heap:=s.heap,next:=s.next+n,aO:=s.aO}
theorem KH (s:St) (n:Nat):(s.skip n).look=s.look:=rfl
theorem UI (s:St) (n:Nat):(s.skip n).heap=s.heap:=rfl
def JQ (c:List (Nat×Nat)) (i:Nat):Bool:=c.any fun p=>p.1==i
theorem UM (i:Nat):JQ [] i=false:=rfl
theorem UL (x j i:Nat) (c:List (Nat×Nat)):JQ ((x,j)::c) i=(x==i||JQ c i):=rfl
def JR (c:List (Nat×Nat)) (i:Nat):Bool:=c.any fun p=>p.2==i
theorem Dg (i:Nat):JR [] i=false:=rfl
theorem Df (x j i:Nat) (c:List (Nat×Nat)):JR ((x,j)::c) i=(j==i||JR c i):=rfl
def JY (l F:List Nat):Prop:=∀ b∈l,b∈F
theorem Fb (F:List Nat):JY [] F=True:=eq_true fun _ h=>by cases h
theorem Fa (b:Nat) (l F:List Nat):JY (b::l) F=(b∈F∧JY l F):=by
 simp[JY]
def yB (F:List Nat) (s s':St):Prop:=∀ b∈F,eT s s' b=true
def dQ (c:List (Nat×Nat)) (F:List Nat) (i:Nat) (reads:List Nat) (s s':St):Prop:=(bif JQ c i then JY reads F else True)∧(bif JR c i then yB F s s' else True)
def IS (c:List (Nat×Nat)) (F:List Nat):List nB→Nat→Prop
 | [],_=>True
 | n::lg,i=>(n.iC=true→dQ c F i n.reads n.pre n.post)∧IS c F lg (i+1)
theorem az {c:List (Nat×Nat)} {F:List Nat}:∀ {lg:List nB} {i x:Nat} {n:nB},IS c F lg i→lg[x]?=some n→n.iC=true→dQ c F (i+x) n.reads n.pre n.post
 | [],_,_,_,_,h,_=>by cases h
 | n::lg,i,0,_,hc,h,hr=>by
  cases h;exact hc.1 hr
 | n::lg,i,x+1,m,hc,h,hr=>by
  rw[show i+(x+1)=i+1+x from by omega];exact az (lg:=lg) hc.2 h hr
section
variable {X:Env} {K:eE}
theorem jx {call:fZ} {round:gM} {ops:Array Oper} {base:Nat}:∀ (rest:List Oper) (i:Nat) (a:aG) (s:St) (a':aG) (s':St) (lg:List nB),eP X call round ops base rest i a s=some (a',s',lg)→lg.length=rest.length
 | [],i,a,s,a',s',l,h=>by
  simp only[eP,Option.some.injEq,Prod.mk.injEq] at h;obtain⟨_,_,rfl⟩:=h;rfl
 | o::rest,i,a,s,a',s',l,h=>by
  unfold eP at h;split at h
  ·split at h
   ·split at h
    ·rename_i hl;simp only[Option.some.injEq,Prod.mk.injEq] at h;obtain⟨_,_,rfl⟩:=h;simp only[List.length_cons,jx rest _ _ _ _ _ _ hl]
    ·cases h
   ·cases h
  ·split at h
   ·rename_i hl;simp only[Option.some.injEq,Prod.mk.injEq] at h;obtain⟨_,_,rfl⟩:=h;simp only[List.length_cons,jx rest _ _ _ _ _ _ hl]
   ·cases h
def bX (X:Env) (K:eE) (ops:Array Oper) (base:Nat) (c:List (Nat×Nat)) (F:List Nat) (l:List Oper) (i:Nat) (a:aG) (s:St) (Φ:aG→St→Prop):Prop :=
 kX X K ops base l i a s fun a2 s2 lg=>IS c F lg i∧Φ a2 s2
theorem dH {q:Bool} {r:Option Nat} {id:Nat} {ops:Array Oper} {a:aG} {s:St} {Φ:dL→aG→St→Prop} (c:List (Nat×Nat)) (F:List Nat) (gd:List (Nat×Tmp)) (hc:rZ ops=some c) (hg:dx ops gd=true)
  (hr:(c.all fun p=>decide (p.1<ops.size)&&decide (p.2<ops.size))=true)
  (h:∀ O:Array Oper,(∀ p∈gd,∀ a,aN O a p.1=bC (a.aB p.2))→∀ Ψ:aG→St→Prop,(∀ a s',Φ .normal a s'→Ψ a s') →
   bX X K O s.next c F ops.toList 0 a (s.skip (2*ops.size)) Ψ):cN q X K r (.region id ops true) a s Φ:=by
 refine aDk hc ?_;obtain⟨n,⟨a',s',lg⟩,h1,h2⟩:=h ops (Bz hg) (Φ .normal) fun _ _ h=>h;refine⟨n,⟨a',s',lg⟩,h1,?_,h2.2⟩;have hlen:=jx _ _ _ _ _ _ _ h1;refine List.all_eq_true.2 fun p hp=>?_;have hp':=List.all_eq_true.1 hr p hp;simp only[Bool.and_eq_true,decide_eq_true_eq] at hp';obtain⟨x,j⟩:=p;simp only at hp' ⊢;have hx:x<lg.length:=by rw[hlen];simpa using hp'.1
 have hj:j<lg.length:=by rw[hlen];simpa using hp'.2
 simp only[List.getElem?_eq_getElem hx,List.getElem?_eq_getElem hj];cases hrx:lg[x].iC with
 | false=>rfl
 | true =>
  cases hrj:lg[j].iC with
  | false=>rfl
  | true =>
   simp only[Bool.not_true,Bool.false_or];refine List.all_eq_true.2 fun b hb=>?_;have kx:=(az h2.1 (List.getElem?_eq_getElem hx) hrx).1;have kj:=(az h2.1 (List.getElem?_eq_getElem hj) hrj).2;rw[show JQ c (0+x)=true from List.any_eq_true.2 ⟨(x,j),hp,by simp⟩] at kx;rw[show JR c (0+j)=true from List.any_eq_true.2 ⟨(x,j),hp,by simp⟩] at kj;exact kj b (kx b hb)
end
section
variable {X:Env} {K:eE} {ops:Array Oper} {base i:Nat} {c:List (Nat×Nat)} {F:List Nat} {d:Option Tmp} {ty:TypeId} {pos:String} {af:Array Edge} {l:List Oper} {a:aG} {s:St} {Φ:aG→St→Prop}
theorem yn:bX X K ops base c F [] i a s Φ↔Φ a s:=by
 unfold bX;rw[aE0];exact⟨fun h=>h.2,fun h=>⟨trivial,h⟩⟩
theorem aDu {P:Prop} {Ψ:aG→St→List nB→Prop}:kX X K ops base l i a s (fun a2 s2 lg=>P∧Ψ a2 s2 lg)↔P∧kX X K ops base l i a s Ψ :=
 ⟨fun⟨n,x,h1,h2,h3⟩=>⟨h2,n,x,h1,h3⟩,fun⟨h2,n,x,h1,h3⟩=>⟨n,x,h1,h2,h3⟩⟩
theorem Jl {n:nB} {l:List Oper} {j:Nat} {a:aG} {s:St} (hr:n.iC=true):kX X K ops base l (j+1) a s (fun a2 s2 lg=>IS c F (n::lg) j∧Φ a2 s2)↔dQ c F j n.reads n.pre n.post∧bX X K ops base c F l (j+1) a s Φ:=by
 unfold bX;rw[← aDu];simp only[IS,hr,true_implies,and_assoc]
theorem TA {op:Op} (hk:dP op=.still):bX X K ops base c F (⟨d,op,ty,pos,af,none⟩::l) i a s Φ ↔
  ∃ v,dU X s.look a.eval op=some v∧dQ c F i (fM a.eval s.look op) s s∧bX X K ops base c F l (i+1) (a.put d v) s Φ:=by
 unfold bX;rw[aE2 hk];simp only[Jl];rfl
theorem yk {op j w}:bX X K ops base c F (⟨d,op,ty,pos,af,some (j,w)⟩::l) i a s Φ↔if aN ops a j=some w then bX X K ops base c F (⟨d,op,ty,pos,af,none⟩::l) i a s Φ
  else bX X K ops base c F l (i+1) (a.put d undef) s Φ:=by
 unfold bX;rw[aDy];simp only[IS,Bool.false_eq_true,false_implies,true_and]
theorem Vs {f aKe ts}:bX X K ops base c F (⟨d,.call ⟨.value (.func f),aKe,ts⟩,ty,pos,af,none⟩::l) i a s Φ ↔
  okF false X K f (aKe.toList.map a.eval) s fun v s'=>dQ c F i (fM a.eval s.look (.call ⟨.value (.func f),aKe,ts⟩)) s s'∧bX X K ops base c F l (i+1) (a.put d v) s' Φ:=by
 unfold bX;rw[aDw];simp only[Jl];rfl
theorem Vo {op:Op} (hk:dP op=.alloc):bX X K ops base c F (⟨d,op,ty,pos,af,none⟩::l) i a s Φ ↔
  ∃ v f,fE X (base+2*i) a.eval op=some (v,f)∧dQ c F i (fM a.eval s.look op) s (s.put (base+2*i) f)∧bX X K ops base c F l (i+1) (a.put d v) (s.put (base+2*i) f) Φ:=by
 constructor
 ·rintro⟨n,x,h1,h2⟩;rw[eP,if_pos (oN ..),lK,hk] at h1;simp only at h1;cases hv:fE X (base+2*i) a.eval op with
  | none=>rw[hv] at h1;cases h1
  | some p =>
   rcases p with ⟨v,f⟩;rw[hv] at h1;simp only at h1;cases hl:eP X (eJ X K n) (gI X K n) ops base l (i+1) (a.put d v) (s.put (base+2*i) f) with
   | none=>rw[hl] at h1;cases h1
   | some y =>
    rw[hl] at h1;simp only[Option.some.injEq] at h1;subst h1;exact⟨v,f,rfl,h2.1.1 rfl,n,y,hl,h2.1.2,h2.2⟩
 ·rintro⟨v,f,hv,hn,n,y,hl,h2⟩;exact aDt hk hv ⟨n,y,hl,⟨fun _=>hn,h2.1⟩,h2.2⟩
theorem SZ {op:Op} {P:Value→St→Prop} (hk:dP op=.effect) (hp:∀ (cl:fZ) (r:gM) v s',eX X cl r s a.eval op=.ret (v,s')↔P v s') :
  bX X K ops base c F (⟨d,op,ty,pos,af,none⟩::l) i a s Φ↔∃ v s',P v s'∧dQ c F i (fM a.eval s.look op) s s'∧bX X K ops base c F l (i+1) (a.put d v) s' Φ:=by
 constructor
 ·rintro⟨n,x,h1,h2⟩;rw[eP,if_pos (oN ..),lK,hk] at h1;simp only at h1;cases he:eX X (eJ X K n) (gI X K n) s a.eval op with
  | ret p =>
   rcases p with ⟨v,s'⟩;rw[he] at h1;simp only at h1;cases hl:eP X (eJ X K n) (gI X K n) ops base l (i+1) (a.put d v) s' with
   | none=>rw[hl] at h1;cases h1
   | some y =>
    rw[hl] at h1;simp only[Option.some.injEq] at h1;subst h1;exact⟨v,s',(hp _ _ _ _).1 he,h2.1.1 rfl,n,y,hl,h2.1.2,h2.2⟩
  | _=>rw[he] at h1;cases h1
 ·rintro⟨v,s',hv,hn,n,y,hl,h2⟩;refine⟨n,⟨y.1,y.2.1,{iC:=true,reads:=fM a.eval s.look op,pre:=s,post:=s'}::y.2.2⟩,?_,⟨fun _=>hn,h2.1⟩,h2.2⟩;rw[eP,if_pos (oN ..),lK,hk];simp only[(hp (eJ X K n) (gI X K n) v s').2 hv,hl]
theorem Vx {t p x}:bX X K ops base c F (⟨d,.store t p x,ty,pos,af,none⟩::l) i a s Φ ↔
  ∃ ad s',a.eval p=.pointer (some ad)∧storeT X s t ad (a.eval x)=some s'∧dQ c F i [] s s'∧bX X K ops base c F l (i+1) (a.put d undef) s' Φ:=by
 rw[SZ (P:=fun v s'=>v=undef∧∃ ad,a.eval p=.pointer (some ad)∧storeT X s t ad (a.eval x)=some s') rfl]
 ·constructor
  ·rintro⟨v,s',⟨rfl,ad,h1,h2⟩,h3⟩;exact⟨ad,s',h1,h2,h3⟩
  ·rintro⟨ad,s',h1,h2,h3⟩;exact⟨undef,s',⟨rfl,ad,h1,h2⟩,h3⟩
 ·intro cl r v s';simp only[eX];cases a.eval p with
  | pointer ad =>
   cases ad with
   | none=>simp
   | some ad =>
    simp only;cases hs:storeT X s t ad (a.eval x) with
    | none=>simp[hs]
    | some s2=>simp[hs,eq_comm]
  | _=>simp
theorem Vu {t m k x}:bX X K ops base c F (⟨d,.mapUpdate t m k x,ty,pos,af,none⟩::l) i a s Φ ↔
  ∃ s',mE X s t (a.eval m) (a.eval k) (a.eval x)=some s'∧dQ c F i [] s s'∧bX X K ops base c F l (i+1) (a.put d undef) s' Φ:=by
 rw[SZ (P:=fun v s'=>v=undef∧mE X s t (a.eval m) (a.eval k) (a.eval x)=some s') rfl]
 ·constructor
  ·rintro⟨v,s',⟨rfl,h2⟩,h3⟩;exact⟨s',h2,h3⟩
  ·rintro⟨s',h2,h3⟩;exact⟨undef,s',⟨rfl,h2⟩,h3⟩
 ·intro cl r v s';simp only[eX];cases mE X s t (a.eval m) (a.eval k) (a.eval x) with
  | none=>simp
  | some s2=>simp[eq_comm]
theorem Vq {aKe ts}:bX X K ops base c F (⟨d,.call ⟨.builtin .append,aKe,ts⟩,ty,pos,af,none⟩::l) i a s Φ ↔
  ∃ v s',oY X s ts (aKe.toList.map a.eval)=some (v,s')∧dQ c F i (fM a.eval s.look (.call ⟨.builtin .append,aKe,ts⟩)) s s'∧bX X K ops base c F l (i+1) (a.put d v) s' Φ:=by
 rw[SZ (P:=fun v s'=>oY X s ts (aKe.toList.map a.eval)=some (v,s')) rfl];intro cl r v s';simp only[eX];cases oY X s ts (aKe.toList.map a.eval) with
 | none=>simp[aS.ofOption]
 | some p=>rcases p with ⟨v2,s2⟩;simp[aS.ofOption]
theorem ym {x}:bX X K ops base c F (⟨d,.move x,ty,pos,af,none⟩::l) i a s Φ↔dQ c F i [] s s∧bX X K ops base c F l (i+1) (a.put d (a.eval x)) s Φ :=
 (TA rfl).trans ⟨fun⟨_,hv,h⟩=>by cases hv;exact h,fun h=>⟨_,rfl,h⟩⟩
theorem yh {x}:bX X K ops base c F (⟨d,.assign x,ty,pos,af,none⟩::l) i a s Φ↔dQ c F i [] s s∧bX X K ops base c F l (i+1) (a.put d (a.eval x)) s Φ :=
 (TA rfl).trans ⟨fun⟨_,hv,h⟩=>by cases hv;exact h,fun h=>⟨_,rfl,h⟩⟩
end
section
variable {q:Bool} {X:Env} {K:eE} {ops:Array Oper} {d:Option Tmp} {ty:TypeId} {pos:String} {af:Array Edge} {l:List Oper} {a:aG} {s:St} {Φ:aG→St→Prop}
theorem aDc {t m k x}:bP q X K ops (⟨d,.mapUpdate t m k x,ty,pos,af,none⟩::l) a s Φ↔∃ s',mE X s t (a.eval m) (a.eval k) (a.eval x)=some s'∧bP q X K ops l (a.put d undef) s' Φ:=by
 constructor
 ·rintro⟨n,hn⟩;rw[gP,if_pos (oN ..)] at hn;simp only[lX,show dP (.mapUpdate t m k x)=.effect from rfl,eX] at hn;cases hp:mE X s t (a.eval m) (a.eval k) (a.eval x) with
  | none=>rw[hp] at hn;exact hn.elim
  | some s'=>rw[hp] at hn;exact⟨s',rfl,n,hn⟩
 ·rintro⟨s',hv,h⟩;exact .effect rfl rfl (v:=undef) (s':=s') (fun c r=>by simp only[eX,hv]) h
theorem aD9 {b aKe ts} {g:Option (Value×St)} (he:∀ (c:fZ) (r:gM),eX X c r s a.eval (.call ⟨.builtin b,aKe,ts⟩)=.ofOption "x" g∨∃ w,eX X c r s a.eval (.call ⟨.builtin b,aKe,ts⟩)=.ofOption w g)
  (hk:dP (.call ⟨.builtin b,aKe,ts⟩)=.effect):bP q X K ops (⟨d,.call ⟨.builtin b,aKe,ts⟩,ty,pos,af,none⟩::l) a s Φ↔∃ v s',g=some (v,s')∧bP q X K ops l (a.put d v) s' Φ:=by
 have he':∀ (c:fZ) (r:gM),∃ w,eX X c r s a.eval (.call ⟨.builtin b,aKe,ts⟩)=.ofOption w g:=fun c r=>(he c r).elim (fun h=>⟨_,h⟩) id;constructor
 ·rintro⟨n,hn⟩;rw[gP,if_pos (oN ..)] at hn;obtain⟨w,hw⟩:=he' (eJ X K n) (gI X K n);simp only[lX,hk,hw] at hn;cases g with
  | none=>exact hn.elim
  | some p=>rcases p with ⟨v,s'⟩;exact⟨v,s',rfl,n,hn⟩
 ·rintro⟨v,s',rfl,h⟩;refine .effect rfl hk (v:=v) (s':=s') (fun c r=>?_) h;obtain⟨w,hw⟩:=he' c r;rw[hw];rfl
theorem aDb {aKe ts}:bP q X K ops (⟨d,.call ⟨.builtin .clear,aKe,ts⟩,ty,pos,af,none⟩::l) a s Φ↔∃ v s',uQ X s ts (aKe.toList.map a.eval)=some (v,s')∧bP q X K ops l (a.put d v) s' Φ:=aD9 (fun _ _=>.inr ⟨_,rfl⟩) rfl
end
def tP (o:Option (Value×(Nat→bU))) (k:Value→(Nat→bU)→Prop):Prop:=match o with
 | some (v,f)=>k v f
 | none=>False
theorem WY (v:Value) (f:Nat→bU) (k:Value→(Nat→bU)→Prop):tP (some (v,f)) k=k v f:=rfl
theorem Jf (o:Option (Value×(Nat→bU))) (k:Value→(Nat→bU)→Prop):tP o k↔∃ v f,o=some (v,f)∧k v f:=by
 cases o with
 | none=>exact⟨fun h=>h.elim,fun⟨_,_,h,_⟩=>by cases h⟩
 | some p=>rcases p with ⟨v,f⟩;exact⟨fun h=>⟨v,f,rfl,h⟩,fun⟨_,_,h,k⟩=>by cases h;exact k⟩
noncomputable def nE (X:Env) (nm:Nat) (t len:Nat) (parts:List (Nat×Value)):Option (Value×(Nat→bU)):=match X.ty t with
 | some {desc:=.slice e,..}=>match X.ty e with
  | some {zero:=some z,size:=esz,..} =>
   if len*esz≤2 ^ 24 then
    match Instr.fill (fun i=>some (i*esz,esz)) ((Array.range (len*esz)).map (z.cells[·%z.cells.size]!)) parts with
    | some cs=>some (.slice (some ⟨nm,0,none⟩) len len,fun v=>.cells (PT.ofList cs.toList) [] cs.size e false false v)
    | none=>none
   else none
  | _=>none
 | _=>none
def rK (X:Env) (nm:Nat) (t:Nat) (l c:Value):Option (Value×(Nat→bU)):=match X.ty t,l,c with
  | some {desc:=.slice e,..},.int .i64 l,.int .i64 c=>match X.ty e with
   | some {zero:=some z,size:=esz,bytes,..} =>
    if 0≤l∧l≤c∧c<2 ^ 40∧bytes*c≤2 ^ 48∧z.cells.size=esz then
     some (.slice (some ⟨nm,0,none⟩) l.toNat c.toNat,fun v=>.cells .nil z.cells.toList (c.toNat*esz) e false false v)
    else none
   | _=>none
  | _,_,_=>none
def wR (X:Env) (nm:Nat) (t:Nat) (r:Option Value):Option (Value×(Nat→bU)):=match X.ty t,r with
  | some {desc:=.map _ _,..},none=>some (.map (some nm),fun v=>.map [] 0 v)
  | some {desc:=.map _ _,..},some (.int _ _)=>some (.map (some nm),fun v=>.map [] 0 v)
  | _,_=>none
theorem WH (x y:Int):mS (fun x y=>decide (y>x)) (.int .i64 x) [.int .i64 y]=some (.int .i64 (max x y)):=by
 simp only[mS,if_true,decide_eq_true_eq];congr 2;omega
theorem WI (x y:Int):mS (fun x y=>decide (y<x)) (.int .i64 x) [.int .i64 y]=some (.int .i64 (min x y)):=by
 simp only[mS,if_true,decide_eq_true_eq];congr 2;omega
def wU (q:Bool) (X:Env) (K:eE) (s:St) (f:Value) (args:List Value) (Ψ:Value→St→Prop):Prop:=∃ n,(oC X (eJ X K n) (gI X K n) s f args).gE q fun p=>Ψ p.1 p.2
theorem IU {q:Bool} {X:Env} {K:eE} {s:St} {f:FuncId} {fi ca:Array Value} {args:List Value} {Ψ:Value→St→Prop}:wU q X K s (.func (.func f) fi ca) args Ψ↔okF q X K f (fi.toList++args++ca.toList) s Ψ:=Iff.rfl
theorem MW {q:Bool} {X:Env} {K:eE} {s:St} {l:Nat} {fi ca:Array Value} {args:List Value} {Ψ:Value→St→Prop}:wU q X K s (.func (.yield l) fi ca) args Ψ↔Jw q X K l (fi.toList++args) s Ψ:=Iff.rfl
section
variable {q:Bool} {X:Env} {K:eE} {ops:Array Oper} {d:Option Tmp} {ty:TypeId} {pos:String} {af:Array Edge} {l:List Oper} {a:aG} {s:St} {Φ:aG→St→Prop}
theorem PE {op:Op} (hk:dP op=.alloc):bP q X K ops (⟨d,op,ty,pos,af,none⟩::l) a s Φ↔tP (fE X s.next a.eval op) fun v f=>bP q X K ops l (a.put d v) (s.new f) Φ :=
 (aE3 hk).trans (Jf _ _).symm
theorem aD6 {e}:bP q X K ops (⟨d,.alloc e,ty,pos,af,none⟩::l) a s Φ↔tP (fE X s.next a.eval (.alloc e)) fun v f=>bP q X K ops l (a.put d v) (s.new f) Φ:=PE rfl
theorem Ja {e x}:bP q X K ops (⟨d,.box e x,ty,pos,af,none⟩::l) a s Φ↔bP q X K ops l (a.put d (.pointer (some ⟨s.next,0,none⟩))) (s.new fun v=>.cells (PT.ofList (a.eval x).cells.toList) [] (a.eval x).cells.size e false false v) Φ:=PE rfl
theorem aD8 {t n ps}:bP q X K ops (⟨d,.buildSlice t n ps,ty,pos,af,none⟩::l) a s Φ↔tP (nE X s.next t n (ps.toList.map fun(i,x)=>(i,a.eval x))) fun v f=>bP q X K ops l (a.put d v) (s.new f) Φ:=PE rfl
theorem aDd {t n c}:bP q X K ops (⟨d,.makeSlice t n c,ty,pos,af,none⟩::l) a s Φ↔tP (rK X s.next t (a.eval n) (a.eval c)) fun v f=>bP q X K ops l (a.put d v) (s.new f) Φ:=PE rfl
theorem aDe {t r}:bP q X K ops (⟨d,.makeMap t r,ty,pos,af,none⟩::l) a s Φ↔tP (wR X s.next t (r.map a.eval)) fun v f=>bP q X K ops l (a.put d v) (s.new f) Φ:=PE rfl
theorem Jc {f fi ca}:bP q X K ops (⟨d,.makeFunc (.func f) fi ca,ty,pos,af,none⟩::l) a s Φ↔bP q X K ops l (a.put d (.func (.func f) (fi.toList.map a.eval).toArray (ca.toList.map a.eval).toArray)) s Φ:=by
 refine(XD rfl).trans ?_;simp only[dU,Option.some.injEq,exists_eq_left'];rw[← Array.toList_map,← Array.toList_map,Array.toArray_toList,Array.toArray_toList]
theorem aDa {t aKe ts}:bP q X K ops (⟨d,.call ⟨.value (.tmp t),aKe,ts⟩,ty,pos,af,none⟩::l) a s Φ↔wU q X K s (a.aB t) (aKe.toList.map a.eval) fun v s=>bP q X K ops l (a.put d v) s Φ:=by
 have hv:∀ (c:fZ) (r:gM),eX X c r s a.eval (.call ⟨.value (.tmp t),aKe,ts⟩)=oC X c r s (a.aB t) (aKe.toList.map a.eval):=fun c r=>rfl;constructor
 ·rintro⟨n,hn⟩;rw[gP,if_pos (oN ..)] at hn;simp only[lX,show dP (.call ⟨.value (.tmp t),aKe,ts⟩)=.effect from rfl,hv] at hn;rw[aS.oO] at hn;exact⟨n,hn.mono fun p hq=>⟨n,hq⟩⟩
 ·rintro⟨n,hn⟩;obtain⟨m,hm⟩:=aS.EY (Q:=fun m (p:Value×St)=>(gP X (eJ X K m) (gI X K m) ops l (a.put d p.1) p.2).gE q fun(p:aG×St)=>Φ p.1 p.2)
   (fun m p hq=>PQ (Φ:=fun p=>Φ p.1 p.2) (Nat.le_succ m) hq) hn
  refine⟨max n m,?_⟩;rw[gP,if_pos (oN ..)];simp only[lX,show dP (.call ⟨.value (.tmp t),aKe,ts⟩)=.effect from rfl,hv];rw[aS.oO];refine(aS.le.RW (aw (X:=X) ?_ ?_ _ _ _) hm).mono fun p hq=>PQ (Φ:=fun p=>Φ p.1 p.2) (Nat.le_max_right n m) hq
  ·intro f args s;exact xp (Nat.le_max_left n m) f args s
  ·intro f args s;exact Lq (Nat.le_max_left n m) f args s
end
section
variable {X:Env} {K:eE} {ops:Array Oper} {base i:Nat} {c:List (Nat×Nat)} {F:List Nat} {d:Option Tmp} {ty:TypeId} {pos:String} {af:Array Edge} {l:List Oper} {a:aG} {s:St} {Φ:aG→St→Prop}
theorem MX {op:Op} (hk:dP op=.alloc) (hr:fM a.eval s.look op=[]):bX X K ops base c F (⟨d,op,ty,pos,af,none⟩::l) i a s Φ↔tP (fE X (base+2*i) a.eval op) fun v f=>dQ c F i [] s (s.put (base+2*i) f)∧bX X K ops base c F l (i+1) (a.put d v) (s.put (base+2*i) f) Φ:=by
 rw[Vo hk,Jf,hr]
theorem Vp {e}:bX X K ops base c F (⟨d,.alloc e,ty,pos,af,none⟩::l) i a s Φ↔tP (fE X (base+2*i) a.eval (.alloc e)) fun v f=>dQ c F i [] s (s.put (base+2*i) f)∧bX X K ops base c F l (i+1) (a.put d v) (s.put (base+2*i) f) Φ:=MX rfl rfl
theorem Vr {t n ps}:bX X K ops base c F (⟨d,.buildSlice t n ps,ty,pos,af,none⟩::l) i a s Φ↔tP (nE X (base+2*i) t n (ps.toList.map fun(i,x)=>(i,a.eval x))) fun v f=>dQ c F i [] s (s.put (base+2*i) f)∧bX X K ops base c F l (i+1) (a.put d v) (s.put (base+2*i) f) Φ:=MX rfl rfl
theorem Vv {t n c'}:bX X K ops base c F (⟨d,.makeSlice t n c',ty,pos,af,none⟩::l) i a s Φ↔tP (rK X (base+2*i) t (a.eval n) (a.eval c')) fun v f=>dQ c F i [] s (s.put (base+2*i) f)∧bX X K ops base c F l (i+1) (a.put d v) (s.put (base+2*i) f) Φ:=MX rfl rfl
theorem Vw {t r}:bX X K ops base c F (⟨d,.makeMap t r,ty,pos,af,none⟩::l) i a s Φ↔tP (wR X (base+2*i) t (r.map a.eval)) fun v f=>dQ c F i [] s (s.put (base+2*i) f)∧bX X K ops base c F l (i+1) (a.put d v) (s.put (base+2*i) f) Φ:=MX rfl rfl
theorem yi {e x}:bX X K ops base c F (⟨d,.box e x,ty,pos,af,none⟩::l) i a s Φ↔dQ c F i [] s (s.put (base+2*i) fun v=>.cells (PT.ofList (a.eval x).cells.toList) [] (a.eval x).cells.size e false false v)∧bX X K ops base c F l (i+1) (a.put d (.pointer (some ⟨base+2*i,0,none⟩))) (s.put (base+2*i) fun v=>.cells (PT.ofList (a.eval x).cells.toList) [] (a.eval x).cells.size e false false v) Φ:=MX rfl rfl
theorem yl {f fi ca}:bX X K ops base c F (⟨d,.makeFunc (.func f) fi ca,ty,pos,af,none⟩::l) i a s Φ↔dQ c F i [] s s∧bX X K ops base c F l (i+1) (a.put d (.func (.func f) (fi.toList.map a.eval).toArray (ca.toList.map a.eval).toArray)) s Φ:=by
 refine(TA rfl).trans ?_;simp only[dU,Option.some.injEq,exists_eq_left',fM];rw[← Array.toList_map,← Array.toList_map,Array.toArray_toList,Array.toArray_toList]
end
end Go.Dust
