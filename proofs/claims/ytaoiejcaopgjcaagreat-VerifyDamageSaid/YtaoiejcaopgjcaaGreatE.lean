/- The plain interpreter D and its laws (Eb Ec Ed Ee Ef Eg Eh Ej Ei). -/
import Derived.Test.YtaoiejcaopgjcaaGreatD
import Derived.Lib.ItoaNum
set_option linter.unusedVariables false
set_option linter.unusedSimpArgs false
namespace Go.Dust
def bN.gK {α:Type} (q:Bool) (Φ:α→Prop):bN α→Prop
 | .fail _=>False
 | .ret a=>Φ a
 | .ask n k=>q=true∧∀ i,i<n→(k i).gK q Φ
theorem bN.gK.mono {α:Type} {q:Bool} {Φ Ψ:α→Prop} (h:∀ a,Φ a→Ψ a):∀ {x:bN α},x.gK q Φ→x.gK q Ψ
 | .fail _,hx=>hx
 | .ret _,hx=>h _ hx
 | .ask _ _,hx=>⟨hx.1,fun i hi=>bN.gK.mono h (hx.2 i hi)⟩
theorem bN.oW {α β:Type} {q:Bool} (f:α→bN β) (Φ:β→Prop):∀ (x:bN α),(x.bind f).gK q Φ↔x.gK q fun a=>(f a).gK q Φ
 | .fail _=>Iff.rfl
 | .ret _=>Iff.rfl
 | .ask _ k=>⟨fun h=>⟨h.1,fun i hi=>(bN.oW f Φ (k i)).1 (h.2 i hi)⟩,fun h=>⟨h.1,fun i hi=>(bN.oW f Φ (k i)).2 (h.2 i hi)⟩⟩
theorem bN.uz {α:Type} {q:Bool} {Φ:α→Prop}:∀ {x:bN α},x.gK q Φ→x.jD Φ
 | .fail _,h=>h
 | .ret _,h=>h
 | .ask _ _,h=>fun i hi=>bN.uz (h.2 i hi)
theorem bN.cx {α:Type} {Φ:α→Prop}:∀ {x:bN α},x.gK false Φ→∃ a,x=.ret a∧Φ a
 | .fail _,h=>h.elim
 | .ret a,h=>⟨a,rfl,h⟩
 | .ask _ _,h=>by cases h.1
theorem bN.vd {α:Type} {q:Bool} {Φ Ψ:α→Prop}:∀ {x:bN α},x.gK q Φ→x.Lv Ψ→x.gK q fun a=>Φ a∧Ψ a
 | .fail _,h,_=>h.elim
 | .ret _,h,k=>⟨h,k⟩
 | .ask _ _,h,k=>⟨h.1,fun i hi=>bN.vd (h.2 i hi) (k i hi)⟩
theorem bN.le.TL {α:Type} {q:Bool} {Φ:α→Prop} {x y:bN α} (h:bN.le x y) (hx:x.gK q Φ):y.gK q Φ:=by
 induction h with
 | fail w y=>exact hx.elim
 | ret a=>exact hx
 | ask n k k' h ih=>exact⟨hx.1,fun i hi=>ih i (hx.2 i hi)⟩
theorem bN.FT {α:Type} {q:Bool} {Q:Nat→α→Prop} (hm:∀ n a,Q n a→Q (n+1) a):∀ {x:bN α},x.gK q (fun a=>∃ n,Q n a)→∃ n,x.gK q (Q n)
 | .fail _,h=>h.elim
 | .ret a,⟨n,h⟩=>⟨n,h⟩
 | .ask k f,h=>by
  have hm':∀ n m a,n≤m→Q n a→Q m a:=by
   intro n m a hle hq
   induction hle with
   | refl=>exact hq
   | step _ ih=>exact hm _ _ ih
  have:∀ j,j≤k→∃ n,∀ i,i<j→(f i).gK q (Q n):=by
   intro j
   induction j with
   | zero=>exact fun _=>⟨0,fun i hi=>absurd hi (Nat.not_lt_zero i)⟩
   | succ j ih =>
    intro hj;obtain⟨n1,h1⟩:=ih (by omega);obtain⟨n2,h2⟩:=bN.FT hm (h.2 j (by omega));refine⟨max n1 n2,fun i hi=>?_⟩;rcases Nat.lt_or_ge i j with cD | hge
    ·exact(h1 i cD).mono fun a=>hm' _ _ a (by omega)
    ·obtain rfl:i=j:=by omega
     exact h2.mono fun a=>hm' _ _ a (by omega)
  obtain⟨n,hn⟩:=this k (Nat.le_refl _);exact⟨n,h.1,hn⟩
section
variable (q:Bool) (X:Env) (K:eI)
def cR (r:Option Nat) (c:Code) (a:aK) (s:St) (Φ:dU→aK→St→Prop):Prop:=∃ n,(cQ X K n r c a s).gK q fun p=>Φ p.1 p.2.1 p.2.2
def okF (f:FuncId) (args:List Value) (s:St) (Φ:Value→St→Prop):Prop:=∃ n,(eW X K n f args s).gK q fun p=>Φ p.1 p.2
def Ly (l:Nat) (args:List Value) (s:St) (Φ:Value→St→Prop):Prop:=∃ n,(gN X K n l args s).gK q fun p=>Φ p.1 p.2
def bS (ops:Array Oper) (l:List Oper) (a:aK) (s:St) (Φ:aK→St→Prop):Prop:=∃ n,(iM X (eW X K n) (gN X K n) ops l a s).gK q fun p=>Φ p.1 p.2
end
section
variable {q:Bool} {X:Env} {K:eI}
theorem BL {n m:Nat} (hnm:n≤m) {r c a s} {Φ:dU×aK×St→Prop} (h:(cQ X K n r c a s).gK q Φ):(cQ X K m r c a s).gK q Φ:=by
 induction hnm with
 | refl=>exact h
 | step _ ih=>exact((DU X K _).1 _ _ _ _).TL ih
theorem zp {n m:Nat} (hnm:n≤m) {f args s} {Φ:Value×St→Prop} (h:(eW X K n f args s).gK q Φ):(eW X K m f args s).gK q Φ:=by
 induction hnm with
 | refl=>exact h
 | step _ ih=>exact((DU X K _).2.1 _ _ _).TL ih
theorem RW {n m:Nat} (hnm:n≤m) {ops l a s} {Φ:aK×St→Prop} (h:(iM X (eW X K n) (gN X K n) ops l a s).gK q Φ):(iM X (eW X K m) (gN X K m) ops l a s).gK q Φ:=by
 induction hnm with
 | refl=>exact h
 | step _ ih=>exact(aj (DU X K _).2.1 (DU X K _).2.2 _ _ _ _).TL ih
theorem cR.mono {r c a s} {Φ Ψ:dU→aK→St→Prop} (h:cR q X K r c a s Φ) (hp:∀ e a s,Φ e a s→Ψ e a s):cR q X K r c a s Ψ:=by
 obtain⟨n,hn⟩:=h;exact⟨n,hn.mono fun p hq=>hp _ _ _ hq⟩
theorem okF.mono {f args s} {Φ Ψ:Value→St→Prop} (h:okF q X K f args s Φ) (hp:∀ v s,Φ v s→Ψ v s):okF q X K f args s Ψ:=by
 obtain⟨n,hn⟩:=h;exact⟨n,hn.mono fun p hq=>hp _ _ hq⟩
theorem cR.skip {r a s} {Φ:dU→aK→St→Prop} (h:Φ .normal a s):cR q X K r .skip a s Φ:=⟨1,by rw[cQ];exact h⟩
theorem cR.exit {r a s i} {Φ:dU→aK→St→Prop} (h:Φ (.exit i) a s):cR q X K r (.exit i) a s Φ:=⟨1,by rw[cQ];exact h⟩
theorem cR.ret {r a s} {Φ:dU→aK→St→Prop} (h:Φ .ret a s):cR q X K r .ret a s Φ:=⟨1,by rw[cQ];exact h⟩
theorem cR.seq {r x y a s} {Φ:dU→aK→St→Prop} (h:cR q X K r x a s fun e a s=>match e with
  | .normal=>cR q X K r y a s Φ
  | e=>Φ e a s):cR q X K r (.seq x y) a s Φ:=by
 obtain⟨n,hn⟩:=h;obtain⟨m,hm⟩:=bN.FT (Q:=fun m (p:dU×aK×St)=>match p.1 with
   | .normal=>(cQ X K m r y p.2.1 p.2.2).gK q fun p=>Φ p.1 p.2.1 p.2.2
   | e=>Φ e p.2.1 p.2.2) (fun m p hq=>by
    rcases p with ⟨e,a,s⟩;cases e with
    | normal=>exact BL (Nat.le_succ m) hq
    | _=>exact hq) (hn.mono fun p hq=>by
    rcases p with ⟨e,a,s⟩;cases e with
    | normal=>exact hq
    | _=>exact⟨0,hq⟩)
 refine⟨max n m+1,?_⟩;rw[cQ,bN.oW];refine(BL (Nat.le_max_left n m) hm).mono fun p hq=>?_;rcases p with ⟨e,a,s⟩;cases e with
 | normal=>exact BL (Nat.le_max_right n m) hq
 | _=>exact hq
theorem cR.cond {r c x y a s b} {Φ:dU→aK→St→Prop} (hb:a.eval c=.bool b) (h:cR q X K r (if b=true then x else y) a s Φ):cR q X K r (.cond c x y) a s Φ:=by
 obtain⟨n,hn⟩:=h;refine⟨n+1,?_⟩;rw[cQ,hb];cases b <;> exact hn
theorem cR.block {r id b a s} {Φ:dU→aK→St→Prop} (h:cR q X K r b a s fun e a s=>match e with
  | .exit i=>if i=id then Φ .normal a s else Φ (.exit i) a s
  | e=>Φ e a s):cR q X K r (.block id b) a s Φ:=by
 obtain⟨n,hn⟩:=h;refine⟨n+1,?_⟩;rw[cQ,bN.oW];refine hn.mono fun p hq=>?_;rcases p with ⟨e,a,s⟩;cases e with
 | exit i =>
  simp only at hq ⊢;split
  ·rename_i hi;rw[if_pos hi] at hq;exact hq
  ·rename_i hi;rw[if_neg hi] at hq;exact hq
 | _=>exact hq
theorem cR.aH3 {r b a s} {Φ:dU→aK→St→Prop} (h:cR q X K r b a s fun e a s=>match e with
  | .normal=>cR q X K r (.loop b) a s Φ
  | e=>Φ e a s):cR q X K r (.loop b) a s Φ:=by
 obtain⟨n,hn⟩:=h;obtain⟨m,hm⟩:=bN.FT (Q:=fun m (p:dU×aK×St)=>match p.1 with
   | .normal=>(cQ X K m r (.loop b) p.2.1 p.2.2).gK q fun p=>Φ p.1 p.2.1 p.2.2
   | e=>Φ e p.2.1 p.2.2) (fun m p hq=>by
    rcases p with ⟨e,a,s⟩;cases e with
    | normal=>exact BL (Nat.le_succ m) hq
    | _=>exact hq) (hn.mono fun p hq=>by
    rcases p with ⟨e,a,s⟩;cases e with
    | normal=>exact hq
    | _=>exact⟨0,hq⟩)
 refine⟨max n m+1,?_⟩;rw[cQ,bN.oW];refine(BL (Nat.le_max_left n m) hm).mono fun p hq=>?_;rcases p with ⟨e,a,s⟩;cases e with
 | normal=>exact BL (Nat.le_max_right n m) hq
 | _=>exact hq
theorem cR.loop {r b} {Φ:dU→aK→St→Prop} (I:Nat→aK→St→Prop) (hI:∀ k a s,I k a s→cR q X K r b a s fun e a s=>match e with
  | .normal=>∃ j,j<k∧I j a s
  | e=>Φ e a s):∀ (k:Nat) {a:aK} {s:St},I k a s→cR q X K r (.loop b) a s Φ:=by
 intro k
 induction k using Nat.strongRecOn with
 | _ k ih =>
  intro a s h;refine .aH3 ((hI k a s h).mono fun e a s hq=>?_);cases e with
  | normal =>
   obtain⟨j,hj,hk⟩:=hq;exact ih j hj hk
  | _=>exact hq
theorem cR.region {r id ops a s} {Φ:dU→aK→St→Prop} (h:bS q X K ops ops.toList a s (Φ .normal)):cR q X K r (.region id ops false) a s Φ:=by
 obtain⟨n,hn⟩:=h;refine⟨n+1,?_⟩;rw[cQ,bN.oW];exact hn
theorem bS.nil {ops a s} {Φ:aK→St→Prop} (h:Φ a s):bS q X K ops [] a s Φ:=⟨0,h⟩
theorem bS.skip {ops o l a s} {Φ:aK→St→Prop} (hw:Region.wanted o (aO ops a)=false) (h:bS q X K ops l (a.put o.dst undef) s Φ):bS q X K ops (o::l) a s Φ:=by
 obtain⟨n,hn⟩:=h;refine⟨n,?_⟩;rw[iM,if_neg (by rw[hw];simp)];exact hn
theorem bS.still {ops o l a s v} {Φ:aK→St→Prop} (hw:Region.wanted o (aO ops a)=true) (hk:fB o.op=.still) (hv:iO X s.look a.eval o.op=some v)
  (h:bS q X K ops l (a.put o.dst v) s Φ):bS q X K ops (o::l) a s Φ:=by
 obtain⟨n,hn⟩:=h;refine⟨n,?_⟩;rw[iM,if_pos hw,nK,hk];simp only[hv];exact hn
theorem bS.alloc {ops o l a s v f} {Φ:aK→St→Prop} (hw:Region.wanted o (aO ops a)=true) (hk:fB o.op=.alloc) (hv:iJ X s.next a.eval o.op=some (v,f))
  (h:bS q X K ops l (a.put o.dst v) (s.new f) Φ):bS q X K ops (o::l) a s Φ:=by
 obtain⟨n,hn⟩:=h;refine⟨n,?_⟩;rw[iM,if_pos hw,nK,hk];simp only[hv];exact hn
theorem bS.effect {ops o l a s v s'} {Φ:aK→St→Prop} (hw:Region.wanted o (aO ops a)=true) (hk:fB o.op=.effect) (hv:∀ c r,gI X c r s a.eval o.op=.ret (v,s'))
  (h:bS q X K ops l (a.put o.dst v) s' Φ):bS q X K ops (o::l) a s Φ:=by
 obtain⟨n,hn⟩:=h;refine⟨n,?_⟩;rw[iM,if_pos hw,nK,hk];simp only[hv];exact hn
theorem bS.call {ops o l a s f args} {Φ:aK→St→Prop} (hw:Region.wanted o (aO ops a)=true) (hk:fB o.op=.effect) (hv:∀ c r,gI X c r s a.eval o.op=c f args s)
  (h:okF q X K f args s fun v s=>bS q X K ops l (a.put o.dst v) s Φ):bS q X K ops (o::l) a s Φ:=by
 obtain⟨n,hn⟩:=h;obtain⟨m,hm⟩:=bN.FT (Q:=fun m (p:Value×St)=>(iM X (eW X K m) (gN X K m) ops l (a.put o.dst p.1) p.2).gK q fun(p:aK×St)=>Φ p.1 p.2)
  (fun m p hq=>RW (Φ:=fun p=>Φ p.1 p.2) (Nat.le_succ m) hq) hn
 refine⟨max n m,?_⟩;rw[iM,if_pos hw,nK,hk];simp only[hv];rw[bN.oW];exact(zp (Nat.le_max_left n m) hm).mono fun p hq=>RW (Φ:=fun p=>Φ p.1 p.2) (Nat.le_max_right n m) hq
theorem okF.re {f args s r} {Φ:Value→St→Prop} (hk:K f args s=some r) (h:r.gK q fun p=>Φ p.1 p.2):okF q X K f args s Φ:=by
 refine⟨1,?_⟩;rw[eW,hk];exact h
theorem okF.body {f fn c args s} {Φ:Value→St→Prop} (hk:K f args s=none) (hf:X.fn f=some fn) (hb:fn.body=some c) (hn:args.length≤fn.ntmps)
  (h:cR q X K none c {tmps:=PT.ofList args,nt:=fn.ntmps} s fun e a s=>match e with
   | .exit _=>False
   | _=>∃ v,IQ X s.look fn a=some v∧Φ v s):okF q X K f args s Φ:=by
 obtain⟨n,hn'⟩:=h;refine⟨n+1,?_⟩;rw[eW,hk];simp only[hf];simp only[hb,if_pos hn];rw[bN.oW];refine hn'.mono fun p hq=>?_;rcases p with ⟨e,a,s⟩;cases e with
 | exit i=>exact hq
 | _ =>
  obtain⟨v,hv,hp⟩:=hq;simp only[hv];exact hp
end
section
variable {q:Bool} {X:Env} {K:eI}
theorem MK {r a s} {Φ:dU→aK→St→Prop}:cR q X K r .skip a s Φ↔Φ .normal a s :=
 ⟨fun⟨n,hn⟩=>by
  cases n with
  | zero=>rw[cQ] at hn;exact hn.elim
  | succ n=>rw[cQ] at hn;exact hn,.skip⟩
theorem Ll {r a s} {Φ:dU→aK→St→Prop}:cR q X K r .ret a s Φ↔Φ .ret a s :=
 ⟨fun⟨n,hn⟩=>by
  cases n with
  | zero=>rw[cQ] at hn;exact hn.elim
  | succ n=>rw[cQ] at hn;exact hn,.ret⟩
theorem MI {r a s i} {Φ:dU→aK→St→Prop}:cR q X K r (.exit i) a s Φ↔Φ (.exit i) a s :=
 ⟨fun⟨n,hn⟩=>by
  cases n with
  | zero=>rw[cQ] at hn;exact hn.elim
  | succ n=>rw[cQ] at hn;exact hn,.exit⟩
theorem qy {r x y a s} {Φ:dU→aK→St→Prop}:cR q X K r (.seq x y) a s Φ↔cR q X K r x a s fun e a s=>match e with
  | .normal=>cR q X K r y a s Φ
  | e=>Φ e a s :=
 ⟨fun⟨n,hn⟩=>by
  cases n with
  | zero=>rw[cQ] at hn;exact hn.elim
  | succ n =>
   rw[cQ,bN.oW] at hn;refine⟨n,hn.mono fun p hq=>?_⟩;rcases p with ⟨e,a,s⟩;cases e with
   | normal=>exact⟨n,hq⟩
   | _=>exact hq,.seq⟩
theorem RK {r c x y a s} {Φ:dU→aK→St→Prop}:cR q X K r (.cond c x y) a s Φ↔∃ b,a.eval c=.bool b∧cR q X K r (if b=true then x else y) a s Φ :=
 ⟨fun⟨n,hn⟩=>by
  cases n with
  | zero=>rw[cQ] at hn;exact hn.elim
  | succ n =>
   rw[cQ] at hn;cases hc:a.eval c with
   | bool b =>
    rw[hc] at hn;refine⟨b,rfl,n,?_⟩;cases b <;> exact hn
   | _=>rw[hc] at hn;exact hn.elim,fun⟨_,hb,h⟩=>.cond hb h⟩
theorem qw {r id b a s} {Φ:dU→aK→St→Prop}:cR q X K r (.block id b) a s Φ↔cR q X K r b a s fun e a s=>match e with
  | .exit i=>if i=id then Φ .normal a s else Φ (.exit i) a s
  | e=>Φ e a s :=
 ⟨fun⟨n,hn⟩=>by
  cases n with
  | zero=>rw[cQ] at hn;exact hn.elim
  | succ n =>
   rw[cQ,bN.oW] at hn;refine⟨n,hn.mono fun p hq=>?_⟩;rcases p with ⟨e,a,s⟩;cases e with
   | exit i =>
    simp only at hq ⊢;split
    ·rename_i hi;rw[if_pos hi] at hq;exact hq
    ·rename_i hi;rw[if_neg hi] at hq;exact hq
   | _=>exact hq,.block⟩
theorem qx {r id ops a s} {Φ:dU→aK→St→Prop}:cR q X K r (.region id ops false) a s Φ↔bS q X K ops ops.toList a s (Φ .normal) :=
 ⟨fun⟨n,hn⟩=>by
  cases n with
  | zero=>rw[cQ] at hn;exact hn.elim
  | succ n =>
   rw[cQ,bN.oW] at hn;exact⟨n,hn⟩,.region⟩
theorem oS (d op ty pos af) (y:Nat→Option Bool):Region.wanted (⟨d,op,ty,pos,af,none⟩:Oper) y=true:=rfl
theorem Ls {ops a s} {Φ:aK→St→Prop}:bS q X K ops [] a s Φ↔Φ a s:=⟨fun⟨_,hn⟩=>hn,.nil⟩
theorem Lr {ops d op ty pos af j w l a s} {Φ:aK→St→Prop}:bS q X K ops (⟨d,op,ty,pos,af,some (j,w)⟩::l) a s Φ ↔
  if aO ops a j=some w then bS q X K ops (⟨d,op,ty,pos,af,none⟩::l) a s Φ else bS q X K ops l (a.put d undef) s Φ:=by
 have hw:Region.wanted (⟨d,op,ty,pos,af,some (j,w)⟩:Oper) (aO ops a)=(aO ops a j==some w):=rfl;have hw':Region.wanted (⟨d,op,ty,pos,af,none⟩:Oper) (aO ops a)=true:=rfl;unfold bS;simp only[iM,hw,hw',if_true];by_cases h:aO ops a j=some w
 ·simp only[h,beq_self_eq_true,if_true]
 ·have h':(aO ops a j==some w)=false:=by simpa using h
  simp only[h',Bool.false_eq_true,if_false,h]
theorem ZG {ops d op ty pos af l a s} {Φ:aK→St→Prop} (hk:fB op=.still):bS q X K ops (⟨d,op,ty,pos,af,none⟩::l) a s Φ ↔
  ∃ v,iO X s.look a.eval op=some v∧bS q X K ops l (a.put d v) s Φ:=by
 refine⟨fun⟨n,hn⟩=>?_,fun⟨v,hv,h⟩=>.still rfl hk hv h⟩;rw[iM,if_pos (oS ..),nK,hk] at hn;simp only at hn;cases hv:iO X s.look a.eval op with
 | none=>rw[hv] at hn;exact hn.elim
 | some v=>rw[hv] at hn;exact⟨v,rfl,n,hn⟩
theorem aCz {ops d op ty pos af l a s} {Φ:aK→St→Prop} (hk:fB op=.alloc):bS q X K ops (⟨d,op,ty,pos,af,none⟩::l) a s Φ ↔
  ∃ v f,iJ X s.next a.eval op=some (v,f)∧bS q X K ops l (a.put d v) (s.new f) Φ:=by
 refine⟨fun⟨n,hn⟩=>?_,fun⟨v,f,hv,h⟩=>.alloc rfl hk hv h⟩;rw[iM,if_pos (oS ..),nK,hk] at hn;simp only at hn;cases hv:iJ X s.next a.eval op with
 | none=>rw[hv] at hn;exact hn.elim
 | some p=>rcases p with ⟨v,f⟩;rw[hv] at hn;exact⟨v,f,rfl,n,hn⟩
theorem aD3 {ops d t p x ty pos af l a s} {Φ:aK→St→Prop}:bS q X K ops (⟨d,.store t p x,ty,pos,af,none⟩::l) a s Φ ↔
  ∃ ad s',a.eval p=.pointer (some ad)∧storeT X s t ad (a.eval x)=some s'∧bS q X K ops l (a.put d undef) s' Φ:=by
 constructor
 ·rintro⟨n,hn⟩;rw[iM,if_pos (oS ..)] at hn;simp only[nK,fB,gI] at hn;cases hp:a.eval p with
  | pointer ad =>
   rw[hp] at hn;cases ad with
   | none=>exact hn.elim
   | some ad =>
    simp only at hn;cases hs:storeT X s t ad (a.eval x) with
    | none=>rw[hs] at hn;exact hn.elim
    | some s'=>rw[hs] at hn;exact⟨ad,s',rfl,hs,n,hn⟩
  | _=>rw[hp] at hn;exact hn.elim
 ·rintro⟨ad,s',hp,hs,h⟩;exact .effect rfl rfl (v:=undef) (s':=s') (fun c r=>by simp only[gI,hp,hs]) h
theorem aD0 {ops d f aJ6 ts ty pos af l a s} {Φ:aK→St→Prop}:bS q X K ops (⟨d,.call ⟨.value (.func f),aJ6,ts⟩,ty,pos,af,none⟩::l) a s Φ ↔
  okF q X K f (aJ6.toList.map a.eval) s fun v s=>bS q X K ops l (a.put d v) s Φ:=by
 have hv:∀ (c:gS) (r:gW),gI X c r s a.eval (.call ⟨.value (.func f),aJ6,ts⟩)=c f (aJ6.toList.map a.eval) s:=fun c r=>by
  simp[gI,aK.eval,rI]
 constructor
 ·rintro⟨n,hn⟩;rw[iM,if_pos (oS ..)] at hn;simp only[nK,show fB (.call ⟨.value (.func f),aJ6,ts⟩)=.effect from rfl,hv] at hn;rw[bN.oW] at hn;exact⟨n,hn.mono fun p hq=>⟨n,hq⟩⟩
 ·exact fun h=>.call rfl rfl hv h
end
theorem EW (a:aK) (d:Tmp) (v:Value) (t:Tmp):(a.put (some d) v).aB t=if t=d then v else a.aB t:=by
 simp only[aK.put,aK.aB,PT.fH];split <;> rfl
theorem Mo (a:aK) (v:Value):a.put none v=a:=rfl
theorem Av (a:aK) (t:Tmp):a.eval (.tmp t)=a.aB t:=rfl
theorem eval_const (a:aK) (v:Value):a.eval (.const v)=v:=rfl
theorem Cy (l:List Value) (n t:Nat):aK.aB {tmps:=PT.ofList l,nt:=n} t=l[t]?.getD undef:=by
 simp only[aK.aB,PT.sP]
section
variable {q:Bool} {X:Env} {K:eI} {ops:Array Oper} {d:Option Tmp} {ty:TypeId} {pos:String} {af:Array Edge} {l:List Oper} {a:aK} {s:St} {Φ:aK→St→Prop}
theorem Ld {x}:bS q X K ops (⟨d,.move x,ty,pos,af,none⟩::l) a s Φ↔bS q X K ops l (a.put d (a.eval x)) s Φ :=
 (ZG rfl).trans ⟨fun⟨_,hv,h⟩=>by cases hv;exact h,fun h=>⟨_,rfl,h⟩⟩
theorem Ky {x}:bS q X K ops (⟨d,.assign x,ty,pos,af,none⟩::l) a s Φ↔bS q X K ops l (a.put d (a.eval x)) s Φ :=
 (ZG rfl).trans ⟨fun⟨_,hv,h⟩=>by cases hv;exact h,fun h=>⟨_,rfl,h⟩⟩
end
section
variable {X:Env} {K:eI}
def lB (X:Env) (K:eI) (ops:Array Oper) (base:Nat) (l:List Oper) (i:Nat) (a:aK) (s:St) (Φ:aK→St→List oX→Prop):Prop :=
 ∃ n x,gJ X (eW X K n) (gN X K n) ops base l i a s=some x∧Φ x.1 x.2.1 x.2.2
theorem Ja {n m:Nat} (hnm:n≤m) {ops base l i a s x} (h:gJ X (eW X K n) (gN X K n) ops base l i a s=some x):gJ X (eW X K m) (gN X K m) ops base l i a s=some x:=by
 induction hnm with
 | refl=>exact h
 | step _ ih=>exact YB (DU X K _).2.1 (DU X K _).2.2 _ _ _ _ _ _ _ ih
theorem aCi {q r id ops a s c} {Φ:dU→aK→St→Prop} (hc:xD ops=some c)
  (h:lB X K ops s.next ops.toList 0 a {heap:=s.heap,next:=s.next+2*ops.size,aR:=s.aR} fun a s lg=>Iy lg c=true∧Φ .normal a s):cR q X K r (.region id ops true) a s Φ:=by
 obtain⟨n,⟨a',s',lg⟩,h1,h2,h3⟩:=h;refine⟨n+1,?_⟩;rw[cQ,bN.oW];simp only[if_true,zK,hc,h1,h2];exact h3
theorem aCv {ops base i a s} {Φ:aK→St→List oX→Prop} (h:Φ a s []):lB X K ops base [] i a s Φ:=⟨0,_,rfl,h⟩
theorem aCt {ops base d op ty pos af j w l i a s} {Φ:aK→St→List oX→Prop} (h:if aO ops a j=some w then lB X K ops base (⟨d,op,ty,pos,af,none⟩::l) i a s Φ
  else lB X K ops base l (i+1) (a.put d undef) s fun a2 s2 lg=>Φ a2 s2 ({mL:=false,reads:=[],pre:=s,post:=s}::lg)):lB X K ops base (⟨d,op,ty,pos,af,some (j,w)⟩::l) i a s Φ:=by
 have hw:Region.wanted (⟨d,op,ty,pos,af,some (j,w)⟩:Oper) (aO ops a)=(aO ops a j==some w):=rfl;by_cases hy:aO ops a j=some w
 ·rw[if_pos hy] at h;obtain⟨n,x,h1,h2⟩:=h;refine⟨n,x,?_,h2⟩;rw[gJ] at h1 ⊢;rw[hw,hy];rw[if_pos (oS ..)] at h1;rw[if_pos (by simp)];exact h1
 ·rw[if_neg hy] at h;obtain⟨n,⟨a2,s2,lg⟩,h1,h2⟩:=h;refine⟨n,⟨a2,s2,{mL:=false,reads:=[],pre:=s,post:=s}::lg⟩,?_,h2⟩;rw[gJ,hw,if_neg (by simpa using hy)];simp only[h1]
theorem aCx {ops base d op ty pos af l i a s v} {Φ:aK→St→List oX→Prop} (hk:fB op=.still) (hv:iO X s.look a.eval op=some v)
  (h:lB X K ops base l (i+1) (a.put d v) s fun a2 s2 lg=>Φ a2 s2 ({mL:=true,reads:=gU a.eval s.look op,pre:=s,post:=s}::lg)):lB X K ops base (⟨d,op,ty,pos,af,none⟩::l) i a s Φ:=by
 obtain⟨n,⟨a2,s2,lg⟩,h1,h2⟩:=h;refine⟨n,⟨a2,s2,{mL:=true,reads:=gU a.eval s.look op,pre:=s,post:=s}::lg⟩,?_,h2⟩;rw[gJ,if_pos (oS ..),nL,hk];simp only[hv,h1]
theorem aCp {ops base d op ty pos af l i a s v f} {Φ:aK→St→List oX→Prop} (hk:fB op=.alloc) (hv:iJ X (base+2*i) a.eval op=some (v,f))
  (h:lB X K ops base l (i+1) (a.put d v) (s.put (base+2*i) f) fun a2 s2 lg=>Φ a2 s2 ({mL:=true,reads:=gU a.eval s.look op,pre:=s,post:=s.put (base+2*i) f}::lg)):lB X K ops base (⟨d,op,ty,pos,af,none⟩::l) i a s Φ:=by
 obtain⟨n,⟨a2,s2,lg⟩,h1,h2⟩:=h;refine⟨n,⟨a2,s2,{mL:=true,reads:=gU a.eval s.look op,pre:=s,post:=s.put (base+2*i) f}::lg⟩,?_,h2⟩;rw[gJ,if_pos (oS ..),nL,hk];simp only[hv,h1]
theorem aCr {ops base d f aJ6 ts ty pos af l i a s} {Φ:aK→St→List oX→Prop} (h:okF false X K f (aJ6.toList.map a.eval) s fun v s'=>lB X K ops base l (i+1) (a.put d v) s' fun a2 s2 lg =>
  Φ a2 s2 ({mL:=true,reads:=gU a.eval s.look (.call ⟨.value (.func f),aJ6,ts⟩),pre:=s,post:=s'}::lg)):lB X K ops base (⟨d,.call ⟨.value (.func f),aJ6,ts⟩,ty,pos,af,none⟩::l) i a s Φ:=by
 obtain⟨n,hn⟩:=h;obtain⟨⟨v,s'⟩,h1,m,⟨a2,s2,lg⟩,h2,h3⟩:=bN.cx hn;have hv:∀ (c:gS) (r:gW),gI X c r s a.eval (.call ⟨.value (.func f),aJ6,ts⟩)=c f (aJ6.toList.map a.eval) s:=fun c r=>by
  simp[gI,aK.eval,rI]
 refine⟨max n m,⟨a2,s2,{mL:=true,reads:=gU a.eval s.look (.call ⟨.value (.func f),aJ6,ts⟩),pre:=s,post:=s'}::lg⟩,?_,h3⟩;rw[gJ,if_pos (oS ..),nL];have h4:eW X K (max n m) f (aJ6.toList.map a.eval) s=.ret (v,s'):=by
  have h5:(eW X K n f (aJ6.toList.map a.eval) s).gK false fun p=>p=(v,s'):=by rw[h1];rfl
  obtain⟨p,hp,rfl⟩:=bN.cx (zp (Nat.le_max_left n m) h5);exact hp
 simp only[show fB (.call ⟨.value (.func f),aJ6,ts⟩)=.effect from rfl,hv,h4];rw[Ja (Nat.le_max_right n m) h2]
theorem lB.mono {ops base l i a s} {Φ Ψ:aK→St→List oX→Prop} (h:lB X K ops base l i a s Φ) (hp:∀ a s lg,Φ a s lg→Ψ a s lg):lB X K ops base l i a s Ψ:=by
 obtain⟨n,x,h1,h2⟩:=h;exact⟨n,x,h1,hp _ _ _ h2⟩
def St.wf (s:St):Prop:=∀ b o,s.heap.get b=some o→o.cX=false→o.bB<s.aR
theorem okF.Ax (hK:∀ f args s r,K f args s=some r→r.Lv fun p=>eC s p.2) {q f args s} {Φ:Value→St→Prop} (h:okF q X K f args s Φ):okF q X K f args s fun v s'=>Φ v s'∧eC s s':=by
 obtain⟨n,hn⟩:=h;exact⟨n,bN.vd hn ((gk hK n).2.1 f args s)⟩
theorem Lq {q:Bool} {f:FuncId} {fn:Func} {c:Code} {rs:List ResultVar} {N:Nat} {args:List Value} {s:St} {Φ:Value→St→Prop} (hk:K f args s=none) (hf:X.fn f=some fn) (hb:fn.body=some c) (hr:fn.results.toList=rs) (hN:fn.ntmps=N) (hn:Nat.ble args.length N=true)
  (h:cR q X K none c {tmps:=PT.ofList args,nt:=N} s fun e a s=>match e with
   | .exit _=>False
   | _=>∃ l,results1 X s.look a rs=some l∧Φ (match l with | [v]=>v | l=>.tuple l.toArray) s):okF q X K f args s Φ:=by
 refine okF.body hk hf hb (by rw[hN];exact Nat.le_of_ble_eq_true hn) ?_;rw[hN];refine h.mono fun e a s hp=>?_;cases e with
 | exit i=>exact hp
 | _ =>
  obtain⟨l,hl,hp⟩:=hp;refine⟨_,?_,hp⟩;rw[IQ,hr,hl]
  match l with
  | []=>rfl
  | [v]=>rfl
  | v::w::l=>rfl
theorem Ng (H:bL) (a:aK) (t:Tmp) (rest:List ResultVar):results1 X H a (.tmp t::rest)=(results1 X H a rest).map (a.aB t::·):=by
 rw[results1];cases results1 X H a rest <;> rfl
theorem Nf (H:bL) (a:aK):results1 X H a []=some []:=rfl
end
section
variable {X:Env} {K:eI} {ops:Array Oper} {base i:Nat} {d:Option Tmp} {ty:TypeId} {pos:String} {af:Array Edge} {l:List Oper} {a:aK} {s:St} {Φ:aK→St→List oX→Prop}
theorem aCy {op:Op} (hk:fB op=.still):lB X K ops base (⟨d,op,ty,pos,af,none⟩::l) i a s Φ ↔
  ∃ v,iO X s.look a.eval op=some v∧lB X K ops base l (i+1) (a.put d v) s fun a2 s2 lg=>Φ a2 s2 ({mL:=true,reads:=gU a.eval s.look op,pre:=s,post:=s}::lg):=by
 refine⟨fun⟨n,x,h1,h2⟩=>?_,fun⟨v,hv,h⟩=>aCx hk hv h⟩;rw[gJ,if_pos (oS ..),nL,hk] at h1;simp only at h1;cases hv:iO X s.look a.eval op with
 | none=>rw[hv] at h1;cases h1
 | some v =>
  rw[hv] at h1;simp only at h1;cases hl:gJ X (eW X K n) (gN X K n) ops base l (i+1) (a.put d v) s with
  | none=>rw[hl] at h1;cases h1
  | some y =>
   rw[hl] at h1;simp only[Option.some.injEq] at h1;subst h1;exact⟨v,rfl,n,y,hl,h2⟩
theorem aCs {f aJ6 ts}:lB X K ops base (⟨d,.call ⟨.value (.func f),aJ6,ts⟩,ty,pos,af,none⟩::l) i a s Φ↔okF false X K f (aJ6.toList.map a.eval) s fun v s'=>lB X K ops base l (i+1) (a.put d v) s' fun a2 s2 lg =>
  Φ a2 s2 ({mL:=true,reads:=gU a.eval s.look (.call ⟨.value (.func f),aJ6,ts⟩),pre:=s,post:=s'}::lg):=by
 refine⟨fun⟨n,x,h1,h2⟩=>?_,aCr⟩;have hv:∀ (c:gS) (r:gW),gI X c r s a.eval (.call ⟨.value (.func f),aJ6,ts⟩)=c f (aJ6.toList.map a.eval) s:=fun c r=>by
  simp[gI,aK.eval,rI]
 rw[gJ,if_pos (oS ..),nL] at h1;simp only[show fB (.call ⟨.value (.func f),aJ6,ts⟩)=.effect from rfl,hv] at h1;cases hc:eW X K n f (aJ6.toList.map a.eval) s with
 | ret p =>
  rcases p with ⟨v,s'⟩;rw[hc] at h1;simp only at h1;cases hl:gJ X (eW X K n) (gN X K n) ops base l (i+1) (a.put d v) s' with
  | none=>rw[hl] at h1;cases h1
  | some y =>
   rw[hl] at h1;simp only[Option.some.injEq] at h1;subst h1;refine⟨n,?_⟩;rw[hc];exact⟨n,y,hl,h2⟩
 | _=>rw[hc] at h1;cases h1
theorem aCw:lB X K ops base [] i a s Φ↔Φ a s []:=⟨fun⟨_,x,h1,h2⟩=>by cases h1;exact h2,aCv⟩
end
section
variable (X:Env) (H:bL) (t:TypeId)
theorem yj (x y:Int):binop X H .gtr t (.int .i64 x) (.int .i64 y)=some (.bool (decide (x>y))):=rfl
theorem yi (x y:Int):binop X H .geq t (.int .i64 x) (.int .i64 y)=some (.bool (decide (x≥y))):=rfl
theorem yl (x y:Int):binop X H .lss t (.int .i64 x) (.int .i64 y)=some (.bool (decide (x<y))):=rfl
theorem yk (x y:Int):binop X H .leq t (.int .i64 x) (.int .i64 y)=some (.bool (decide (x≤y))):=rfl
theorem yh (x y:Int):binop X H .eql t (.int .i64 x) (.int .i64 y)=some (.bool (x==y)):=rfl
theorem yn (x y:Int):binop X H .neq t (.int .i64 x) (.int .i64 y)=some (.bool (!(x==y))):=rfl
theorem ym (x y:Int):binop X H .mul t (.int .i64 x) (.int .i64 y)=some (.int .i64 (IntKind.i64.wrap (x*y))):=rfl
theorem yg (x y:Int):binop X H .add t (.int .i64 x) (.int .i64 y)=some (.int .i64 (IntKind.i64.wrap (x+y))):=rfl
theorem yr (x y:Int):binop X H .sub t (.int .i64 x) (.int .i64 y)=some (.int .i64 (IntKind.i64.wrap (x-y))):=rfl
theorem yq (x y:Int):binop X H .shl t (.int .i64 x) (.int .i64 y)=wJ .shl .i64 x y:=rfl
theorem yo (x y:Int):binop X H .quo t (.int .i64 x) (.int .i64 y)=if y=0 then none else some (.int .i64 (IntKind.i64.wrap (x.tdiv y))):=rfl
theorem yp (x y:Int):binop X H .rem t (.int .i64 x) (.int .i64 y)=if y=0 then none else some (.int .i64 (x.tmod y)):=rfl
end
theorem Sv (k:IntKind) (n:Int):unop .neg (.int k n)=some (.int k (k.wrap (0-n))):=rfl
theorem Sw (b:Bool):unop .not (.bool b)=some (.bool !b):=rfl
theorem aU {n:Int} (h1:-9223372036854775808≤n) (h2:n≤9223372036854775807):IntKind.i64.wrap n=n:=by
 unfold IntKind.wrap;simp only[IntKind.bits,IntKind.signed,Bool.true_and];have e1:(2:Int) ^ 64=18446744073709551616:=rfl;have e2:(2:Int) ^ (64-1)=9223372036854775808:=rfl;simp only[e1,e2,decide_eq_true_eq];split <;> omega
def str (l:List UInt8):Value:=.string ⟨⟨l⟩⟩
def St.fresh (s:St):Prop:=∀ b,s.next≤b→s.heap.get b=none
structure tB (s s':St):Prop where
 dE:∀ b o,s.heap.get b=some o→s'.heap.get b=some o
 wf:s'.wf
 fresh:s'.fresh
 next:s.next≤s'.next
theorem tB.refl {s:St} (h1:s.wf) (h2:s.fresh):tB s s:=⟨fun _ _ h=>h,h1,h2,Nat.le_refl _⟩
theorem tB.trans {a b c:St} (h:tB a b) (k:tB b c):tB a c:=⟨fun x o hx=>k.dE x o (h.dE x o hx),k.wf,k.fresh,Nat.le_trans h.next k.next⟩
theorem tB.Nh {s s':St} (h:tB s s') (n:Nat):tB s {heap:=s'.heap,next:=s'.next+n,aR:=s'.aR} :=
 ⟨h.dE,h.wf,fun b hb=>h.fresh b (Nat.le_trans (Nat.le_add_right _ _) hb),Nat.le_trans h.next (Nat.le_add_right _ _)⟩
theorem tB.new {s s':St} (h:tB s s') {f:Nat→bW} (hf:(f s'.aR).bB≤s'.aR):tB s (s'.new f):=by
 refine⟨fun b o hb=>?_,fun b o hb hd=>?_,fun b hb=>?_,?_⟩
 ·simp only[St.new,PT.fH];split
  ·rename_i e;subst e;have:=h.fresh s'.next (Nat.le_refl _);rw[h.dE _ o hb] at this;cases this
  ·exact h.dE b o hb
 ·simp only[St.new,PT.fH] at hb ⊢;split at hb
  ·cases hb;exact Nat.lt_succ_of_le hf
  ·exact Nat.lt_succ_of_lt (h.wf b o hb hd)
 ·have hb':s'.next+2≤b:=hb;simp only[St.new,PT.fH];rw[if_neg (by omega)];exact h.fresh b (by omega)
 ·exact Nat.le_trans h.next (Nat.le_add_right _ _)
theorem tB.load {s s':St} (h:tB s s') {a:Addr} {v:Value} (hl:aG s.look a=some v):aG s'.look a=some v:=by
 rcases a with ⟨b,off,sp⟩;unfold aG at hl ⊢;simp only[St.look] at hl ⊢;cases ho:s.heap.get b with
 | none=>rw[ho] at hl;cases sp <;> cases hl
 | some o=>rw[ho] at hl;rw[h.dE _ _ ho];exact hl
theorem Iw {s:St} {a:Addr} {v:Value} (hl:aG s.look a=some v):∃ o,s.heap.get a.block=some o∧o.cX=false:=by
 rcases a with ⟨b,off,sp⟩;unfold aG at hl;simp only[St.look] at hl ⊢;cases ho:s.heap.get b with
 | none=>rw[ho] at hl;cases sp <;> cases hl
 | some o =>
  refine⟨o,rfl,?_⟩;rw[ho] at hl;cases o with
  | dead=>cases sp <;> cases hl
  | _=>rfl
section
variable {q:Bool} {X:Env} {K:eI} {ops:Array Oper} {base i:Nat} {d:Option Tmp} {ty:TypeId} {pos:String} {af:Array Edge} {l:List Oper} {a:aK} {s:St}
theorem aCu {op j w} {Φ:aK→St→List oX→Prop}:lB X K ops base (⟨d,op,ty,pos,af,some (j,w)⟩::l) i a s Φ↔if aO ops a j=some w then lB X K ops base (⟨d,op,ty,pos,af,none⟩::l) i a s Φ
  else lB X K ops base l (i+1) (a.put d undef) s fun a2 s2 lg=>Φ a2 s2 ({mL:=false,reads:=[],pre:=s,post:=s}::lg):=by
 refine⟨fun⟨n,x,h1,h2⟩=>?_,aCt⟩;have hw:Region.wanted (⟨d,op,ty,pos,af,some (j,w)⟩:Oper) (aO ops a)=(aO ops a j==some w):=rfl;by_cases hy:aO ops a j=some w
 ·rw[if_pos hy];refine⟨n,x,?_,h2⟩;rw[gJ] at h1 ⊢;rw[hw,hy,if_pos (by simp)] at h1;rw[if_pos (oS ..)];exact h1
 ·rw[if_neg hy];rw[gJ,hw,if_neg (by simpa using hy)] at h1;cases hl:gJ X (eW X K n) (gN X K n) ops base l (i+1) (a.put d undef) s with
  | none=>rw[hl] at h1;cases h1
  | some y =>
   rw[hl] at h1;simp only[Option.some.injEq] at h1;subst h1;exact⟨n,y,hl,h2⟩
end
def aY (v:Value):Option Bool:=match v with
 | .bool b=>some b
 | _=>none
theorem yw (b:Bool):aY (.bool b)=some b:=rfl
def iy (ops:Array Oper) (gd:List (Nat×Tmp)):Bool:=gd.all fun p=>match (ops[p.1]?).bind (·.dst) with
 | some d=>Nat.beq d p.2
 | none=>false
theorem Dc {ops:Array Oper} {gd:List (Nat×Tmp)} (h:iy ops gd=true):∀ p∈gd,∀ a,aO ops a p.1=aY (a.aB p.2):=by
 intro p hp a;have:=List.all_eq_true.1 h p hp;unfold aO;cases hd:(ops[p.1]?).bind (·.dst) with
 | none=>rw[hd] at this;cases this
 | some d =>
  rw[hd] at this;have e:d=p.2:=Nat.eq_of_beq_eq_true this;subst e;rfl
theorem cL {q:Bool} {X:Env} {K:eI} {r:Option Nat} {id:Nat} {ops:Array Oper} {a:aK} {s:St} {Φ:dU→aK→St→Prop} (gd:List (Nat×Tmp)) (hg:iy ops gd=true)
  (h:∀ O:Array Oper,(∀ p∈gd,∀ a,aO O a p.1=aY (a.aB p.2))→∀ Ψ:aK→St→Prop,(∀ a s,Φ .normal a s→Ψ a s)→bS q X K O ops.toList a s Ψ):cR q X K r (.region id ops false) a s Φ:=qx.2 (h ops (Dc hg) _ fun _ _ h=>h)
theorem aA {q:Bool} {X:Env} {K:eI} {r:Option Nat} {x y:Code} {a:aK} {s:St} {Φ:dU→aK→St→Prop}
  (h:∀ Ψ:dU→aK→St→Prop,(∀ a s,cR q X K r y a s Φ→Ψ .normal a s)→(∀ e a s,e≠.normal→Φ e a s→Ψ e a s)→cR q X K r x a s Ψ):cR q X K r (.seq x y) a s Φ:=by
 refine qy.2 (h _ (fun a s h=>h) fun e a s he h=>?_);cases e with
 | normal=>exact absurd rfl he
 | _=>exact h
theorem cJ {q:Bool} {X:Env} {K:eI} {r:Option Nat} {id:Nat} {b:Code} {a:aK} {s:St} {Φ:dU→aK→St→Prop}
  (h:∀ Ψ:dU→aK→St→Prop,(∀ a s,Φ .normal a s→Ψ .normal a s)→(∀ a s,Φ .normal a s→Ψ (.exit id) a s)→(∀ e a s,e≠.normal→e≠.exit id→Φ e a s→Ψ e a s)→cR q X K r b a s Ψ):cR q X K r (.block id b) a s Φ:=by
 refine qw.2 (h _ (fun a s h=>h) (fun a s h=>by simpa using h) fun e a s h1 h2 h=>?_);cases e with
 | exit i =>
  simp only;rw[if_neg (fun e=>h2 (by rw[e]))];exact h
 | _=>exact h
theorem fj {P:Program} (hm:P.follows .mixedOrders=true) {K:eI} (hK:BI P K) {q:Bool} {f:FuncId} {fn:Func} (hf:P.funcs[f]?=some fn) (hb:fn.body.isSome=true) {args:List Value} {args':Array Value} {W:World}
  {ι:aQ} {s:St} {Φ:Value→St→Prop} (hR:RS P ι s W) (hargs:bT ι args args'.toList) (h:okF q (env P) K f args s Φ) :
  Calls P f args' W fun e W'=>∃ v s' ι' v',e=.returned v'∧VR ι' v v'∧RS P ι' s' W'∧ES ι s W ι' s' W'∧Φ v s':=by
 obtain⟨N,hN⟩:=h;have hrun:=bN.uz hN;obtain⟨_,_,hc,_⟩:=wz (Yt hm) hK N;obtain⟨fn',h1,_⟩:=hc.fn f args s _ hrun;have h2:=(VK h1).1;rw[hf] at h2;cases h2;have:=hc.calls f fn args args' s W ι _ none 0 h1 hb hrun hargs hR;refine(callsIn_wide.1 this).mono ?_;rintro e W' ⟨v,u,s',ι',rfl,hv,hu,hR',hE⟩;exact⟨v,s',ι',u,rfl,hu,hR',hE,hv⟩
section
variable {q:Bool} {X:Env} {K:eI} {ops:Array Oper} {base i:Nat} {d:Option Tmp} {ty:TypeId} {pos:String} {af:Array Edge} {l:List Oper} {a:aK} {s:St}
theorem aC3 {aJ6 ts} {Φ:aK→St→Prop}:bS q X K ops (⟨d,.call ⟨.builtin .append,aJ6,ts⟩,ty,pos,af,none⟩::l) a s Φ ↔
  ∃ v s',oY X s ts (aJ6.toList.map a.eval)=some (v,s')∧bS q X K ops l (a.put d v) s' Φ:=by
 constructor
 ·rintro⟨n,hn⟩;rw[iM,if_pos (oS ..)] at hn;simp only[nK,show fB (.call ⟨.builtin .append,aJ6,ts⟩)=.effect from rfl,gI] at hn;cases hp:oY X s ts (aJ6.toList.map a.eval) with
  | none=>rw[hp] at hn;exact hn.elim
  | some p=>rcases p with ⟨v,s'⟩;rw[hp] at hn;exact⟨v,s',rfl,n,hn⟩
 ·rintro⟨v,s',hv,h⟩;exact .effect rfl rfl (v:=v) (s':=s') (fun c r=>by simp only[gI,hv];rfl) h
end
inductive TI (s:St) (e:TypeId) (m:Nat):Value→List Value→Prop
 | nil:TI s e m (.slice none 0 0) []
 | own {b n:Nat} {c:PT Value} {z L:List Value} {room:Bool} {bB:Nat} (h:s.heap.get b=some (.cells c z (n*m) e room false bB)) (hl:L.length=n*m) (hc:∀ i,i<L.length→cellAt c z (n*m) i=L[i]?) :
   TI s e m (.slice (some ⟨b,0,none⟩) n n) L
theorem TI.load {s:St} {e:TypeId} {m b n:Nat} {L:List Value} (h:TI s e m (.slice (some ⟨b,0,none⟩) n n) L) {i:Nat} {v:Value} (hi:L[i]?=some v):aG s.look ⟨b,i,none⟩=some v:=by
 cases h with
 | own h hl hc =>
  simp only[aG,St.look,h];rw[hc i (List.getElem?_eq_some_iff.1 hi).1,hi]
structure aHt (s s':St) (v v':Value):Prop where
 dE:∀ b o,s.heap.get b=some o→(∀ o' n c,v≠.slice (some ⟨b,o',none⟩) n c)→s'.heap.get b=some o
 next:s.next≤s'.next
 wf:s'.wf
 fresh:s'.fresh
 at_:∀ b o n c,v'=.slice (some ⟨b,o,none⟩) n c→s.next≤b
def St.skip (s:St) (n:Nat):St:={heap:=s.heap,next:=s.next+n,aR:=s.aR}
theorem MD (s:St) (n:Nat):(s.skip n).look=s.look:=rfl
theorem WB (s:St) (n:Nat):(s.skip n).heap=s.heap:=rfl
def LH (c:List (Nat×Nat)) (i:Nat):Bool:=c.any fun p=>p.1==i
theorem WH (i:Nat):LH [] i=false:=rfl
theorem WG (x j i:Nat) (c:List (Nat×Nat)):LH ((x,j)::c) i=(x==i||LH c i):=rfl
def LI (c:List (Nat×Nat)) (i:Nat):Bool:=c.any fun p=>p.2==i
theorem Et (i:Nat):LI [] i=false:=rfl
theorem Es (x j i:Nat) (c:List (Nat×Nat)):LI ((x,j)::c) i=(j==i||LI c i):=rfl
def LR (l F:List Nat):Prop:=∀ b∈l,b∈F
theorem Gp (F:List Nat):LR [] F=True:=eq_true fun _ h=>by cases h
theorem Gn (b:Nat) (l F:List Nat):LR (b::l) F=(b∈F∧LR l F):=by
 simp[LR]
def uH (F:List Nat) (s s':St):Prop:=∀ b∈F,fJ s s' b=true
def dY (c:List (Nat×Nat)) (F:List Nat) (i:Nat) (reads:List Nat) (s s':St):Prop:=(bif LH c i then LR reads F else True)∧(bif LI c i then uH F s s' else True)
def KB (c:List (Nat×Nat)) (F:List Nat):List oX→Nat→Prop
 | [],_=>True
 | n::lg,i=>(n.mL=true→dY c F i n.reads n.pre n.post)∧KB c F lg (i+1)
theorem fq {c:List (Nat×Nat)} {F:List Nat}:∀ {lg:List oX} {i x:Nat} {n:oX},KB c F lg i→lg[x]?=some n→n.mL=true→dY c F (i+x) n.reads n.pre n.post
 | [],_,_,_,_,h,_=>by cases h
 | n::lg,i,0,_,hc,h,hr=>by
  cases h;exact hc.1 hr
 | n::lg,i,x+1,m,hc,h,hr=>by
  rw[show i+(x+1)=i+1+x from by omega];exact fq (lg:=lg) hc.2 h hr
section
variable {X:Env} {K:eI}
theorem py {call:gS} {round:gW} {ops:Array Oper} {base:Nat}:∀ (rest:List Oper) (i:Nat) (a:aK) (s:St) (a':aK) (s':St) (lg:List oX),gJ X call round ops base rest i a s=some (a',s',lg)→lg.length=rest.length
 | [],i,a,s,a',s',l,h=>by
  simp only[gJ,Option.some.injEq,Prod.mk.injEq] at h;obtain⟨_,_,rfl⟩:=h;rfl
 | o::rest,i,a,s,a',s',l,h=>by
  unfold gJ at h;split at h
  ·split at h
   ·split at h
    ·rename_i hl;simp only[Option.some.injEq,Prod.mk.injEq] at h;obtain⟨_,_,rfl⟩:=h;simp only[List.length_cons,py rest _ _ _ _ _ _ hl]
    ·cases h
   ·cases h
  ·split at h
   ·rename_i hl;simp only[Option.some.injEq,Prod.mk.injEq] at h;obtain⟨_,_,rfl⟩:=h;simp only[List.length_cons,py rest _ _ _ _ _ _ hl]
   ·cases h
def cB (X:Env) (K:eI) (ops:Array Oper) (base:Nat) (c:List (Nat×Nat)) (F:List Nat) (l:List Oper) (i:Nat) (a:aK) (s:St) (Φ:aK→St→Prop):Prop :=
 lB X K ops base l i a s fun a2 s2 lg=>KB c F lg i∧Φ a2 s2
theorem dG {q:Bool} {r:Option Nat} {id:Nat} {ops:Array Oper} {a:aK} {s:St} {Φ:dU→aK→St→Prop} (c:List (Nat×Nat)) (F:List Nat) (gd:List (Nat×Tmp)) (hc:xD ops=some c) (hg:iy ops gd=true)
  (hr:(c.all fun p=>decide (p.1<ops.size)&&decide (p.2<ops.size))=true)
  (h:∀ O:Array Oper,(∀ p∈gd,∀ a,aO O a p.1=aY (a.aB p.2))→∀ Ψ:aK→St→Prop,(∀ a s',Φ .normal a s'→Ψ a s') →
   cB X K O s.next c F ops.toList 0 a (s.skip (2*ops.size)) Ψ):cR q X K r (.region id ops true) a s Φ:=by
 refine aCi hc ?_;obtain⟨n,⟨a',s',lg⟩,h1,h2⟩:=h ops (Dc hg) (Φ .normal) fun _ _ h=>h;refine⟨n,⟨a',s',lg⟩,h1,?_,h2.2⟩;have hlen:=py _ _ _ _ _ _ _ h1;refine List.all_eq_true.2 fun p hp=>?_;have hp':=List.all_eq_true.1 hr p hp;simp only[Bool.and_eq_true,decide_eq_true_eq] at hp';obtain⟨x,j⟩:=p;simp only at hp' ⊢;have hx:x<lg.length:=by rw[hlen];simpa using hp'.1
 have hj:j<lg.length:=by rw[hlen];simpa using hp'.2
 simp only[List.getElem?_eq_getElem hx,List.getElem?_eq_getElem hj];cases hrx:lg[x].mL with
 | false=>rfl
 | true =>
  cases hrj:lg[j].mL with
  | false=>rfl
  | true =>
   simp only[Bool.not_true,Bool.false_or];refine List.all_eq_true.2 fun b hb=>?_;have kx:=(fq h2.1 (List.getElem?_eq_getElem hx) hrx).1;have kj:=(fq h2.1 (List.getElem?_eq_getElem hj) hrj).2;rw[show LH c (0+x)=true from List.any_eq_true.2 ⟨(x,j),hp,by simp⟩] at kx;rw[show LI c (0+j)=true from List.any_eq_true.2 ⟨(x,j),hp,by simp⟩] at kj;exact kj b (kx b hb)
end
section
variable {X:Env} {K:eI} {ops:Array Oper} {base i:Nat} {c:List (Nat×Nat)} {F:List Nat} {d:Option Tmp} {ty:TypeId} {pos:String} {af:Array Edge} {l:List Oper} {a:aK} {s:St} {Φ:aK→St→Prop}
theorem Ag:cB X K ops base c F [] i a s Φ↔Φ a s:=by
 unfold cB;rw[aCw];exact⟨fun h=>h.2,fun h=>⟨trivial,h⟩⟩
theorem aCq {P:Prop} {Ψ:aK→St→List oX→Prop}:lB X K ops base l i a s (fun a2 s2 lg=>P∧Ψ a2 s2 lg)↔P∧lB X K ops base l i a s Ψ :=
 ⟨fun⟨n,x,h1,h2,h3⟩=>⟨h2,n,x,h1,h3⟩,fun⟨h2,n,x,h1,h3⟩=>⟨n,x,h1,h2,h3⟩⟩
theorem Ln {n:oX} {l:List Oper} {j:Nat} {a:aK} {s:St} (hr:n.mL=true):lB X K ops base l (j+1) a s (fun a2 s2 lg=>KB c F (n::lg) j∧Φ a2 s2)↔dY c F j n.reads n.pre n.post∧cB X K ops base c F l (j+1) a s Φ:=by
 unfold cB;rw[← aCq];simp only[KB,hr,true_implies,and_assoc]
theorem US {op:Op} (hk:fB op=.still):cB X K ops base c F (⟨d,op,ty,pos,af,none⟩::l) i a s Φ ↔
  ∃ v,iO X s.look a.eval op=some v∧dY c F i (gU a.eval s.look op) s s∧cB X K ops base c F l (i+1) (a.put d v) s Φ:=by
 unfold cB;rw[aCy hk];simp only[Ln];rfl
theorem Ad {op j w}:cB X K ops base c F (⟨d,op,ty,pos,af,some (j,w)⟩::l) i a s Φ↔if aO ops a j=some w then cB X K ops base c F (⟨d,op,ty,pos,af,none⟩::l) i a s Φ
  else cB X K ops base c F l (i+1) (a.put d undef) s Φ:=by
 unfold cB;rw[aCu];simp only[KB,Bool.false_eq_true,false_implies,true_and]
theorem Yg {f aJ6 ts}:cB X K ops base c F (⟨d,.call ⟨.value (.func f),aJ6,ts⟩,ty,pos,af,none⟩::l) i a s Φ ↔
  okF false X K f (aJ6.toList.map a.eval) s fun v s'=>dY c F i (gU a.eval s.look (.call ⟨.value (.func f),aJ6,ts⟩)) s s'∧cB X K ops base c F l (i+1) (a.put d v) s' Φ:=by
 unfold cB;rw[aCs];simp only[Ln];rfl
theorem Yc {op:Op} (hk:fB op=.alloc):cB X K ops base c F (⟨d,op,ty,pos,af,none⟩::l) i a s Φ ↔
  ∃ v f,iJ X (base+2*i) a.eval op=some (v,f)∧dY c F i (gU a.eval s.look op) s (s.put (base+2*i) f)∧cB X K ops base c F l (i+1) (a.put d v) (s.put (base+2*i) f) Φ:=by
 constructor
 ·rintro⟨n,x,h1,h2⟩;rw[gJ,if_pos (oS ..),nL,hk] at h1;simp only at h1;cases hv:iJ X (base+2*i) a.eval op with
  | none=>rw[hv] at h1;cases h1
  | some p =>
   rcases p with ⟨v,f⟩;rw[hv] at h1;simp only at h1;cases hl:gJ X (eW X K n) (gN X K n) ops base l (i+1) (a.put d v) (s.put (base+2*i) f) with
   | none=>rw[hl] at h1;cases h1
   | some y =>
    rw[hl] at h1;simp only[Option.some.injEq] at h1;subst h1;exact⟨v,f,rfl,h2.1.1 rfl,n,y,hl,h2.1.2,h2.2⟩
 ·rintro⟨v,f,hv,hn,n,y,hl,h2⟩;exact aCp hk hv ⟨n,y,hl,⟨fun _=>hn,h2.1⟩,h2.2⟩
theorem UR {op:Op} {P:Value→St→Prop} (hk:fB op=.effect) (hp:∀ (cl:gS) (r:gW) v s',gI X cl r s a.eval op=.ret (v,s')↔P v s') :
  cB X K ops base c F (⟨d,op,ty,pos,af,none⟩::l) i a s Φ↔∃ v s',P v s'∧dY c F i (gU a.eval s.look op) s s'∧cB X K ops base c F l (i+1) (a.put d v) s' Φ:=by
 constructor
 ·rintro⟨n,x,h1,h2⟩;rw[gJ,if_pos (oS ..),nL,hk] at h1;simp only at h1;cases he:gI X (eW X K n) (gN X K n) s a.eval op with
  | ret p =>
   rcases p with ⟨v,s'⟩;rw[he] at h1;simp only at h1;cases hl:gJ X (eW X K n) (gN X K n) ops base l (i+1) (a.put d v) s' with
   | none=>rw[hl] at h1;cases h1
   | some y =>
    rw[hl] at h1;simp only[Option.some.injEq] at h1;subst h1;exact⟨v,s',(hp _ _ _ _).1 he,h2.1.1 rfl,n,y,hl,h2.1.2,h2.2⟩
  | _=>rw[he] at h1;cases h1
 ·rintro⟨v,s',hv,hn,n,y,hl,h2⟩;refine⟨n,⟨y.1,y.2.1,{mL:=true,reads:=gU a.eval s.look op,pre:=s,post:=s'}::y.2.2⟩,?_,⟨fun _=>hn,h2.1⟩,h2.2⟩;rw[gJ,if_pos (oS ..),nL,hk];simp only[(hp (eW X K n) (gN X K n) v s').2 hv,hl]
theorem Yl {t p x}:cB X K ops base c F (⟨d,.store t p x,ty,pos,af,none⟩::l) i a s Φ ↔
  ∃ ad s',a.eval p=.pointer (some ad)∧storeT X s t ad (a.eval x)=some s'∧dY c F i [] s s'∧cB X K ops base c F l (i+1) (a.put d undef) s' Φ:=by
 rw[UR (P:=fun v s'=>v=undef∧∃ ad,a.eval p=.pointer (some ad)∧storeT X s t ad (a.eval x)=some s') rfl]
 ·constructor
  ·rintro⟨v,s',⟨rfl,ad,h1,h2⟩,h3⟩;exact⟨ad,s',h1,h2,h3⟩
  ·rintro⟨ad,s',h1,h2,h3⟩;exact⟨undef,s',⟨rfl,ad,h1,h2⟩,h3⟩
 ·intro cl r v s';simp only[gI];cases a.eval p with
  | pointer ad =>
   cases ad with
   | none=>simp
   | some ad =>
    simp only;cases hs:storeT X s t ad (a.eval x) with
    | none=>simp[hs]
    | some s2=>simp[hs,eq_comm]
  | _=>simp
theorem Yi {t m k x}:cB X K ops base c F (⟨d,.mapUpdate t m k x,ty,pos,af,none⟩::l) i a s Φ ↔
  ∃ s',mJ X s t (a.eval m) (a.eval k) (a.eval x)=some s'∧dY c F i [] s s'∧cB X K ops base c F l (i+1) (a.put d undef) s' Φ:=by
 rw[UR (P:=fun v s'=>v=undef∧mJ X s t (a.eval m) (a.eval k) (a.eval x)=some s') rfl]
 ·constructor
  ·rintro⟨v,s',⟨rfl,h2⟩,h3⟩;exact⟨s',h2,h3⟩
  ·rintro⟨s',h2,h3⟩;exact⟨undef,s',⟨rfl,h2⟩,h3⟩
 ·intro cl r v s';simp only[gI];cases mJ X s t (a.eval m) (a.eval k) (a.eval x) with
  | none=>simp
  | some s2=>simp[eq_comm]
theorem Ye {aJ6 ts}:cB X K ops base c F (⟨d,.call ⟨.builtin .append,aJ6,ts⟩,ty,pos,af,none⟩::l) i a s Φ ↔
  ∃ v s',oY X s ts (aJ6.toList.map a.eval)=some (v,s')∧dY c F i (gU a.eval s.look (.call ⟨.builtin .append,aJ6,ts⟩)) s s'∧cB X K ops base c F l (i+1) (a.put d v) s' Φ:=by
 rw[UR (P:=fun v s'=>oY X s ts (aJ6.toList.map a.eval)=some (v,s')) rfl];intro cl r v s';simp only[gI];cases oY X s ts (aJ6.toList.map a.eval) with
 | none=>simp[bN.ofOption]
 | some p=>rcases p with ⟨v2,s2⟩;simp[bN.ofOption]
theorem Af {x}:cB X K ops base c F (⟨d,.move x,ty,pos,af,none⟩::l) i a s Φ↔dY c F i [] s s∧cB X K ops base c F l (i+1) (a.put d (a.eval x)) s Φ :=
 (US rfl).trans ⟨fun⟨_,hv,h⟩=>by cases hv;exact h,fun h=>⟨_,rfl,h⟩⟩
theorem Aa {x}:cB X K ops base c F (⟨d,.assign x,ty,pos,af,none⟩::l) i a s Φ↔dY c F i [] s s∧cB X K ops base c F l (i+1) (a.put d (a.eval x)) s Φ :=
 (US rfl).trans ⟨fun⟨_,hv,h⟩=>by cases hv;exact h,fun h=>⟨_,rfl,h⟩⟩
end
section
variable {q:Bool} {X:Env} {K:eI} {ops:Array Oper} {d:Option Tmp} {ty:TypeId} {pos:String} {af:Array Edge} {l:List Oper} {a:aK} {s:St} {Φ:aK→St→Prop}
theorem aC9 {t m k x}:bS q X K ops (⟨d,.mapUpdate t m k x,ty,pos,af,none⟩::l) a s Φ↔∃ s',mJ X s t (a.eval m) (a.eval k) (a.eval x)=some s'∧bS q X K ops l (a.put d undef) s' Φ:=by
 constructor
 ·rintro⟨n,hn⟩;rw[iM,if_pos (oS ..)] at hn;simp only[nK,show fB (.mapUpdate t m k x)=.effect from rfl,gI] at hn;cases hp:mJ X s t (a.eval m) (a.eval k) (a.eval x) with
  | none=>rw[hp] at hn;exact hn.elim
  | some s'=>rw[hp] at hn;exact⟨s',rfl,n,hn⟩
 ·rintro⟨s',hv,h⟩;exact .effect rfl rfl (v:=undef) (s':=s') (fun c r=>by simp only[gI,hv]) h
theorem aC5 {b aJ6 ts} {g:Option (Value×St)} (he:∀ (c:gS) (r:gW),gI X c r s a.eval (.call ⟨.builtin b,aJ6,ts⟩)=.ofOption "x" g∨∃ w,gI X c r s a.eval (.call ⟨.builtin b,aJ6,ts⟩)=.ofOption w g)
  (hk:fB (.call ⟨.builtin b,aJ6,ts⟩)=.effect):bS q X K ops (⟨d,.call ⟨.builtin b,aJ6,ts⟩,ty,pos,af,none⟩::l) a s Φ↔∃ v s',g=some (v,s')∧bS q X K ops l (a.put d v) s' Φ:=by
 have he':∀ (c:gS) (r:gW),∃ w,gI X c r s a.eval (.call ⟨.builtin b,aJ6,ts⟩)=.ofOption w g:=fun c r=>(he c r).elim (fun h=>⟨_,h⟩) id;constructor
 ·rintro⟨n,hn⟩;rw[iM,if_pos (oS ..)] at hn;obtain⟨w,hw⟩:=he' (eW X K n) (gN X K n);simp only[nK,hk,hw] at hn;cases g with
  | none=>exact hn.elim
  | some p=>rcases p with ⟨v,s'⟩;exact⟨v,s',rfl,n,hn⟩
 ·rintro⟨v,s',rfl,h⟩;refine .effect rfl hk (v:=v) (s':=s') (fun c r=>?_) h;obtain⟨w,hw⟩:=he' c r;rw[hw];rfl
theorem aC7 {aJ6 ts}:bS q X K ops (⟨d,.call ⟨.builtin .clear,aJ6,ts⟩,ty,pos,af,none⟩::l) a s Φ↔∃ v s',zG X s ts (aJ6.toList.map a.eval)=some (v,s')∧bS q X K ops l (a.put d v) s' Φ:=aC5 (fun _ _=>.inr ⟨_,rfl⟩) rfl
end
def uS (o:Option (Value×(Nat→bW))) (k:Value→(Nat→bW)→Prop):Prop:=match o with
 | some (v,f)=>k v f
 | none=>False
theorem ZD (v:Value) (f:Nat→bW) (k:Value→(Nat→bW)→Prop):uS (some (v,f)) k=k v f:=rfl
theorem Lj (o:Option (Value×(Nat→bW))) (k:Value→(Nat→bW)→Prop):uS o k↔∃ v f,o=some (v,f)∧k v f:=by
 cases o with
 | none=>exact⟨fun h=>h.elim,fun⟨_,_,h,_⟩=>by cases h⟩
 | some p=>rcases p with ⟨v,f⟩;exact⟨fun h=>⟨v,f,rfl,h⟩,fun⟨_,_,h,k⟩=>by cases h;exact k⟩
noncomputable def kW (X:Env) (nm:Nat) (t len:Nat) (parts:List (Nat×Value)):Option (Value×(Nat→bW)):=match X.ty t with
 | some {desc:=.slice e,..}=>match X.ty e with
  | some {zero:=some z,size:=esz,..} =>
   if len*esz≤2 ^ 24 then
    match Instr.fill (fun i=>some (i*esz,esz)) ((Array.range (len*esz)).map (z.cells[·%z.cells.size]!)) parts with
    | some cs=>some (.slice (some ⟨nm,0,none⟩) len len,fun v=>.cells (PT.ofList cs.toList) [] cs.size e false false v)
    | none=>none
   else none
  | _=>none
 | _=>none
def sT (X:Env) (nm:Nat) (t:Nat) (l c:Value):Option (Value×(Nat→bW)):=match X.ty t,l,c with
  | some {desc:=.slice e,..},.int .i64 l,.int .i64 c=>match X.ty e with
   | some {zero:=some z,size:=esz,bytes,..} =>
    if 0≤l∧l≤c∧c<2 ^ 40∧bytes*c≤2 ^ 48∧z.cells.size=esz then
     some (.slice (some ⟨nm,0,none⟩) l.toNat c.toNat,fun v=>.cells .nil z.cells.toList (c.toNat*esz) e false false v)
    else none
   | _=>none
  | _,_,_=>none
def xX (X:Env) (nm:Nat) (t:Nat) (r:Option Value):Option (Value×(Nat→bW)):=match X.ty t,r with
  | some {desc:=.map _ _,..},none=>some (.map (some nm),fun v=>.map [] 0 v)
  | some {desc:=.map _ _,..},some (.int _ _)=>some (.map (some nm),fun v=>.map [] 0 v)
  | _,_=>none
theorem YM (x y:Int):oC (fun x y=>decide (y>x)) (.int .i64 x) [.int .i64 y]=some (.int .i64 (max x y)):=by
 simp only[oC,if_true,decide_eq_true_eq];congr 2;omega
theorem YN (x y:Int):oC (fun x y=>decide (y<x)) (.int .i64 x) [.int .i64 y]=some (.int .i64 (min x y)):=by
 simp only[oC,if_true,decide_eq_true_eq];congr 2;omega
def xY (q:Bool) (X:Env) (K:eI) (s:St) (f:Value) (args:List Value) (Ψ:Value→St→Prop):Prop:=∃ n,(rI X (eW X K n) (gN X K n) s f args).gK q fun p=>Ψ p.1 p.2
theorem KD {q:Bool} {X:Env} {K:eI} {s:St} {f:FuncId} {fi ca:Array Value} {args:List Value} {Ψ:Value→St→Prop}:xY q X K s (.func (.func f) fi ca) args Ψ↔okF q X K f (fi.toList++args++ca.toList) s Ψ:=Iff.rfl
theorem OI {q:Bool} {X:Env} {K:eI} {s:St} {l:Nat} {fi ca:Array Value} {args:List Value} {Ψ:Value→St→Prop}:xY q X K s (.func (.yield l) fi ca) args Ψ↔Ly q X K l (fi.toList++args) s Ψ:=Iff.rfl
section
variable {q:Bool} {X:Env} {K:eI} {ops:Array Oper} {d:Option Tmp} {ty:TypeId} {pos:String} {af:Array Edge} {l:List Oper} {a:aK} {s:St} {Φ:aK→St→Prop}
theorem RJ {op:Op} (hk:fB op=.alloc):bS q X K ops (⟨d,op,ty,pos,af,none⟩::l) a s Φ↔uS (iJ X s.next a.eval op) fun v f=>bS q X K ops l (a.put d v) (s.new f) Φ :=
 (aCz hk).trans (Lj _ _).symm
theorem aC2 {e}:bS q X K ops (⟨d,.alloc e,ty,pos,af,none⟩::l) a s Φ↔uS (iJ X s.next a.eval (.alloc e)) fun v f=>bS q X K ops l (a.put d v) (s.new f) Φ:=RJ rfl
theorem Kz {e x}:bS q X K ops (⟨d,.box e x,ty,pos,af,none⟩::l) a s Φ↔bS q X K ops l (a.put d (.pointer (some ⟨s.next,0,none⟩))) (s.new fun v=>.cells (PT.ofList (a.eval x).cells.toList) [] (a.eval x).cells.size e false false v) Φ:=RJ rfl
theorem aC4 {t n ps}:bS q X K ops (⟨d,.buildSlice t n ps,ty,pos,af,none⟩::l) a s Φ↔uS (kW X s.next t n (ps.toList.map fun(i,x)=>(i,a.eval x))) fun v f=>bS q X K ops l (a.put d v) (s.new f) Φ:=RJ rfl
theorem aCa {t n c}:bS q X K ops (⟨d,.makeSlice t n c,ty,pos,af,none⟩::l) a s Φ↔uS (sT X s.next t (a.eval n) (a.eval c)) fun v f=>bS q X K ops l (a.put d v) (s.new f) Φ:=RJ rfl
theorem aCb {t r}:bS q X K ops (⟨d,.makeMap t r,ty,pos,af,none⟩::l) a s Φ↔uS (xX X s.next t (r.map a.eval)) fun v f=>bS q X K ops l (a.put d v) (s.new f) Φ:=RJ rfl
theorem La {f fi ca}:bS q X K ops (⟨d,.makeFunc (.func f) fi ca,ty,pos,af,none⟩::l) a s Φ↔bS q X K ops l (a.put d (.func (.func f) (fi.toList.map a.eval).toArray (ca.toList.map a.eval).toArray)) s Φ:=by
 refine(ZG rfl).trans ?_;simp only[iO,Option.some.injEq,exists_eq_left'];rw[← Array.toList_map,← Array.toList_map,Array.toArray_toList,Array.toArray_toList]
theorem aC6 {t aJ6 ts}:bS q X K ops (⟨d,.call ⟨.value (.tmp t),aJ6,ts⟩,ty,pos,af,none⟩::l) a s Φ↔xY q X K s (a.aB t) (aJ6.toList.map a.eval) fun v s=>bS q X K ops l (a.put d v) s Φ:=by
 have hv:∀ (c:gS) (r:gW),gI X c r s a.eval (.call ⟨.value (.tmp t),aJ6,ts⟩)=rI X c r s (a.aB t) (aJ6.toList.map a.eval):=fun c r=>rfl;constructor
 ·rintro⟨n,hn⟩;rw[iM,if_pos (oS ..)] at hn;simp only[nK,show fB (.call ⟨.value (.tmp t),aJ6,ts⟩)=.effect from rfl,hv] at hn;rw[bN.oW] at hn;exact⟨n,hn.mono fun p hq=>⟨n,hq⟩⟩
 ·rintro⟨n,hn⟩;obtain⟨m,hm⟩:=bN.FT (Q:=fun m (p:Value×St)=>(iM X (eW X K m) (gN X K m) ops l (a.put d p.1) p.2).gK q fun(p:aK×St)=>Φ p.1 p.2)
   (fun m p hq=>RW (Φ:=fun p=>Φ p.1 p.2) (Nat.le_succ m) hq) hn
  refine⟨max n m,?_⟩;rw[iM,if_pos (oS ..)];simp only[nK,show fB (.call ⟨.value (.tmp t),aJ6,ts⟩)=.effect from rfl,hv];rw[bN.oW];refine(bN.le.TL (fg (X:=X) ?_ ?_ _ _ _) hm).mono fun p hq=>RW (Φ:=fun p=>Φ p.1 p.2) (Nat.le_max_right n m) hq
  ·intro f args s;exact zo (Nat.le_max_left n m) f args s
  ·intro f args s;exact Nv (Nat.le_max_left n m) f args s
end
section
variable {X:Env} {K:eI} {ops:Array Oper} {base i:Nat} {c:List (Nat×Nat)} {F:List Nat} {d:Option Tmp} {ty:TypeId} {pos:String} {af:Array Edge} {l:List Oper} {a:aK} {s:St} {Φ:aK→St→Prop}
theorem OJ {op:Op} (hk:fB op=.alloc) (hr:gU a.eval s.look op=[]):cB X K ops base c F (⟨d,op,ty,pos,af,none⟩::l) i a s Φ↔uS (iJ X (base+2*i) a.eval op) fun v f=>dY c F i [] s (s.put (base+2*i) f)∧cB X K ops base c F l (i+1) (a.put d v) (s.put (base+2*i) f) Φ:=by
 rw[Yc hk,Lj,hr]
theorem Yd {e}:cB X K ops base c F (⟨d,.alloc e,ty,pos,af,none⟩::l) i a s Φ↔uS (iJ X (base+2*i) a.eval (.alloc e)) fun v f=>dY c F i [] s (s.put (base+2*i) f)∧cB X K ops base c F l (i+1) (a.put d v) (s.put (base+2*i) f) Φ:=OJ rfl rfl
theorem Yf {t n ps}:cB X K ops base c F (⟨d,.buildSlice t n ps,ty,pos,af,none⟩::l) i a s Φ↔uS (kW X (base+2*i) t n (ps.toList.map fun(i,x)=>(i,a.eval x))) fun v f=>dY c F i [] s (s.put (base+2*i) f)∧cB X K ops base c F l (i+1) (a.put d v) (s.put (base+2*i) f) Φ:=OJ rfl rfl
theorem Yj {t n c'}:cB X K ops base c F (⟨d,.makeSlice t n c',ty,pos,af,none⟩::l) i a s Φ↔uS (sT X (base+2*i) t (a.eval n) (a.eval c')) fun v f=>dY c F i [] s (s.put (base+2*i) f)∧cB X K ops base c F l (i+1) (a.put d v) (s.put (base+2*i) f) Φ:=OJ rfl rfl
theorem Yk {t r}:cB X K ops base c F (⟨d,.makeMap t r,ty,pos,af,none⟩::l) i a s Φ↔uS (xX X (base+2*i) t (r.map a.eval)) fun v f=>dY c F i [] s (s.put (base+2*i) f)∧cB X K ops base c F l (i+1) (a.put d v) (s.put (base+2*i) f) Φ:=OJ rfl rfl
theorem Ab {e x}:cB X K ops base c F (⟨d,.box e x,ty,pos,af,none⟩::l) i a s Φ↔dY c F i [] s (s.put (base+2*i) fun v=>.cells (PT.ofList (a.eval x).cells.toList) [] (a.eval x).cells.size e false false v)∧cB X K ops base c F l (i+1) (a.put d (.pointer (some ⟨base+2*i,0,none⟩))) (s.put (base+2*i) fun v=>.cells (PT.ofList (a.eval x).cells.toList) [] (a.eval x).cells.size e false false v) Φ:=OJ rfl rfl
theorem Ae {f fi ca}:cB X K ops base c F (⟨d,.makeFunc (.func f) fi ca,ty,pos,af,none⟩::l) i a s Φ↔dY c F i [] s s∧cB X K ops base c F l (i+1) (a.put d (.func (.func f) (fi.toList.map a.eval).toArray (ca.toList.map a.eval).toArray)) s Φ:=by
 refine(US rfl).trans ?_;simp only[iO,Option.some.injEq,exists_eq_left',gU];rw[← Array.toList_map,← Array.toList_map,Array.toArray_toList,Array.toArray_toList]
end
end Go.Dust
namespace Go.Dust
noncomputable def BX (X:Env) (H:bL) (t:TypeId) (v:Value):Option Value:=match v with
 | .pointer (some a)=>loadT X H t a
 | _=>none
theorem Iu (X:Env) (H:bL) (t:TypeId) (a:Addr):BX X H t (.pointer (some a))=loadT X H t a:=rfl
noncomputable def OE (X:Env) (H:bL) (o:BinOp) (t:TypeId) (x y:Value) (c:Bool):Option Value:=if (vH x y&&!c)=true then none else binop X H o t x y
theorem yf (X:Env) (H:bL) (o:BinOp) (t:TypeId) (x y:Value) (c:Bool):OE X H o t x y c=if (vH x y&&!c)=true then none else binop X H o t x y:=rfl
def IJ (c x y:Value):Option Value:=match c with
 | .bool t=>some (if t=true then x else y)
 | _=>none
theorem Mf (t:Bool) (x y:Value):IJ (.bool t) x y=some (if t=true then x else y):=rfl
def JL (v:Value) (j:Nat):Option Value:=match v with
 | .tuple vs=>vs[j]?
 | _=>none
theorem Sr (vs:Array Value) (j:Nat):JL (.tuple vs) j=vs[j]?:=rfl
noncomputable def wL (X:Env) (s:St) (t:TypeId) (p v:Value):Option St:=match p with
 | .pointer (some a)=>storeT X s t a v
 | _=>none
theorem Qt (X:Env) (s:St) (t:TypeId) (a:Addr) (v:Value):wL X s t (.pointer (some a)) v=storeT X s t a v:=rfl
def yW (o:Option (Value×(Nat→bW))):Value:=match o with
 | some (v,_)=>v
 | none=>undef
def tF (o:Option (Value×(Nat→bW))):Nat→bW:=match o with
 | some (_,f)=>f
 | none=>fun _=>.dead
theorem vx (v:Value) (f:Nat→bW):yW (some (v,f))=v:=rfl
theorem vw (v:Value) (f:Nat→bW):tF (some (v,f))=f:=rfl
theorem isSome_some {α:Type} (v:α):(some v).isSome=true:=rfl
theorem getD_some {α:Type} (v d:α):(some v).getD d=v:=rfl
theorem Az {o:Option Value} {P:Value→Prop}:(∃ v,o=some v∧P v)↔o.isSome=true∧P (o.getD undef):=by
 cases o with
 | none=>exact⟨fun⟨_,h,_⟩=>(by cases h),fun h=>(by cases h.1)⟩
 | some v=>exact⟨fun⟨_,h,k⟩=>(by cases h;exact⟨rfl,k⟩),fun h=>⟨v,rfl,h.2⟩⟩
theorem UW {o:Option St} {d:St} {P:St→Prop}:(∃ v,o=some v∧P v)↔o.isSome=true∧P (o.getD d):=by
 cases o with
 | none=>exact⟨fun⟨_,h,_⟩=>(by cases h),fun h=>(by cases h.1)⟩
 | some v=>exact⟨fun⟨_,h,k⟩=>(by cases h;exact⟨rfl,k⟩),fun h=>⟨v,rfl,h.2⟩⟩
theorem EN {o:Option (Value×(Nat→bW))} {k:Value→(Nat→bW)→Prop}:uS o k↔o.isSome=true∧k (yW o) (tF o):=by
 cases o with
 | none=>exact⟨fun h=>h.elim,fun h=>(by cases h.1)⟩
 | some p=>exact⟨fun h=>⟨rfl,h⟩,fun h=>h.2⟩
theorem dA {q:Bool} {X:Env} {K:eI} {r c x y a s} {Φ:dU→aK→St→Prop}:cR q X K r (.cond c x y) a s Φ↔(aY (a.eval c)).isSome=true∧cR q X K r (if aY (a.eval c)=some true then x else y) a s Φ:=by
 rw[RK];cases hc:a.eval c with
 | bool b=>exact⟨fun⟨b',h,k⟩=>(by cases h;refine⟨rfl,?_⟩;simpa [aY] using k),fun h=>⟨b,rfl,by simpa [aY] using h.2⟩⟩
 | _=>exact⟨fun⟨b',h,k⟩=>(by cases h),fun h=>(by cases h.1)⟩
section
variable {q:Bool} {X:Env} {K:eI} {ops:Array Oper} {d:Option Tmp} {ty:TypeId} {pos:String} {af:Array Edge} {l:List Oper} {a:aK} {s:St} {Φ:aK→St→Prop}
theorem oO {op:Op} (hk:fB op=.still):bS q X K ops (⟨d,op,ty,pos,af,none⟩::l) a s Φ↔(iO X s.look a.eval op).isSome=true∧bS q X K ops l (a.put d ((iO X s.look a.eval op).getD undef)) s Φ:=(ZG hk).trans Az
theorem Ix (H:bL) (ρ:Operand→Value) (t:TypeId) (x:Operand):iO X H ρ (.load t x)=BX X H t (ρ x):=by
 simp only[iO,BX];generalize ρ x=v;cases v with
 | pointer p=>cases p <;> rfl
 | _=>rfl
theorem Mg (H:bL) (ρ:Operand→Value) (c x y:Operand):iO X H ρ (.pick c x y)=IJ (ρ c) (ρ x) (ρ y):=by
 simp only[iO,IJ];generalize ρ c=v;cases v <;> rfl
theorem Ba (H:bL) (ρ:Operand→Value) (x:Operand) (j:Nat):iO X H ρ (.extract x j)=JL (ρ x) j:=by
 simp only[iO,JL];generalize ρ x=v;cases v <;> rfl
theorem Ol {t ps}:bS q X K ops (⟨d,.build t ps,ty,pos,af,none⟩::l) a s Φ↔(iR X t (ps.toList.map fun(i,x)=>(i,a.eval x))).isSome=true∧bS q X K ops l (a.put d ((iR X t (ps.toList.map fun(i,x)=>(i,a.eval x))).getD undef)) s Φ:=oO rfl
theorem Pf {x}:bS q X K ops (⟨d,.nilCheck x,ty,pos,af,none⟩::l) a s Φ↔(IE (a.eval x)).isSome=true∧bS q X K ops l (a.put d ((IE (a.eval x)).getD undef)) s Φ:=oO rfl
theorem Pl {o t x}:bS q X K ops (⟨d,.unOp o t x,ty,pos,af,none⟩::l) a s Φ↔(unop o (a.eval x)).isSome=true∧bS q X K ops l (a.put d ((unop o (a.eval x)).getD undef)) s Φ:=oO rfl
theorem Om {t0 t x}:bS q X K ops (⟨d,.convert t0 t x,ty,pos,af,none⟩::l) a s Φ↔(xE X t0 t (a.eval x)).isSome=true∧bS q X K ops l (a.put d ((xE X t0 t (a.eval x)).getD undef)) s Φ:=oO rfl
theorem Ph {t x lo hi mx}:bS q X K ops (⟨d,.slice t x lo hi mx,ty,pos,af,none⟩::l) a s Φ↔(mM X s.look t (a.eval x) (lo.map a.eval) (hi.map a.eval) (mx.map a.eval)).isSome=true∧bS q X K ops l (a.put d ((mM X s.look t (a.eval x) (lo.map a.eval) (hi.map a.eval) (mx.map a.eval)).getD undef)) s Φ:=oO rfl
theorem Ot {t x f}:bS q X K ops (⟨d,.fieldAddr t x f,ty,pos,af,none⟩::l) a s Φ↔(dO X t (a.eval x) f).isSome=true∧bS q X K ops l (a.put d ((dO X t (a.eval x) f).getD undef)) s Φ:=oO rfl
theorem Oq {t x f}:bS q X K ops (⟨d,.field t x f,ty,pos,af,none⟩::l) a s Φ↔(GH X t (a.eval x) f).isSome=true∧bS q X K ops l (a.put d ((GH X t (a.eval x) f).getD undef)) s Φ:=oO rfl
theorem Ov {t x y}:bS q X K ops (⟨d,.indexAddr t x y,ty,pos,af,none⟩::l) a s Φ↔(mZ X t (a.eval x) (a.eval y)).isSome=true∧bS q X K ops l (a.put d ((mZ X t (a.eval x) (a.eval y)).getD undef)) s Φ:=oO rfl
theorem Ou {t x y}:bS q X K ops (⟨d,.index t x y,ty,pos,af,none⟩::l) a s Φ↔(HU X t (a.eval x) (a.eval y)).isSome=true∧bS q X K ops l (a.put d ((HU X t (a.eval x) (a.eval y)).getD undef)) s Φ:=oO rfl
theorem Oy {t x y b}:bS q X K ops (⟨d,.lookup t x y b,ty,pos,af,none⟩::l) a s Φ↔(wF X s.look t (a.eval x) (a.eval y) b).isSome=true∧bS q X K ops l (a.put d ((wF X s.look t (a.eval x) (a.eval y) b).getD undef)) s Φ:=oO rfl
theorem Oz {t x}:bS q X K ops (⟨d,.makeInterface t x,ty,pos,af,none⟩::l) a s Φ↔(iO X s.look a.eval (.makeInterface t x)).isSome=true∧bS q X K ops l (a.put d ((iO X s.look a.eval (.makeInterface t x)).getD undef)) s Φ:=oO rfl
theorem Pk {x t1 t b}:bS q X K ops (⟨d,.typeAssert x t1 t b,ty,pos,af,none⟩::l) a s Φ↔(FK X (a.eval x) t b).isSome=true∧bS q X K ops l (a.put d ((FK X (a.eval x) t b).getD undef)) s Φ:=oO rfl
theorem On {x}:bS q X K ops (⟨d,.entry x,ty,pos,af,none⟩::l) a s Φ↔(vK s.look (a.eval x)).isSome=true∧bS q X K ops l (a.put d ((vK s.look (a.eval x)).getD undef)) s Φ:=oO rfl
theorem Ow {x t}:bS q X K ops (⟨d,.call ⟨.builtin .len,#[x],#[t]⟩,ty,pos,af,none⟩::l) a s Φ↔(mH X s.look t (a.eval x)).isSome=true∧bS q X K ops l (a.put d ((mH X s.look t (a.eval x)).getD undef)) s Φ:=oO rfl
theorem Pb {x y ts}:bS q X K ops (⟨d,.call ⟨.builtin .max,#[x,y],ts⟩,ty,pos,af,none⟩::l) a s Φ↔(oC (fun x y=>decide (y>x)) (a.eval x) [a.eval y]).isSome=true∧bS q X K ops l (a.put d ((oC (fun x y=>decide (y>x)) (a.eval x) [a.eval y]).getD undef)) s Φ:=oO rfl
theorem Pc {x y ts}:bS q X K ops (⟨d,.call ⟨.builtin .min,#[x,y],ts⟩,ty,pos,af,none⟩::l) a s Φ↔(oC (fun x y=>decide (y<x)) (a.eval x) [a.eval y]).isSome=true∧bS q X K ops l (a.put d ((oC (fun x y=>decide (y<x)) (a.eval x) [a.eval y]).getD undef)) s Φ:=oO rfl
theorem Ox {t x}:bS q X K ops (⟨d,.load t x,ty,pos,af,none⟩::l) a s Φ↔(BX X s.look t (a.eval x)).isSome=true∧bS q X K ops l (a.put d ((BX X s.look t (a.eval x)).getD undef)) s Φ:=by
 rw[oO rfl,Ix]
theorem Oi {o t x y t'}:bS q X K ops (⟨d,.binOp o t x y t',ty,pos,af,none⟩::l) a s Φ↔(OE X s.look o t (a.eval x) (a.eval y) (pV x||pV y)).isSome=true∧bS q X K ops l (a.put d ((OE X s.look o t (a.eval x) (a.eval y) (pV x||pV y)).getD undef)) s Φ:=oO rfl
theorem Pg {c0 x y}:bS q X K ops (⟨d,.pick c0 x y,ty,pos,af,none⟩::l) a s Φ↔(IJ (a.eval c0) (a.eval x) (a.eval y)).isSome=true∧bS q X K ops l (a.put d ((IJ (a.eval c0) (a.eval x) (a.eval y)).getD undef)) s Φ:=by
 rw[oO rfl,Mg]
theorem Oo {x j}:bS q X K ops (⟨d,.extract x j,ty,pos,af,none⟩::l) a s Φ↔(JL (a.eval x) j).isSome=true∧bS q X K ops l (a.put d ((JL (a.eval x) j).getD undef)) s Φ:=by
 rw[oO rfl,Ba]
theorem Pj {t p x}:bS q X K ops (⟨d,.store t p x,ty,pos,af,none⟩::l) a s Φ↔(wL X s t (a.eval p) (a.eval x)).isSome=true∧bS q X K ops l (a.put d undef) ((wL X s t (a.eval p) (a.eval x)).getD s) Φ:=by
 rw[aD3,← UW (P:=fun s'=>bS q X K ops l (a.put d undef) s' Φ)];cases hp:a.eval p with
 | pointer ad =>
  cases ad with
  | none=>simp[wL]
  | some ad=>simp[wL]
 | _=>simp[wL]
theorem Pa {t m k x}:bS q X K ops (⟨d,.mapUpdate t m k x,ty,pos,af,none⟩::l) a s Φ↔(mJ X s t (a.eval m) (a.eval k) (a.eval x)).isSome=true∧bS q X K ops l (a.put d undef) ((mJ X s t (a.eval m) (a.eval k) (a.eval x)).getD s) Φ:=by
 rw[aC9,← UW (P:=fun s'=>bS q X K ops l (a.put d undef) s' Φ)]
theorem Oh {e}:bS q X K ops (⟨d,.alloc e,ty,pos,af,none⟩::l) a s Φ↔(iJ X s.next a.eval (.alloc e)).isSome=true∧bS q X K ops l (a.put d (yW (iJ X s.next a.eval (.alloc e)))) (s.new (tF (iJ X s.next a.eval (.alloc e)))) Φ:=aC2.trans EN
theorem Oj {t n ps}:bS q X K ops (⟨d,.buildSlice t n ps,ty,pos,af,none⟩::l) a s Φ↔(kW X s.next t n (ps.toList.map fun(i,x)=>(i,a.eval x))).isSome=true∧bS q X K ops l (a.put d (yW (kW X s.next t n (ps.toList.map fun(i,x)=>(i,a.eval x))))) (s.new (tF (kW X s.next t n (ps.toList.map fun(i,x)=>(i,a.eval x))))) Φ:=aC4.trans EN
theorem Pd {t n c'}:bS q X K ops (⟨d,.makeSlice t n c',ty,pos,af,none⟩::l) a s Φ↔(sT X s.next t (a.eval n) (a.eval c')).isSome=true∧bS q X K ops l (a.put d (yW (sT X s.next t (a.eval n) (a.eval c')))) (s.new (tF (sT X s.next t (a.eval n) (a.eval c')))) Φ:=aCa.trans EN
theorem Pe {t r}:bS q X K ops (⟨d,.makeMap t r,ty,pos,af,none⟩::l) a s Φ↔(xX X s.next t (r.map a.eval)).isSome=true∧bS q X K ops l (a.put d (yW (xX X s.next t (r.map a.eval)))) (s.new (tF (xX X s.next t (r.map a.eval)))) Φ:=aCb.trans EN
end
section
variable {X:Env} {K:eI} {ops:Array Oper} {base i:Nat} {c:List (Nat×Nat)} {F:List Nat} {d:Option Tmp} {ty:TypeId} {pos:String} {af:Array Edge} {l:List Oper} {a:aK} {s:St} {Φ:aK→St→Prop}
theorem oQ {op:Op} (hk:fB op=.still):cB X K ops base c F (⟨d,op,ty,pos,af,none⟩::l) i a s Φ↔(iO X s.look a.eval op).isSome=true∧dY c F i (gU a.eval s.look op) s s∧cB X K ops base c F l (i+1) (a.put d ((iO X s.look a.eval op).getD undef)) s Φ:=(US hk).trans (Az (P:=fun v=>dY c F i (gU a.eval s.look op) s s∧cB X K ops base c F l (i+1) (a.put d v) s Φ))
theorem Rb {t ps}:cB X K ops base c F (⟨d,.build t ps,ty,pos,af,none⟩::l) i a s Φ↔(iR X t (ps.toList.map fun(i,x)=>(i,a.eval x))).isSome=true∧dY c F i ([]) s s∧cB X K ops base c F l (i+1) (a.put d ((iR X t (ps.toList.map fun(i,x)=>(i,a.eval x))).getD undef)) s Φ:=oQ rfl
theorem Sb {x}:cB X K ops base c F (⟨d,.nilCheck x,ty,pos,af,none⟩::l) i a s Φ↔(IE (a.eval x)).isSome=true∧dY c F i ([]) s s∧cB X K ops base c F l (i+1) (a.put d ((IE (a.eval x)).getD undef)) s Φ:=oQ rfl
theorem Sg {o t x}:cB X K ops base c F (⟨d,.unOp o t x,ty,pos,af,none⟩::l) i a s Φ↔(unop o (a.eval x)).isSome=true∧dY c F i ([]) s s∧cB X K ops base c F l (i+1) (a.put d ((unop o (a.eval x)).getD undef)) s Φ:=oQ rfl
theorem Rc {t0 t x}:cB X K ops base c F (⟨d,.convert t0 t x,ty,pos,af,none⟩::l) i a s Φ↔(xE X t0 t (a.eval x)).isSome=true∧dY c F i ([]) s s∧cB X K ops base c F l (i+1) (a.put d ((xE X t0 t (a.eval x)).getD undef)) s Φ:=oQ rfl
theorem Sd {t x lo hi mx}:cB X K ops base c F (⟨d,.slice t x lo hi mx,ty,pos,af,none⟩::l) i a s Φ↔(mM X s.look t (a.eval x) (lo.map a.eval) (hi.map a.eval) (mx.map a.eval)).isSome=true∧dY c F i (nameOf (a.eval x)) s s∧cB X K ops base c F l (i+1) (a.put d ((mM X s.look t (a.eval x) (lo.map a.eval) (hi.map a.eval) (mx.map a.eval)).getD undef)) s Φ:=oQ rfl
theorem Ri {t x f}:cB X K ops base c F (⟨d,.fieldAddr t x f,ty,pos,af,none⟩::l) i a s Φ↔(dO X t (a.eval x) f).isSome=true∧dY c F i ([]) s s∧cB X K ops base c F l (i+1) (a.put d ((dO X t (a.eval x) f).getD undef)) s Φ:=oQ rfl
theorem Rh {t x f}:cB X K ops base c F (⟨d,.field t x f,ty,pos,af,none⟩::l) i a s Φ↔(GH X t (a.eval x) f).isSome=true∧dY c F i ([]) s s∧cB X K ops base c F l (i+1) (a.put d ((GH X t (a.eval x) f).getD undef)) s Φ:=oQ rfl
theorem Rk {t x y}:cB X K ops base c F (⟨d,.indexAddr t x y,ty,pos,af,none⟩::l) i a s Φ↔(mZ X t (a.eval x) (a.eval y)).isSome=true∧dY c F i ([]) s s∧cB X K ops base c F l (i+1) (a.put d ((mZ X t (a.eval x) (a.eval y)).getD undef)) s Φ:=oQ rfl
theorem Rj {t x y}:cB X K ops base c F (⟨d,.index t x y,ty,pos,af,none⟩::l) i a s Φ↔(HU X t (a.eval x) (a.eval y)).isSome=true∧dY c F i ([]) s s∧cB X K ops base c F l (i+1) (a.put d ((HU X t (a.eval x) (a.eval y)).getD undef)) s Φ:=oQ rfl
theorem Rp {t x y b}:cB X K ops base c F (⟨d,.lookup t x y b,ty,pos,af,none⟩::l) i a s Φ↔(wF X s.look t (a.eval x) (a.eval y) b).isSome=true∧dY c F i (nameOf (a.eval x)) s s∧cB X K ops base c F l (i+1) (a.put d ((wF X s.look t (a.eval x) (a.eval y) b).getD undef)) s Φ:=oQ rfl
theorem Rt {t x}:cB X K ops base c F (⟨d,.makeInterface t x,ty,pos,af,none⟩::l) i a s Φ↔(iO X s.look a.eval (.makeInterface t x)).isSome=true∧dY c F i ([]) s s∧cB X K ops base c F l (i+1) (a.put d ((iO X s.look a.eval (.makeInterface t x)).getD undef)) s Φ:=oQ rfl
theorem Sf {x t1 t b}:cB X K ops base c F (⟨d,.typeAssert x t1 t b,ty,pos,af,none⟩::l) i a s Φ↔(FK X (a.eval x) t b).isSome=true∧dY c F i ([]) s s∧cB X K ops base c F l (i+1) (a.put d ((FK X (a.eval x) t b).getD undef)) s Φ:=oQ rfl
theorem Re {x}:cB X K ops base c F (⟨d,.entry x,ty,pos,af,none⟩::l) i a s Φ↔(vK s.look (a.eval x)).isSome=true∧dY c F i (gU a.eval s.look (.entry x)) s s∧cB X K ops base c F l (i+1) (a.put d ((vK s.look (a.eval x)).getD undef)) s Φ:=oQ rfl
theorem Rl {x t}:cB X K ops base c F (⟨d,.call ⟨.builtin .len,#[x],#[t]⟩,ty,pos,af,none⟩::l) i a s Φ↔(mH X s.look t (a.eval x)).isSome=true∧dY c F i (nameOf (a.eval x)) s s∧cB X K ops base c F l (i+1) (a.put d ((mH X s.look t (a.eval x)).getD undef)) s Φ:=oQ rfl
theorem Rw {x y ts}:cB X K ops base c F (⟨d,.call ⟨.builtin .max,#[x,y],ts⟩,ty,pos,af,none⟩::l) i a s Φ↔(oC (fun x y=>decide (y>x)) (a.eval x) [a.eval y]).isSome=true∧dY c F i (nameOf (a.eval x)) s s∧cB X K ops base c F l (i+1) (a.put d ((oC (fun x y=>decide (y>x)) (a.eval x) [a.eval y]).getD undef)) s Φ:=oQ rfl
theorem Rx {x y ts}:cB X K ops base c F (⟨d,.call ⟨.builtin .min,#[x,y],ts⟩,ty,pos,af,none⟩::l) i a s Φ↔(oC (fun x y=>decide (y<x)) (a.eval x) [a.eval y]).isSome=true∧dY c F i (nameOf (a.eval x)) s s∧cB X K ops base c F l (i+1) (a.put d ((oC (fun x y=>decide (y<x)) (a.eval x) [a.eval y]).getD undef)) s Φ:=oQ rfl
theorem Ro {t x}:cB X K ops base c F (⟨d,.load t x,ty,pos,af,none⟩::l) i a s Φ↔(BX X s.look t (a.eval x)).isSome=true∧dY c F i (nameOf (a.eval x)) s s∧cB X K ops base c F l (i+1) (a.put d ((BX X s.look t (a.eval x)).getD undef)) s Φ:=by
 rw[oQ rfl,Ix,show gU a.eval s.look (.load t x)=nameOf (a.eval x) from rfl]
theorem Qz {o t x y t'}:cB X K ops base c F (⟨d,.binOp o t x y t',ty,pos,af,none⟩::l) i a s Φ↔(OE X s.look o t (a.eval x) (a.eval y) (pV x||pV y)).isSome=true∧dY c F i (nameOf (a.eval x)++nameOf (a.eval y)) s s∧cB X K ops base c F l (i+1) (a.put d ((OE X s.look o t (a.eval x) (a.eval y) (pV x||pV y)).getD undef)) s Φ:=oQ rfl
theorem Sc {c0 x y}:cB X K ops base c F (⟨d,.pick c0 x y,ty,pos,af,none⟩::l) i a s Φ↔(IJ (a.eval c0) (a.eval x) (a.eval y)).isSome=true∧dY c F i ([]) s s∧cB X K ops base c F l (i+1) (a.put d ((IJ (a.eval c0) (a.eval x) (a.eval y)).getD undef)) s Φ:=by
 rw[oQ rfl,Mg,show gU a.eval s.look (.pick c0 x y)=[] from rfl]
theorem Rf {x j}:cB X K ops base c F (⟨d,.extract x j,ty,pos,af,none⟩::l) i a s Φ↔(JL (a.eval x) j).isSome=true∧dY c F i ([]) s s∧cB X K ops base c F l (i+1) (a.put d ((JL (a.eval x) j).getD undef)) s Φ:=by
 rw[oQ rfl,Ba,show gU a.eval s.look (.extract x j)=[] from rfl]
theorem Se {t p x}:cB X K ops base c F (⟨d,.store t p x,ty,pos,af,none⟩::l) i a s Φ↔(wL X s t (a.eval p) (a.eval x)).isSome=true∧dY c F i [] s ((wL X s t (a.eval p) (a.eval x)).getD s)∧cB X K ops base c F l (i+1) (a.put d undef) ((wL X s t (a.eval p) (a.eval x)).getD s) Φ:=by
 rw[Yl,← UW (P:=fun s'=>dY c F i [] s s'∧cB X K ops base c F l (i+1) (a.put d undef) s' Φ)];cases hp:a.eval p with
 | pointer ad =>
  cases ad with
  | none=>simp[wL]
  | some ad=>simp[wL]
 | _=>simp[wL]
theorem Ru {t m k x}:cB X K ops base c F (⟨d,.mapUpdate t m k x,ty,pos,af,none⟩::l) i a s Φ↔(mJ X s t (a.eval m) (a.eval k) (a.eval x)).isSome=true∧dY c F i [] s ((mJ X s t (a.eval m) (a.eval k) (a.eval x)).getD s)∧cB X K ops base c F l (i+1) (a.put d undef) ((mJ X s t (a.eval m) (a.eval k) (a.eval x)).getD s) Φ:=by
 rw[Yi,← UW (P:=fun s'=>dY c F i [] s s'∧cB X K ops base c F l (i+1) (a.put d undef) s' Φ)]
theorem Qy {e}:cB X K ops base c F (⟨d,.alloc e,ty,pos,af,none⟩::l) i a s Φ↔(iJ X (base+2*i) a.eval (.alloc e)).isSome=true∧dY c F i [] s (s.put (base+2*i) (tF (iJ X (base+2*i) a.eval (.alloc e))))∧cB X K ops base c F l (i+1) (a.put d (yW (iJ X (base+2*i) a.eval (.alloc e)))) (s.put (base+2*i) (tF (iJ X (base+2*i) a.eval (.alloc e)))) Φ:=Yd.trans EN
theorem Ra {t n ps}:cB X K ops base c F (⟨d,.buildSlice t n ps,ty,pos,af,none⟩::l) i a s Φ↔(kW X (base+2*i) t n (ps.toList.map fun(i,x)=>(i,a.eval x))).isSome=true∧dY c F i [] s (s.put (base+2*i) (tF (kW X (base+2*i) t n (ps.toList.map fun(i,x)=>(i,a.eval x)))))∧cB X K ops base c F l (i+1) (a.put d (yW (kW X (base+2*i) t n (ps.toList.map fun(i,x)=>(i,a.eval x))))) (s.put (base+2*i) (tF (kW X (base+2*i) t n (ps.toList.map fun(i,x)=>(i,a.eval x))))) Φ:=Yf.trans EN
theorem Ry {t n c'}:cB X K ops base c F (⟨d,.makeSlice t n c',ty,pos,af,none⟩::l) i a s Φ↔(sT X (base+2*i) t (a.eval n) (a.eval c')).isSome=true∧dY c F i [] s (s.put (base+2*i) (tF (sT X (base+2*i) t (a.eval n) (a.eval c'))))∧cB X K ops base c F l (i+1) (a.put d (yW (sT X (base+2*i) t (a.eval n) (a.eval c')))) (s.put (base+2*i) (tF (sT X (base+2*i) t (a.eval n) (a.eval c')))) Φ:=Yj.trans EN
theorem Sa {t r}:cB X K ops base c F (⟨d,.makeMap t r,ty,pos,af,none⟩::l) i a s Φ↔(xX X (base+2*i) t (r.map a.eval)).isSome=true∧dY c F i [] s (s.put (base+2*i) (tF (xX X (base+2*i) t (r.map a.eval))))∧cB X K ops base c F l (i+1) (a.put d (yW (xX X (base+2*i) t (r.map a.eval)))) (s.put (base+2*i) (tF (xX X (base+2*i) t (r.map a.eval)))) Φ:=Yk.trans EN
end
theorem YX (a:Addr):IE (.pointer (some a))=some (.pointer (some a)):=rfl
theorem UL (k:IntKind) (n:Int):(Value.int k n).cells=#[.int k n]:=rfl
theorem UJ (b:Bool):(Value.bool b).cells=#[.bool b]:=rfl
theorem UN (p:Option Addr):(Value.pointer p).cells=#[.pointer p]:=rfl
theorem UO (p:Option Addr) (n c:Nat):(Value.slice p n c).cells=#[.slice p n c]:=rfl
theorem UM (p:Option Nat):(Value.map p).cells=#[.map p]:=rfl
theorem UP (x:ByteArray):(Value.string x).cells=#[.string x]:=rfl
theorem UK (f:Fn) (x y:Array Value):(Value.func f x y).cells=#[.func f x y]:=rfl
theorem UI (cs:Array Value):(Value.agg cs).cells=cs:=rfl
theorem YS (b o:Nat) (sp:Option Nat):nameOf (.pointer (some ⟨b,o,sp⟩))=[b]:=rfl
theorem UC (k:IntKind) (n:Int) (y:Value):vH (.int k n) y=false:=rfl
theorem UE (p:Option Addr) (y:Value):vH (.pointer p) y=false:=rfl
theorem UB (b:Bool) (y:Value):vH (.bool b) y=false:=rfl
theorem UG (x:ByteArray) (y:Value):vH (.string x) y=false:=rfl
theorem UA (cs:Array Value) (y:Value):vH (.agg cs) y=false:=rfl
theorem UF (p:Option Addr) (n c:Nat) (y:Value):vH (.slice p n c) y=false:=rfl
theorem UD (p:Option Nat) (y:Value):vH (.map p) y=false:=rfl
theorem Nd {X:Env} (H:bL) (a:aK) (t:Tmp) (ty:TypeId) (rest:List ResultVar):results1 X H a (.cell t ty::rest)=match BX X H ty (a.aB t),results1 X H a rest with
  | some v,some l=>some (v::l)
  | _,_=>none:=by
 rw[results1];cases h:a.aB t with
 | pointer p =>
  cases p with
  | none=>rfl
  | some ad =>
   simp only[BX];cases loadT X H ty ad <;> cases results1 X H a rest <;> rfl
 | _=>rfl
theorem eval_func (a:aK) (f:FuncId):a.eval (.func f)=.func (.func f) #[] #[]:=rfl
theorem eval_global (a:aK) (g:Nat):a.eval (.global g)=.pointer (some ⟨2*g,0,none⟩):=rfl
theorem YR:nameOf (.pointer none)=[]:=rfl
theorem YP (k:IntKind) (n:Int):nameOf (.int k n)=[]:=rfl
theorem YO (b:Bool):nameOf (.bool b)=[]:=rfl
theorem YT (b o:Nat) (sp:Option Nat) (n c:Nat):nameOf (.slice (some ⟨b,o,sp⟩) n c)=[b]:=rfl
theorem YQ (r:Nat):nameOf (.map (some r))=[r]:=rfl
theorem B2 {p0 p1:Prop} (h0:p0) (h1:p1):p0∧p1:=⟨h0,h1⟩
theorem B3 {p0 p1 p2:Prop} (h0:p0) (h1:p1) (h2:p2):p0∧p1∧p2:=⟨h0,h1,h2⟩
theorem B4 {p0 p1 p2 p3:Prop} (h0:p0) (h1:p1) (h2:p2) (h3:p3):p0∧p1∧p2∧p3:=⟨h0,h1,h2,h3⟩
theorem B5 {p0 p1 p2 p3 p4:Prop} (h0:p0) (h1:p1) (h2:p2) (h3:p3) (h4:p4):p0∧p1∧p2∧p3∧p4:=⟨h0,h1,h2,h3,h4⟩
theorem B6 {p0 p1 p2 p3 p4 p5:Prop} (h0:p0) (h1:p1) (h2:p2) (h3:p3) (h4:p4) (h5:p5):p0∧p1∧p2∧p3∧p4∧p5:=⟨h0,h1,h2,h3,h4,h5⟩
theorem B7 {p0 p1 p2 p3 p4 p5 p6:Prop} (h0:p0) (h1:p1) (h2:p2) (h3:p3) (h4:p4) (h5:p5) (h6:p6):p0∧p1∧p2∧p3∧p4∧p5∧p6:=⟨h0,h1,h2,h3,h4,h5,h6⟩
theorem B8 {p0 p1 p2 p3 p4 p5 p6 p7:Prop} (h0:p0) (h1:p1) (h2:p2) (h3:p3) (h4:p4) (h5:p5) (h6:p6) (h7:p7):p0∧p1∧p2∧p3∧p4∧p5∧p6∧p7:=⟨h0,h1,h2,h3,h4,h5,h6,h7⟩
theorem B9 {p0 p1 p2 p3 p4 p5 p6 p7 p8:Prop} (h0:p0) (h1:p1) (h2:p2) (h3:p3) (h4:p4) (h5:p5) (h6:p6) (h7:p7) (h8:p8):p0∧p1∧p2∧p3∧p4∧p5∧p6∧p7∧p8:=⟨h0,h1,h2,h3,h4,h5,h6,h7,h8⟩
theorem RC:type_of% (B7 @qy @qx @Ll @dA @MK @MI @qw):=B7 @qy @qx @Ll @dA @MK @MI @qw
theorem RO:type_of% (B9 @Ls @Lr @Ld @Ky @Kz @La @Ol @Pf (B9 @Pl @Om @Ph @Ot @Oq @Ov @Ou @Oy (B9 @Oz @Pk @On @Ow @Pb @Pc @Ox @Oi (B8 @Pg @Oo @Pj @Pa @Oh @Oj @Pd @Pe)))):=B9 @Ls @Lr @Ld @Ky @Kz @La @Ol @Pf (B9 @Pl @Om @Ph @Ot @Oq @Ov @Ou @Oy (B9 @Oz @Pk @On @Ow @Pb @Pc @Ox @Oi (B8 @Pg @Oo @Pj @Pa @Oh @Oj @Pd @Pe)))
theorem RD:type_of% (B9 @Ag @Ad @Af @Aa @Ab @Ae @Rb @Sb (B9 @Sg @Rc @Sd @Ri @Rh @Rk @Rj @Rp (B9 @Rt @Sf @Re @Rl @Rw @Rx @Ro @Qz (B8 @Sc @Rf @Se @Ru @Qy @Ra @Ry @Sa)))):=B9 @Ag @Ad @Af @Aa @Ab @Ae @Rb @Sb (B9 @Sg @Rc @Sd @Ri @Rh @Rk @Rj @Rp (B9 @Rt @Sf @Re @Rl @Rw @Rx @Ro @Qz (B8 @Sc @Rf @Se @Ru @Qy @Ra @Ry @Sa)))
theorem RV:type_of% (B9 @Iu @yf @Mf @Sr @Qt @vx @vw @isSome_some (B9 @getD_some @WH @WG @Et @Es @Gp @Gn @ZD (B9 @YM @YN @KD @OI @MD @WB @YX @UL (B9 @UJ @UN @UO @UM @UI @UP @UK @UC (B9 @UE @UB @UG @UA @UF @UD @YS @YP (B9 @YO @YR @YT @YQ @Av @eval_const @eval_func @eval_global (B9 @EW @Mo @Cy @yw @Sv @Sw @ZD @YM (B9 @YN @KD @OI @MD @WB @WH @WG @YX (B9 @UL @UJ @UN @UO @UM @UI @UP @UK (B9 @UC @UE @UB @UG @UA @UF @UD @YS (B5 @YP @YO @YR @YT @YQ))))))))))):=B9 @Iu @yf @Mf @Sr @Qt @vx @vw @isSome_some (B9 @getD_some @WH @WG @Et @Es @Gp @Gn @ZD (B9 @YM @YN @KD @OI @MD @WB @YX @UL (B9 @UJ @UN @UO @UM @UI @UP @UK @UC (B9 @UE @UB @UG @UA @UF @UD @YS @YP (B9 @YO @YR @YT @YQ @Av @eval_const @eval_func @eval_global (B9 @EW @Mo @Cy @yw @Sv @Sw @ZD @YM (B9 @YN @KD @OI @MD @WB @WH @WG @YX (B9 @UL @UJ @UN @UO @UM @UI @UP @UK (B9 @UC @UE @UB @UG @UA @UF @UD @YS (B5 @YP @YO @YR @YT @YQ))))))))))
theorem RB:type_of% (B9 @yg @yr @ym @yo @yp @yh @yn @yj (B4 @yi @yl @yk @yq)):=B9 @yg @yr @ym @yo @yp @yh @yn @yj (B4 @yi @yl @yk @yq)
theorem Kv (c:List (Nat×Nat)) (F:List Nat) (i:Nat) (r:List Nat) (s s':St):dY c F i r s s'=((bif LH c i then LR r F else True)∧(bif LI c i then uH F s s' else True)):=rfl
theorem RG:type_of% (B9 @Kv @List.mem_cons.{0} @List.not_mem_nil.{0} @true_or @or_true @or_false @true_and @and_true (B9 @List.toList_toArray.{0} @List.getElem?_cons_zero.{0} @List.getElem?_cons_succ.{0} @Option.getD_some.{0} @Option.some.injEq.{0} @exists_eq_left'.{1} @if_true.{0} @if_true.{1} (B9 @if_false.{0} @if_false.{1} @Bool.false_and @Bool.false_eq_true @Value.pointer.injEq @Value.bool.injEq @Value.int.injEq @Value.tuple.injEq (B9 @exists_and_left.{1} @Option.map_some.{0,0} @Option.map_none.{0,0} @List.map_cons.{0,0} @List.map_nil.{0,0} @List.size_toArray.{0} @List.length_cons.{0} @List.length_nil.{0} (B9 @Ng @Nf @Nd @List.getElem?_toArray.{0} @Bool.true_and @Bool.and_true @Bool.or_true @Bool.true_or (B9 @Bool.or_false @Bool.false_or @cond_true.{1} @cond_false.{1} @List.append_nil.{0} @List.nil_append.{0} @List.cons_append.{0} @Bool.not_true @Bool.not_false)))))):=B9 @Kv @List.mem_cons.{0} @List.not_mem_nil.{0} @true_or @or_true @or_false @true_and @and_true (B9 @List.toList_toArray.{0} @List.getElem?_cons_zero.{0} @List.getElem?_cons_succ.{0} @Option.getD_some.{0} @Option.some.injEq.{0} @exists_eq_left'.{1} @if_true.{0} @if_true.{1} (B9 @if_false.{0} @if_false.{1} @Bool.false_and @Bool.false_eq_true @Value.pointer.injEq @Value.bool.injEq @Value.int.injEq @Value.tuple.injEq (B9 @exists_and_left.{1} @Option.map_some.{0,0} @Option.map_none.{0,0} @List.map_cons.{0,0} @List.map_nil.{0,0} @List.size_toArray.{0} @List.length_cons.{0} @List.length_nil.{0} (B9 @Ng @Nf @Nd @List.getElem?_toArray.{0} @Bool.true_and @Bool.and_true @Bool.or_true @Bool.true_or (B9 @Bool.or_false @Bool.false_or @cond_true.{1} @cond_false.{1} @List.append_nil.{0} @List.nil_append.{0} @List.cons_append.{0} @Bool.not_true @Bool.not_false)))))
theorem RX:type_of% (B6 @RC @RO @RD @RV @RB @RG):=B6 @RC @RO @RD @RV @RB @RG
theorem aW {P:Program} {q:Bool} {K:eI} {f:FuncId} {fn:Func} {c:Code} {rs:List ResultVar} {N:Nat} {args:List Value} {s:St} {Φ:Value→St→Prop} (hf:P.funcs[f]?=some fn) (hok:IG fn=true) (hk:K f args s=none) (hb:fn.body=some c) (hr:fn.results.toList=rs) (hN:fn.ntmps=N) (hn:Nat.ble args.length N=true)
  (h:cR q (env P) K none c {tmps:=PT.ofList args,nt:=N} s fun e a s=>match e with
   | .exit _=>False
   | _=>∃ l,results1 (env P) s.look a rs=some l∧Φ (match l with | [v]=>v | l=>.tuple l.toArray) s):okF q (env P) K f args s Φ:=Lq hk (Co hf hok) hb hr hN hn h
theorem aH {q:Bool} {X:Env} {K:eI} {ops d f aJ6 ts ty pos af l a s} {Φ:aK→St→Prop} {args:List Value} (h:aJ6.toList.map a.eval=args) (hc:okF q X K f args s fun v s=>bS q X K ops l (a.put d v) s Φ) :
  bS q X K ops (⟨d,.call ⟨.value (.func f),aJ6,ts⟩,ty,pos,af,none⟩::l) a s Φ:=by
 subst h;exact aD0.2 hc
theorem dL {X:Env} {K:eI} {ops base c F i d f aJ6 ts ty pos af l a s} {Φ:aK→St→Prop} {args:List Value} (h:aJ6.toList.map a.eval=args)
  (hc:okF false X K f args s fun v s'=>dY c F i (gU a.eval s.look (.call ⟨.value (.func f),aJ6,ts⟩)) s s'∧cB X K ops base c F l (i+1) (a.put d v) s' Φ) :
  cB X K ops base c F (⟨d,.call ⟨.value (.func f),aJ6,ts⟩,ty,pos,af,none⟩::l) i a s Φ:=by
 subst h;exact Yg.2 hc
theorem MM {q:Bool} {X:Env} {K:eI} {ops d t aJ6 ts ty pos af l a s f} {fi ca:Array Value} {Φ:aK→St→Prop} {args:List Value} (hf:a.aB t=.func (.func f) fi ca) (h:fi.toList++aJ6.toList.map a.eval++ca.toList=args)
  (hc:okF q X K f args s fun v s=>bS q X K ops l (a.put d v) s Φ):bS q X K ops (⟨d,.call ⟨.value (.tmp t),aJ6,ts⟩,ty,pos,af,none⟩::l) a s Φ:=by
 subst h;rw[aC6,hf,KD];exact hc
section
variable {X:Env} {K:eI} {ops:Array Oper} {base i:Nat} {c:List (Nat×Nat)} {F:List Nat} {d:Option Tmp} {ty:TypeId} {pos:String} {af:Array Edge} {l:List Oper} {a:aK} {s s':St} {Φ:aK→St→Prop} {aJ6:Array Operand} {ts:Array TypeId} {args:List Value} {v:Value}
theorem Yh (h:aJ6.toList.map a.eval=args) (hd:zJ X s ts args=some (v,s')) (hn:dY c F i (gU a.eval s.look (.call ⟨.builtin .delete,aJ6,ts⟩)) s s') (hk:cB X K ops base c F l (i+1) (a.put d v) s' Φ) :
  cB X K ops base c F (⟨d,.call ⟨.builtin .delete,aJ6,ts⟩,ty,pos,af,none⟩::l) i a s Φ:=by
 subst h;refine(UR (P:=fun v s'=>zJ X s ts (aJ6.toList.map a.eval)=some (v,s')) rfl ?_).2 ⟨v,s',hd,hn,hk⟩;intro cl r v s';simp only[gI];cases zJ X s ts (aJ6.toList.map a.eval) with
 | none=>simp[bN.ofOption]
 | some p=>rcases p with ⟨v2,s2⟩;simp[bN.ofOption]
theorem vJ (h:aJ6.toList.map a.eval=args) (hd:oY X s ts args=some (v,s')) (hn:dY c F i (gU a.eval s.look (.call ⟨.builtin .append,aJ6,ts⟩)) s s') (hk:cB X K ops base c F l (i+1) (a.put d v) s' Φ) :
  cB X K ops base c F (⟨d,.call ⟨.builtin .append,aJ6,ts⟩,ty,pos,af,none⟩::l) i a s Φ:=by
 subst h;exact Ye.2 ⟨v,s',hd,hn,hk⟩
variable {q:Bool}
theorem iS (h:aJ6.toList.map a.eval=args) (hd:oY X s ts args=some (v,s')) (hk:bS q X K ops l (a.put d v) s' Φ):bS q X K ops (⟨d,.call ⟨.builtin .append,aJ6,ts⟩,ty,pos,af,none⟩::l) a s Φ:=by
 subst h;exact aC3.2 ⟨v,s',hd,hk⟩
theorem aC8 (h:aJ6.toList.map a.eval=args) (hd:zG X s ts args=some (v,s')) (hk:bS q X K ops l (a.put d v) s' Φ):bS q X K ops (⟨d,.call ⟨.builtin .clear,aJ6,ts⟩,ty,pos,af,none⟩::l) a s Φ:=by
 subst h;exact aC7.2 ⟨v,s',hd,hk⟩
end
theorem gB {q:Bool} {X:Env} {K:eI} {r:Option Nat} {G S body:Code} {c:Operand} {e b n:Nat} {Φ:dU→aK→St→Prop} (I J:Nat→aK→St→Prop)
  (hG:∀ j a s,j≤n→I j a s→∀ Ψ:dU→aK→St→Prop,(∀ a' s' bb,a'.eval c=.bool bb→(bb=true↔j<n)→I j a' s'→Ψ .normal a' s')→cR q X K r G a s Ψ)
  (hB:∀ j a s,j<n→I j a s→∀ Ψ:dU→aK→St→Prop,(∀ a s,J j a s→Ψ .normal a s)→(∀ a s,J j a s→Ψ (.exit b) a s)→(∀ e' a s,e'≠.normal→e'≠.exit b→Φ e' a s→Ψ e' a s)→cR q X K r body a s Ψ)
  (hS:∀ j a s,j<n→J j a s→∀ Ψ:dU→aK→St→Prop,(∀ a s,I (j+1) a s→Ψ .normal a s)→cR q X K r S a s Ψ)
  (hE:∀ a s,I n a s→Φ (.exit e) a s) {j0:Nat} {a:aK} {s:St} (hj:j0≤n) (h0:I j0 a s) :
  cR q X K r (.loop (.seq (.seq G (.cond c .skip (.exit e))) (.seq (.block b body) S))) a s Φ:=by
 refine cR.loop (fun k a s=>∃ j,k=n-j∧j≤n∧I j a s) ?_ (n-j0) ⟨j0,rfl,hj,h0⟩;rintro k a s ⟨j,rfl,hj,hI⟩;refine aA fun Ψ1 h1 h1'=>?_;refine aA fun Ψ2 h2 h2'=>?_;refine hG j a s hj hI _ fun a' s' bb hb hbb hI'=>h2 _ _ ?_;rw[RK];refine⟨bb,hb,?_⟩;by_cases cD:j<n
 ·rw[if_pos (hbb.2 cD),MK];refine h1 _ _ ?_;refine aA fun Ψ3 h3 h3'=>?_;refine cJ fun Ψ4 h4 h4e h4'=>?_;have done:∀ a s,J j a s→Ψ3 .normal a s:=fun a s hJ=>h3 _ _ (hS j a s cD hJ _ fun a s hI=>⟨n-(j+1),by omega,j+1,rfl,cD,hI⟩);refine hB j a' s' cD hI' Ψ4 (fun a s hJ=>h4 _ _ (done a s hJ)) (fun a s hJ=>h4e _ _ (done a s hJ)) fun e' a s hn hb hΦ=>h4' _ _ _ hn hb (h3' _ _ _ hn ?_);cases e' with
  | normal=>exact absurd rfl hn
  | _=>exact hΦ
 ·obtain rfl:j=n:=by omega
  rw[if_neg (fun h=>cD (hbb.1 h)),MI];exact h1' _ _ _ (by simp) (hE _ _ hI')
theorem ZE {q:Bool} {X:Env} {K:eI} {r:Option Nat} {G body:Code} {c:Operand} {e b n:Nat} {Φ:dU→aK→St→Prop} (I:Nat→aK→St→Prop)
  (hG:∀ j a s,j≤n→I j a s→∀ Ψ:dU→aK→St→Prop,(∀ a' s' bb,a'.eval c=.bool bb→(bb=true↔j<n)→I j a' s'→Ψ .normal a' s')→cR q X K r G a s Ψ)
  (hB:∀ j a s,j<n→I j a s→∀ Ψ:dU→aK→St→Prop,(∀ a s,I (j+1) a s→Ψ .normal a s)→(∀ a s,I (j+1) a s→Ψ (.exit b) a s)→(∀ e' a s,e'≠.normal→e'≠.exit b→Φ e' a s→Ψ e' a s)→cR q X K r body a s Ψ)
  (hE:∀ a s,I n a s→Φ (.exit e) a s) {j0:Nat} {a:aK} {s:St} (hj:j0≤n) (h0:I j0 a s) :
  cR q X K r (.loop (.seq (.seq G (.cond c .skip (.exit e))) (.block b body))) a s Φ:=by
 refine cR.loop (fun k a s=>∃ j,k=n-j∧j≤n∧I j a s) ?_ (n-j0) ⟨j0,rfl,hj,h0⟩;rintro k a s ⟨j,rfl,hj,hI⟩;refine aA fun Ψ1 h1 h1'=>?_;refine aA fun Ψ2 h2 h2'=>?_;refine hG j a s hj hI _ fun a' s' bb hb hbb hI'=>h2 _ _ ?_;rw[RK];refine⟨bb,hb,?_⟩;by_cases cD:j<n
 ·rw[if_pos (hbb.2 cD),MK];refine h1 _ _ ?_;refine cJ fun Ψ4 h4 h4e h4'=>?_;have done:∀ a s,I (j+1) a s→∃ j',j'<n-j∧∃ j,j'=n-j∧j≤n∧I j a s:=fun a s hI=>⟨n-(j+1),by omega,j+1,rfl,cD,hI⟩;refine hB j a' s' cD hI' Ψ4 (fun a s hJ=>h4 _ _ (done a s hJ)) (fun a s hJ=>h4e _ _ (done a s hJ)) fun e' a s hn hb hΦ=>h4' _ _ _ hn hb ?_;cases e' with
  | normal=>exact absurd rfl hn
  | _=>exact hΦ
 ·obtain rfl:j=n:=by omega
  rw[if_neg (fun h=>cD (hbb.1 h)),MI];exact h1' _ _ _ (by simp) (hE _ _ hI')
theorem rW {q:Bool} {X:Env} {K:eI} {r:Option Nat} {G S body:Code} {c:Operand} {e b n:Nat} {Φ:dU→aK→St→Prop} (I J:Nat→aK→St→Prop)
  (hG:∀ j a s,j≤n→I j a s→∀ Ψ:dU→aK→St→Prop,(∀ a' s' bb,a'.eval c=.bool bb→(bb=true↔j<n)→I j a' s'→Ψ .normal a' s')→cR q X K r G a s Ψ)
  (hB:∀ j a s,j<n→I j a s→∀ Ψ:dU→aK→St→Prop,(∀ a s,J j a s→Ψ .normal a s)→(∀ a s,J j a s→Ψ (.exit b) a s)→(∀ e' a s,e'≠.normal→e'≠.exit b→Φ e' a s→Ψ e' a s)→cR q X K r body a s Ψ)
  (hS:∀ j a s,j<n→J j a s→∀ Ψ:dU→aK→St→Prop,(∀ a s,I (j+1) a s→Ψ .normal a s)→cR q X K r S a s Ψ)
  (hE:∀ a s,I n a s→Φ (.exit e) a s) {j0:Nat} {a:aK} {s:St} (hj:j0≤n) (h0:I j0 a s) :
  cR q X K r (.loop (.seq G (.seq (.cond c .skip (.exit e)) (.seq (.block b body) S)))) a s Φ:=by
 refine cR.loop (fun k a s=>∃ j,k=n-j∧j≤n∧I j a s) ?_ (n-j0) ⟨j0,rfl,hj,h0⟩;rintro k a s ⟨j,rfl,hj,hI⟩;refine aA fun Ψ2 h2 h2'=>?_;refine hG j a s hj hI _ fun a' s' bb hb hbb hI'=>h2 _ _ ?_;refine aA fun Ψ1 h1 h1'=>?_;rw[RK];refine⟨bb,hb,?_⟩;by_cases cD:j<n
 ·rw[if_pos (hbb.2 cD),MK];refine h1 _ _ ?_;refine aA fun Ψ3 h3 h3'=>?_;refine cJ fun Ψ4 h4 h4e h4'=>?_;have done:∀ a s,J j a s→Ψ3 .normal a s:=fun a s hJ=>h3 _ _ (hS j a s cD hJ _ fun a s hI=>⟨n-(j+1),by omega,j+1,rfl,cD,hI⟩);refine hB j a' s' cD hI' Ψ4 (fun a s hJ=>h4 _ _ (done a s hJ)) (fun a s hJ=>h4e _ _ (done a s hJ)) fun e' a s hn hb hΦ=>h4' _ _ _ hn hb (h3' _ _ _ hn ?_);cases e' with
  | normal=>exact absurd rfl hn
  | _=>exact hΦ
 ·obtain rfl:j=n:=by omega
  rw[if_neg (fun h=>cD (hbb.1 h)),MI];exact h1' _ _ _ (by simp) (hE _ _ hI')
structure Ok (s:St):Prop where
 wf:s.wf
 fresh:s.fresh
theorem Ok.skip {s:St} (h:Ok s) (n:Nat):Ok (s.skip n):=⟨h.wf,fun b hb=>h.fresh b (Nat.le_trans (Nat.le_add_right _ _) hb)⟩
structure aC (F:List Nat) (s s':St):Prop where
 dE:∀ b o,s.heap.get b=some o→b∉F→s'.heap.get b=some o
 low:∀ b o,s'.heap.get b=some o→(∃ o0,s.heap.get b=some o0)∨s.next≤b
 ok:Ok s'
 next:s.next≤s'.next
namespace aC
variable {F G:List Nat} {a b c s s':St}
theorem refl (h:Ok s):aC F s s:=⟨fun _ _ h _=>h,fun _ o h=>.inl ⟨o,h⟩,h,Nat.le_refl _⟩
theorem skip (h:Ok s) (n:Nat):aC F s (s.skip n):=⟨fun _ _ h _=>h,fun _ o h=>.inl ⟨o,h⟩,h.skip n,Nat.le_add_right _ _⟩
theorem step (h:aC F a b) (k:aC G b c) (hG:∀ g∈G,g∈F∨a.heap.get g=none):aC F a c:=by
 refine⟨fun x o hx hF=>k.dE x o (h.dE x o hx hF) fun hg=>?_,fun x o hx=>?_,k.ok,Nat.le_trans h.next k.next⟩
 ·rcases hG x hg with h1 | h1
  ·exact hF h1
  ·rw[h1] at hx;cases hx
 ·rcases k.low x o hx with ⟨o0,h0⟩ | h0
  ·exact h.low x o0 h0
  ·exact .inr (Nat.le_trans h.next h0)
theorem trans (h:aC F a b) (k:aC F b c):aC F a c:=h.step k fun _ hg=>.inl hg
theorem kI (h:aC F a b) (n:Nat):aC F a (b.skip n):=h.trans (.skip h.ok n)
theorem mono (h:aC F s s') (hF:∀ x∈F,x∈G):aC G s s':=⟨fun x o hx hg=>h.dE x o hx fun hf=>hg (hF x hf),h.low,h.ok,h.next⟩
theorem any (h:aC [] s s'):aC G s s':=h.mono fun _ hx=>by cases hx
end aC
theorem Ok.put {s:St} (h:Ok s) {x:Nat} {f:Nat→bW} (hx:x<s.next) (hf:(f s.aR).cX=true∨(f s.aR).bB≤s.aR):Ok (s.put x f):=by
 refine⟨fun b o hb hd=>?_,fun b hb=>?_⟩
 ·simp only[St.put,PT.fH] at hb ⊢;split at hb
  ·cases hb;rcases hf with hf | hf
   ·rw[hf] at hd;cases hd
   ·exact Nat.lt_succ_of_le hf
  ·exact Nat.lt_succ_of_lt (h.wf b o hb hd)
 ·have hb':s.next≤b:=hb;simp only[St.put,PT.fH];rw[if_neg (by omega)];exact h.fresh b hb'
theorem Ok.lt {s:St} (h:Ok s) {b:Nat} {o:bW} (hb:s.heap.get b=some o):b<s.next:=by
 rcases Nat.lt_or_ge b s.next with h1 | h1
 ·exact h1
 ·rw[h.fresh b h1] at hb;cases hb
theorem aC.CE {F:List Nat} {s:St} (h:Ok s) {x:Nat} {o:bW} {f:Nat→bW} (hx:s.heap.get x=some o) (hf:(f s.aR).cX=true∨(f s.aR).bB≤s.aR) (hF:x∈F):aC F s (s.put x f):=by
 refine⟨fun b o' hb hn=>?_,fun b o' hb=>?_,h.put (h.lt hx) hf,Nat.le_refl _⟩
 ·simp only[St.put,PT.fH];rw[if_neg fun e=>hn (by rw[e];exact hF)];exact hb
 ·simp only[St.put,PT.fH] at hb;split at hb
  ·rename_i e;subst e;exact .inl ⟨o,hx⟩
  ·exact .inl ⟨o',hb⟩
theorem aC.ZR {F:List Nat} {a s:St} (k:aC F a s) {x:Nat} {f:Nat→bW} (hx:s.heap.get x=none) (cD:x<s.next) (hge:a.next≤x) (hf:(f s.aR).cX=true∨(f s.aR).bB≤s.aR):aC F a (s.put x f):=by
 refine⟨fun b o' hb hn=>?_,fun b o' hb=>?_,k.ok.put cD hf,k.next⟩
 ·have hb':=k.dE b o' hb hn;simp only[St.put,PT.fH];rw[if_neg fun e=>by subst e;rw[hx] at hb';cases hb'];exact hb'
 ·simp only[St.put,PT.fH] at hb;split at hb
  ·rename_i e;subst e;exact .inr hge
  ·exact k.low b o' hb
theorem aC.new {F:List Nat} {a s:St} (k:aC F a s) {f:Nat→bW} (hf:(f s.aR).cX=true∨(f s.aR).bB≤s.aR):aC F a (s.new f):=by
 have h:=(k.kI 2).ZR (x:=s.next) (f:=f) (k.ok.fresh _ (Nat.le_refl _)) (by show s.next<s.next+2;omega) k.next hf;exact h
theorem aC.none {F:List Nat} {s s':St} (k:aC F s s') {x:Nat} (hx:s.heap.get x=Option.none) (cD:x<s.next):s'.heap.get x=Option.none:=by
 cases h:s'.heap.get x with
 | none=>rfl
 | some o =>
  rcases k.low x o h with ⟨o0,h0⟩ | h0
  ·rw[hx] at h0;cases h0
  ·omega
def Cells (s:St) (b:Nat) (e:TypeId) (L:List Value):Prop:=∃ c z room bB,s.heap.get b=some (.cells c z L.length e room false bB)∧∀ i,i<L.length→cellAt c z L.length i=L[i]?
theorem Cells.aD {F:List Nat} {s s':St} {b:Nat} {e:TypeId} {L:List Value} (h:Cells s b e L) (k:aC F s s') (hb:b∉F):Cells s' b e L:=by
 obtain⟨c,z,room,bB,h1,h2⟩:=h;exact⟨c,z,room,bB,k.dE _ _ h1 hb,h2⟩
theorem Cells.lt {s:St} {b:Nat} {e:TypeId} {L:List Value} (h:Cells s b e L) (hs:Ok s):b<s.next:=by
 obtain⟨c,z,room,bB,h1,h2⟩:=h;exact hs.lt h1
theorem fO {s s':St}:uH [] s s':=fun _ h=>by cases h
theorem eP {s s':St} {b:Nat} {l:List Nat} (h:fJ s s' b=true) (hl:uH l s s'):uH (b::l) s s':=fun x hx=>by
 rcases List.mem_cons.1 hx with rfl | hx
 ·exact h
 ·exact hl x hx
theorem MY {F:List Nat} {s s':St} {b:Nat} {o:bW} (h1:s.heap.get b=some o) (h2:o.cX=false) (hs:Ok s) (k:aC F s s') (hb:b∉F):fJ s s' b=true:=by
 simp only[fJ,h1,k.dE _ _ h1 hb,h2,Bool.not_false,beq_self_eq_true,Bool.and_self,Bool.true_and,decide_eq_true_eq];exact hs.wf b _ h1 h2
theorem Cells.same {F:List Nat} {s s':St} {b:Nat} {e:TypeId} {L:List Value} (h:Cells s b e L) (hs:Ok s) (k:aC F s s') (hb:b∉F):fJ s s' b=true:=by
 obtain⟨c,z,room,bB,h1,h2⟩:=h;exact MY h1 rfl hs k hb
theorem Cells.load {s:St} {b:Nat} {e:TypeId} {L:List Value} {i:Nat} {v:Value} (h:Cells s b e L) (hi:L[i]?=some v):aG s.look ⟨b,i,none⟩=some v:=by
 obtain⟨c,z,room,bB,h1,h2⟩:=h;simp only[aG,St.look,h1];rw[h2 i (List.getElem?_eq_some_iff.1 hi).1,hi]
theorem ZV {c:PT Value} {z:List Value} {n:Nat}:∀ (k i:Nat) (L:List Value),L.length=k→(∀ j,j<k→cellAt c z n (i+j)=L[j]?)→qT c z n i k=some L
 | 0,i,L,hL,_=>by
  have:L=[]:=List.length_eq_zero_iff.1 hL;subst this;rfl
 | k+1,i,v::L,hL,h=>by
  have h0:=h 0 (Nat.succ_pos k);have h1:=ZV (c:=c) (z:=z) (n:=n) k (i+1) L (by simpa using hL) fun j hj=>by
   have:=h (j+1) (Nat.succ_lt_succ hj);rw[show i+1+j=i+(j+1) from by omega,this];rfl
  rw[Nat.add_zero] at h0;simp only[qT,h0,h1,List.getElem?_cons_zero]
theorem Cells.bI {s:St} {b:Nat} {e:TypeId} {L:List Value} {i k:Nat} (h:Cells s b e L) (hi:i+k≤L.length):bI s.look ⟨b,i,none⟩ k=some ((L.drop i).take k):=by
 obtain⟨c,z,room,bB,h1,h2⟩:=h;simp only[Dust.bI,St.look,h1];refine ZV k i _ (by simp;omega) fun j hj=>?_;rw[h2 _ (by omega),List.getElem?_take_of_lt hj,List.getElem?_drop]
def uX (L:List Value) (i:Nat) (vs:List Value):List Value:=L.take i++vs++L.drop (i+vs.length)
theorem JB {L vs:List Value} {i:Nat} (h:i+vs.length≤L.length):(uX L i vs).length=L.length:=by
 simp only[uX,List.length_append,List.length_take,List.length_drop];omega
theorem JA {L vs:List Value} {i:Nat} (h:i+vs.length≤L.length) (j:Nat):(uX L i vs)[j]?=if i≤j∧j<i+vs.length then vs[j-i]? else L[j]?:=by
 unfold uX;have hi:(L.take i).length=i:=by rw[List.length_take];omega
 by_cases h1:i≤j
 ·by_cases h2:j<i+vs.length
  ·rw[if_pos ⟨h1,h2⟩,List.getElem?_append_left (by rw[List.length_append];omega),List.getElem?_append_right (by omega),hi]
  ·rw[if_neg (by omega),List.getElem?_append_right (by rw[List.length_append];omega),List.length_append,hi,List.getElem?_drop];congr 1;omega
 ·rw[if_neg (by omega),List.getElem?_append_left (by rw[List.length_append];omega),List.getElem?_append_left (by omega),List.getElem?_take_of_lt (by omega)]
theorem Qg {L:List Value} {i:Nat} {v:Value} (h:i<L.length):uX L i [v]=L.set i v:=by
 apply List.ext_getElem?;intro j;rw[JA (by simp;omega)];rw[List.getElem?_set];simp only[List.length_singleton];by_cases h1:i=j
 ·subst h1;simp[h]
 ·rw[if_neg (by omega),if_neg h1]
theorem Cells.store {s:St} {b:Nat} {e:TypeId} {L vs:List Value} {i:Nat} (h:Cells s b e L) (hs:Ok s) (hi:i+vs.length≤L.length) (h1:vs.all hZ=true) :
  ∃ s',dS s ⟨b,i,none⟩ vs=some s'∧Cells s' b e (uX L i vs)∧aC [b] s s':=by
 obtain⟨c,z,room,bB,hb,hc⟩:=h;refine⟨_,by simp only[dS,hb];rw[if_pos ⟨hi,h1⟩],⟨c.CL i vs,z,room,s.aR,?_,fun j hj=>?_⟩,.CE hs hb (.inr (Nat.le_refl _)) (List.mem_singleton.2 rfl)⟩
 ·simp only[St.put,PT.fH,if_true,JB hi]
 ·rw[JB hi] at hj ⊢;rw[JA hi];unfold cellAt;rw[if_pos hj,PT.GN];have hold:=hc j hj;unfold cellAt at hold;rw[if_pos hj] at hold;by_cases h2:i≤j
  ·rw[if_pos h2];by_cases h3:j<i+vs.length
   ·rw[if_pos ⟨h2,h3⟩,List.getElem?_eq_getElem (by omega)]
   ·rw[if_neg (by omega),List.getElem?_eq_none (by omega)];exact hold
  ·rw[if_neg h2,if_neg (by omega)];exact hold
theorem Cells.fK {s:St} {b:Nat} {e:TypeId} {L:List Value} {i:Nat} {v:Value} (h:Cells s b e L) (hs:Ok s) (hi:i<L.length) (h1:hZ v=true) :
  ∃ s',dS s ⟨b,i,none⟩ [v]=some s'∧Cells s' b e (L.set i v)∧aC [b] s s':=by
 have:=h.store hs (i:=i) (vs:=[v]) (by simp;omega) (by simp[h1]);rw[Qg hi] at this;exact this
theorem Cells.kC {s:St} {x:Nat} {e:TypeId} {L:List Value} {room:Bool}:Cells (s.put x fun v=>.cells (PT.ofList L) [] L.length e room false v) x e L:=by
 refine⟨PT.ofList L,[],room,s.aR,by simp only[St.put,PT.fH,if_true],fun i hi=>?_⟩;unfold cellAt;rw[if_pos hi,PT.sP,List.getElem?_eq_getElem hi]
theorem Cells.tU {s:St} {e:TypeId} {L:List Value} {room:Bool}:Cells (s.new fun v=>.cells (PT.ofList L) [] L.length e room false v) s.next e L:=Cells.kC (s:=s)
theorem Cells.uR {s:St} {x:Nat} {e:TypeId} {z:List Value} {n:Nat}:Cells (s.put x fun v=>.cells .nil z (n*z.length) e false false v) x e ((List.range (n*z.length)).map fun i=>z.getD (i%z.length) undef):=by
 refine⟨.nil,z,false,s.aR,by simp only[St.put,PT.fH,if_true,List.length_map,List.length_range],fun i hi=>?_⟩;rw[List.length_map,List.length_range] at hi ⊢;unfold cellAt;rw[if_pos hi,PT.get_nil,List.getElem?_map,List.getElem?_range hi];rfl
theorem YL {X:Env} {nm:Nat} {t e B N:Nat} {n m:Int} {z:Value} (hd:((X.ty t).map fun i=>i.desc)=some (.slice e)) (he:((X.ty e).map fun i=>(i.bytes,i.size,i.zero))=some (B,N,some z))
  (h5:z.cells.size=N) (h1:0≤n) (h2:n≤m) (h3:m<2 ^ 40) (h4:(B:Int)*m≤2 ^ 48) :
  sT X nm t (.int .i64 n) (.int .i64 m)=some (.slice (some ⟨nm,0,none⟩) n.toNat m.toNat,fun v=>.cells .nil z.cells.toList (m.toNat*N) e false false v):=by
 cases hi:X.ty t with
 | none=>rw[hi] at hd;cases hd
 | some i =>
  cases hj:X.ty e with
  | none=>rw[hj] at he;cases he
  | some j =>
   rw[hi] at hd;rw[hj] at he;obtain⟨d,sz,bs,zz,ag,ms,cm⟩:=i;obtain⟨d',sz',bs',zz',ag',ms',cm'⟩:=j;simp only[Option.map_some,Option.some.injEq,Prod.mk.injEq] at hd he;subst hd;obtain⟨rfl,rfl,rfl⟩:=he;simp only[sT,hi,hj];rw[if_pos ⟨h1,h2,h3,h4,h5⟩]
theorem tk {X:Env} {H:bL} {t e N b off n c l h:Nat} (hd:((X.ty t).map fun i=>i.desc)=some (.slice e)) (he:((X.ty e).map fun i=>i.size)=some N)
  (ho:∃ c z n e room ro bB,H b=some (.cells c z n e room ro bB)) (h1:l≤h) (h2:h≤c) (h3:l<c) :
  mM X H t (.slice (some ⟨b,off,none⟩) n c) (some (.int .i64 l)) (some (.int .i64 h)) none=some (.slice (some ⟨b,off+l*N,none⟩) (h-l) (c-l)):=by
 obtain⟨cc,z,m,e0,room,ro,bB,ho⟩:=ho;cases hi:X.ty t with
 | none=>rw[hi] at hd;cases hd
 | some i =>
  cases hj:X.ty e with
  | none=>rw[hj] at he;cases he
  | some j =>
   rw[hi] at hd;rw[hj] at he;obtain⟨d,sz,bs,zz,ag,ms,cm⟩:=i;simp only[Option.map_some,Option.some.injEq] at hd he;subst hd;have hb:qF n c (some (l:Int)) (some (h:Int))=some (l,h):=by
    unfold qF;simp only;rw[if_pos (by omega)];simp only[Int.toNat_natCast];rw[if_pos (by omega)]
   simp only[mM,hi,hj,qO,hb,ho];rw[if_pos ⟨h1,h2⟩,if_neg (by omega),bQ,he]
theorem Xn {X:Env} {s s':St} {t e b off n c:Nat} {z:Value} (hd:((X.ty t).map fun i=>i.desc)=some (.slice e)) (he:((X.ty e).map fun i=>i.zero)=some (some z)) (hn:n≠0)
  (hs:dS s ⟨b,off,none⟩ (rep z.cells.toList n)=some s'):zG X s #[t] [.slice (some ⟨b,off,none⟩) n c]=some (.tuple #[],s'):=by
 cases hi:X.ty t with
 | none=>rw[hi] at hd;cases hd
 | some i =>
  cases hj:X.ty e with
  | none=>rw[hj] at he;cases he
  | some j =>
   rw[hi] at hd;rw[hj] at he;obtain⟨d,sz,bs,zz,ag,ms,cm⟩:=i;obtain⟨d',sz',bs',zz',ag',ms',cm'⟩:=j;simp only[Option.map_some,Option.some.injEq] at hd he;subst hd;subst he;simp only[zG,List.getElem?_toArray,List.getElem?_cons_zero,hi];rw[if_neg hn];simp only[hj,hs]
inductive Sl (s:St) (m:Nat):Value→List Value→Prop
 | nil (a:Option Addr) (c:Nat):Sl s m (.slice a 0 c) []
 | cells {b off n c:Nat} {L:List Value} (hL:L.length=n*m) (hl:∀ i,i<L.length→aG s.look ⟨b,off+i,none⟩=L[i]?):Sl s m (.slice (some ⟨b,off,none⟩) n c) L
theorem mI {F:List Nat} {s s':St} {a:Addr} {v:Value} (k:aC F s s') (ha:a.block∉F) (h:aG s.look a=some v):aG s'.look a=some v:=by
 rcases a with ⟨b,off,sp⟩;unfold aG at h ⊢;simp only[St.look] at h ⊢;cases ho:s.heap.get b with
 | none=>rw[ho] at h;cases sp <;> cases h
 | some o=>rw[ho] at h;rw[k.dE _ _ ho ha];exact h
theorem CK {F:List Nat} {s s':St} {a:Addr} {v:Value} (h:aG s.look a=some v) (hs:Ok s) (k:aC F s s') (ha:a.block∉F):fJ s s' a.block=true:=by
 obtain⟨o,h1,h2⟩:=Iw h;exact MY h1 h2 hs k ha
theorem Sl.aD {F:List Nat} {s s':St} {m:Nat} {v:Value} {L:List Value} (h:Sl s m v L) (k:aC F s s') (hb:∀ b∈nameOf v,b∉F):Sl s' m v L:=by
 cases h with
 | nil a c=>exact .nil a c
 | cells hL hl =>
  refine .cells hL fun i hi=>?_;have:=hl i hi;rw[List.getElem?_eq_getElem hi] at this ⊢;exact mI k (hb _ (by simp[nameOf])) this
theorem Sl.Li {s:St} {b off n c m:Nat} {e:TypeId} {L:List Value} (h:Cells s b e L) (hn:off+n*m≤L.length):Sl s m (.slice (some ⟨b,off,none⟩) n c) ((L.drop off).take (n*m)):=by
 refine .cells (by simp;omega) fun i hi=>?_;have hi':i<n*m:=by simp at hi;omega
 rw[List.getElem?_take_of_lt hi',List.getElem?_drop];rw[List.getElem?_eq_getElem (by omega)];exact h.load (List.getElem?_eq_getElem (by omega))
theorem Sl.len {s:St} {m n c:Nat} {a:Option Addr} {L:List Value} (h:Sl s m (.slice a n c) L):L.length=n*m:=by
 cases h with
 | nil=>simp
 | cells hL _=>exact hL
theorem Sl.addr {s:St} {m n c:Nat} {a:Option Addr} {L:List Value} (h:Sl s m (.slice a n c) L) (hn:0<n):∃ b off,a=some ⟨b,off,none⟩:=by
 cases h with
 | nil=>omega
 | cells=>exact⟨_,_,rfl⟩
theorem Sl.load {s:St} {m n c b off i:Nat} {L:List Value} {v:Value} (h:Sl s m (.slice (some ⟨b,off,none⟩) n c) L) (hi:L[i]?=some v):aG s.look ⟨b,off+i,none⟩=some v:=by
 cases h with
 | nil=>cases hi
 | cells hL hl=>rw[hl i (List.getElem?_eq_some_iff.1 hi).1,hi]
theorem pw {H:bL} {b:Nat}:∀ {k off:Nat} {L:List Value},0<k→L.length=k→(∀ i,i<k→aG H ⟨b,off+i,none⟩=L[i]?)→bI H ⟨b,off,none⟩ k=some L:=by
 intro k off L hk hL h;have h0:=h 0 hk;unfold aG at h0;unfold bI;simp only at h0 ⊢;cases hb:H b with
 | none=>rw[hb,List.getElem?_eq_getElem (by omega)] at h0;cases h0
 | some o =>
  cases o with
  | cells c z n e room ro bB =>
   simp only;refine ZV k off L hL fun j hj=>?_;have:=h j hj;unfold aG at this;rw[hb] at this;exact this
  | _=>rw[hb,List.getElem?_eq_getElem (by omega)] at h0;cases h0
theorem Sl.bI {s:St} {m n c b off i k:Nat} {L:List Value} (h:Sl s m (.slice (some ⟨b,off,none⟩) n c) L) (hk:0<k) (hi:i+k≤L.length):bI s.look ⟨b,off+i,none⟩ k=some ((L.drop i).take k):=by
 refine pw hk (by simp;omega) fun j hj=>?_;rw[List.getElem?_take_of_lt hj,List.getElem?_drop,List.getElem?_eq_getElem (by omega),Nat.add_assoc];exact h.load (List.getElem?_eq_getElem (by omega))
inductive bJ (s:St) (e:TypeId) (m:Nat):Value→List Value→Prop
 | nil:bJ s e m (.slice none 0 0) []
 | own {b off n cap:Nat} {L0 L:List Value} (h:Cells s b e L0) (hc:off+cap*m≤L0.length) (hn:n≤cap) (hL:L.length=n*m) (hl:∀ i,i<L.length→L0[off+i]?=L[i]?) :
   bJ s e m (.slice (some ⟨b,off,none⟩) n cap) L
theorem bJ.sl {s:St} {e:TypeId} {m:Nat} {v:Value} {L:List Value} (h:bJ s e m v L):Sl s m v L:=by
 cases h with
 | nil=>exact .nil _ _
 | own h hc hn hL hl =>
  refine .cells hL fun i hi=>?_;have:=hl i hi;rw[List.getElem?_eq_getElem hi] at this ⊢;exact h.load this
theorem bJ.aD {F:List Nat} {s s':St} {e:TypeId} {m:Nat} {v:Value} {L:List Value} (h:bJ s e m v L) (k:aC F s s') (hb:∀ b∈nameOf v,b∉F):bJ s' e m v L:=by
 cases h with
 | nil=>exact .nil
 | own h hc hn hL hl=>exact .own (h.aD k (hb _ (by simp[nameOf]))) hc hn hL hl
theorem bJ.lt {s:St} {e:TypeId} {m:Nat} {v:Value} {L:List Value} (h:bJ s e m v L) (hs:Ok s):∀ b∈nameOf v,b<s.next:=by
 cases h with
 | nil=>intro b hb;cases hb
 | own h _ _ _ _ =>
  intro b hb;simp only[nameOf,List.mem_singleton] at hb;subst hb;exact h.lt hs
theorem bJ.append {s:St} {e:TypeId} {m len cap k:Nat} {a:Option Addr} {L new:List Value} (h:bJ s e m (.slice a len cap) L) (hs:Ok s) (hm:0<m) (hn:new.length=k*m) (h1:new.all hZ=true) :
  ∃ v s',sI s e m a len cap k new=some (v,s')∧bJ s' e m v (L++new)∧aC (nameOf (.slice a len cap)) s s'∧(∀ b∈nameOf v,b∈nameOf (.slice a len cap)∨s.next≤b)∧(∃ a' c',v=.slice a' (len+k) c'):=by
 cases h with
 | nil =>
  by_cases hk:k=0
  ·subst hk;have:new=[]:=List.length_eq_zero_iff.1 (by omega);subst this;exact⟨_,s,by simp[sI],.nil,.refl hs,by simp[nameOf],_,_,rfl⟩
  ·refine⟨.slice (some ⟨s.next,0,none⟩) (0+k) (0+k),s.new fun v=>.cells (PT.ofList new) [] ((0+k)*m) e true false v,?_,?_,?_,?_,_,_,rfl⟩
   ·unfold sI;rw[if_neg (by omega)];rfl
   ·have hc:=Cells.tU (s:=s) (e:=e) (L:=new) (room:=true);rw[hn] at hc;rw[Nat.zero_add];exact .own hc (by omega) (Nat.le_refl _) (by simpa using hn) (fun i hi=>by simp)
   ·exact(aC.refl hs).new (.inr (Nat.le_refl _))
   ·intro b hb;simp only[nameOf,List.mem_singleton] at hb;exact .inr (by omega)
 | @own b off _ _ L0 _ h hc hnc hL hl =>
  by_cases hfit:len+k≤cap
  ·by_cases hk:k=0
   ·subst hk;have:new=[]:=List.length_eq_zero_iff.1 (by omega);subst this;refine⟨_,s,by unfold sI;rw[if_pos hfit];rfl,?_,.refl hs,fun b hb=>.inl hb,_,_,rfl⟩;rw[List.append_nil];exact .own h hc hnc hL hl
   ·have hmul:len*m+k*m≤cap*m:=by rw[← Nat.add_mul];exact Nat.mul_le_mul_right m hfit
    obtain⟨s',h2,h3,h4⟩:=h.store hs (i:=off+len*m) (vs:=new) (by omega) h1;refine⟨.slice (some ⟨b,off,none⟩) (len+k) cap,s',?_,?_,h4,fun b hb=>.inl hb,_,_,rfl⟩
    ·unfold sI;rw[if_pos hfit];have:new.isEmpty=false:=by
      cases new with
      | nil =>
       have:=Nat.mul_pos (Nat.pos_of_ne_zero hk) hm;simp at hn;omega
      | cons=>rfl
     simp only[this,bQ,h2];rfl
    ·refine .own h3 (by rw[JB (by omega)];exact hc) hfit (by rw[List.length_append,hL,hn,Nat.add_mul]) fun i hi=>?_;rw[List.length_append,hL,hn] at hi;rw[JA (by omega)];by_cases cD:i<len*m
     ·rw[if_neg (by omega),List.getElem?_append_left (by omega)];exact hl i (by omega)
     ·rw[if_pos (by omega),List.getElem?_append_right (by omega)];congr 1;omega
  ·obtain⟨c,z,room,bB,hb,hcell⟩:=h;have hk:0<k:=by omega
   have hmul:len*m≤cap*m:=Nat.mul_le_mul_right m hnc;have hin:inBlock ⟨b,off,none⟩ len cap m L0.length=true:=by simp[inBlock];omega
   have hold:∀ i,i<len*m→cellAt c z L0.length (off+i)=L[i]?:=fun i hi=>by rw[hcell _ (by omega)];exact hl i (by omega)
   have hks:aC [b] s (if room=true then s.kill b else s)∧(if room=true then s.kill b else s).next=s.next:=by
    cases room with
    | false=>exact⟨.refl hs,rfl⟩
    | true=>exact⟨aC.CE (f:=fun _=>.dead) hs hb (.inl rfl) (List.mem_singleton.2 rfl),rfl⟩
   obtain⟨c',z',hg,hc'⟩:∃ c' z',KX c z L0.length ⟨b,off,none⟩ (len*m) new=some (c',z')∧∀ i,i<(L++new).length→cellAt c' z' ((len+k)*m) i=(L++new)[i]?:=by
    have hlen:(L++new).length=(len+k)*m:=by rw[List.length_append,hL,hn,Nat.add_mul]
    unfold KX;by_cases h0:len*m=0
    ·refine⟨_,_,by rw[if_pos h0],fun i hi=>?_⟩;have hLn:L=[]:=List.length_eq_zero_iff.1 (by omega);subst hLn;rw[hlen] at hi;rw[List.nil_append];unfold cellAt;rw[if_pos hi,PT.sP];have:i<new.length:=by rw[hn];rw[Nat.add_mul] at hi;omega
     rw[List.getElem?_eq_getElem this]
    ·by_cases ho:off=0
     ·subst ho;refine⟨c.CL (len*m) new,z,by rw[if_neg h0];simp;omega,fun i hi=>?_⟩;rw[hlen] at hi;unfold cellAt;rw[if_pos hi,PT.GN];by_cases h2:len*m≤i
      ·rw[if_pos h2,List.getElem?_append_right (by omega),hL,List.getElem?_eq_getElem (by rw[hn];rw[Nat.add_mul] at hi;omega)]
      ·rw[if_neg h2,List.getElem?_append_left (by omega)];have:=hold i (by omega);unfold cellAt at this;rw[if_pos (by omega),Nat.zero_add] at this;exact this
     ·have hr:qT c z L0.length off (len*m)=some L:=ZV _ _ _ hL hold;refine⟨PT.ofList (L++new),[],by rw[if_neg h0];simp only[ho,if_false,hr],fun i hi=>?_⟩;unfold cellAt;rw[if_pos (by rw[← hlen];exact hi),PT.sP,List.getElem?_eq_getElem hi]
   have hlen:(L++new).length=(len+k)*m:=by rw[List.length_append,hL,hn,Nat.add_mul]
   refine⟨.slice (some ⟨(if room=true then s.kill b else s).next,0,none⟩) (len+k) (len+k),(if room=true then s.kill b else s).new fun v=>.cells c' z' ((len+k)*m) e true false v,?_,?_,?_,?_,_,_,rfl⟩
   ·unfold sI;rw[if_neg hfit];simp only[hb];rw[if_pos ⟨trivial,hin⟩,hg,hks.2]
   ·refine .own (L0:=L++new) ⟨c',z',true,(if room=true then s.kill b else s).aR,?_,?_⟩ (by rw[hlen];omega) (Nat.le_refl _) hlen (fun i _=>by rw[Nat.zero_add])
    ·rw[hlen];simp only[St.new,PT.fH,if_true]
    ·rw[hlen];intro i hi;exact hc' i (by rw[hlen];exact hi)
   ·exact hks.1.new (.inr (Nat.le_refl _))
   ·intro x hx;simp only[nameOf,List.mem_singleton] at hx;exact .inr (by rw[hx,hks.2];exact Nat.le_refl _)
end Go.Dust
