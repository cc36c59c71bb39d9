/- The plain interpreter D and its laws (Ei). -/
import Derived.Test.YtaoiejcaopgjcaaGreatN
set_option linter.unusedVariables false
set_option linter.unusedSimpArgs false
namespace Go.Dust
theorem qJ (a:Addr):mT (.pointer (some a))=some (.pointer (some a)):=rfl
theorem xM (k:IntKind) (n:Int):(Value.int k n).cells=#[.int k n]:=rfl
theorem tY (b:Bool):(Value.bool b).cells=#[.bool b]:=rfl
theorem xO (p:Option Addr):(Value.pointer p).cells=#[.pointer p]:=rfl
theorem rZ (p:Option Addr) (n c:Nat):(Value.slice p n c).cells=#[.slice p n c]:=rfl
theorem xN (p:Option Nat):(Value.map p).cells=#[.map p]:=rfl
theorem xQ (x:ByteArray):(Value.string x).cells=#[.string x]:=rfl
theorem tZ (f:Fn) (x y:Array Value):(Value.func f x y).cells=#[.func f x y]:=rfl
theorem xL (cs:Array Value):(Value.agg cs).cells=cs:=rfl
theorem CH (b o:Nat) (sp:Option Nat):nameOf (.pointer (some ⟨b,o,sp⟩))=[b]:=rfl
theorem QH (k:IntKind) (n:Int) (y:Value):kB (.int k n) y=false:=rfl
theorem QJ (p:Option Addr) (y:Value):kB (.pointer p) y=false:=rfl
theorem HG (b:Bool) (y:Value):kB (.bool b) y=false:=rfl
theorem QK (x:ByteArray) (y:Value):kB (.string x) y=false:=rfl
theorem QG (cs:Array Value) (y:Value):kB (.agg cs) y=false:=rfl
theorem BE (p:Option Addr) (n c:Nat) (y:Value):kB (.slice p n c) y=false:=rfl
theorem QI (p:Option Nat) (y:Value):kB (.map p) y=false:=rfl
theorem XD {X:Env} (H:aY) (a:bD) (t:Tmp) (ty:TypeId) (rest:List ResultVar):results1 X H a (.cell t ty::rest)=match CC X H ty (a.aD t),results1 X H a rest with
  | some v,some l=>some (v::l)
  | _,_=>none:=by
 rw[results1]
 cases h:a.aD t with
 | pointer p =>
  cases p with
  | none=>rfl
  | some ad =>
   simp only[CC]
   cases loadT X H ty ad <;> cases results1 X H a rest <;> rfl
 | _=>rfl
theorem eval_func (a:bD) (f:FuncId):a.eval (.func f)=.func (.func f) #[] #[]:=rfl
theorem eval_global (a:bD) (g:Nat):a.eval (.global g)=.pointer (some ⟨2*g,0,none⟩):=rfl
theorem yF:nameOf (.pointer none)=[]:=rfl
theorem CF (k:IntKind) (n:Int):nameOf (.int k n)=[]:=rfl
theorem yE (b:Bool):nameOf (.bool b)=[]:=rfl
theorem uM (b o:Nat) (sp:Option Nat) (n c:Nat):nameOf (.slice (some ⟨b,o,sp⟩) n c)=[b]:=rfl
theorem CG (r:Nat):nameOf (.map (some r))=[r]:=rfl
theorem An {p q:Prop} (a:p) (b:q):p∧q:=⟨a,b⟩
theorem RC:type_of% (An @SD (An @AO (An @ig (An @bE (An @wO (An @wM (@EB))))))) :=
 An @SD (An @AO (An @ig (An @bE (An @wO (An @wM (@EB))))))
theorem RO:type_of% (An @iu (An @OQ (An @yk (An @WJ (An @o_box (An @KG (An @jj (An @LH (An @zo (An @OX (An @jn (An @GC (An @jl (An @GD (An @jm (An @XO (An @vL (An @CY (An @jk (An @s_len (An @s_max (An @s_min (An @zl (An @ji (An @zm (An @OY (An @jo (An @GF (An @XN (An @s_bs (An @s_mks (@s_mm)))))))))))))))))))))))))))))))) :=
 An @iu (An @OQ (An @yk (An @WJ (An @o_box (An @KG (An @jj (An @LH (An @zo (An @OX (An @jn (An @GC (An @jl (An @GD (An @jm (An @XO (An @vL (An @CY (An @jk (An @s_len (An @s_max (An @s_min (An @zl (An @ji (An @zm (An @OY (An @jo (An @GF (An @XN (An @s_bs (An @s_mks (@s_mm)))))))))))))))))))))))))))))))
theorem RD:type_of% (An @d_nil (An @ff (An @te (An @UL (An @d_box (An @IU (An @jt (An @LV (An @aA8 (An @PF (An @jx (An @GO (An @jv (An @GP (An @jw (An @XW (An @vM (An @DD (An @ju (An @t_len (An @t_max (An @t_min (An @aA6 (An @js (An @aA7 (An @PG (An @jy (An @GQ (An @XV (An @t_bs (An @t_mks (@t_mm)))))))))))))))))))))))))))))))) :=
 An @d_nil (An @ff (An @te (An @UL (An @d_box (An @IU (An @jt (An @LV (An @aA8 (An @PF (An @jx (An @GO (An @jv (An @GP (An @jw (An @XW (An @vM (An @DD (An @ju (An @t_len (An @t_max (An @t_min (An @aA6 (An @js (An @aA7 (An @PG (An @jy (An @GQ (An @XV (An @t_bs (An @t_mks (@t_mm)))))))))))))))))))))))))))))))
theorem RV:type_of% (An @OK (An @du (An @KR (An @YA (An @LS (An @TK (An @TJ (An @isSome_some (An @getD_some (An @BX (An @xZ (An @VO (An @OF (An @gk (An @VP (An @yH (An @SA (An @SB (An @xS (An @wA (An @qU (An @xY (An @qJ (An @xM (An @tY (An @xO (An @rZ (An @xN (An @xL (An @xQ (An @tZ (An @QH (An @QJ (An @HG (An @QK (An @QG (An @BE (An @QI (An @CH (An @CF (An @yE (An @yF (An @uM (An @CG (An @US (An @eval_const (An @eval_func (An @eval_global (An @ja (An @WW (An @OB (An @FB (An @aAh (An @aAi (An @yH (An @SA (An @SB (An @xS (An @wA (An @qU (An @xY (An @BX (An @xZ (An @qJ (An @xM (An @tY (An @xO (An @rZ (An @xN (An @xL (An @xQ (An @tZ (An @QH (An @QJ (An @HG (An @QK (An @QG (An @BE (An @QI (An @CH (An @CF (An @yE (An @yF (An @uM (@CG))))))))))))))))))))))))))))))))))))))))))))))))))))))))))))))))))))))))))))))))))))) :=
 An @OK (An @du (An @KR (An @YA (An @LS (An @TK (An @TJ (An @isSome_some (An @getD_some (An @BX (An @xZ (An @VO (An @OF (An @gk (An @VP (An @yH (An @SA (An @SB (An @xS (An @wA (An @qU (An @xY (An @qJ (An @xM (An @tY (An @xO (An @rZ (An @xN (An @xL (An @xQ (An @tZ (An @QH (An @QJ (An @HG (An @QK (An @QG (An @BE (An @QI (An @CH (An @CF (An @yE (An @yF (An @uM (An @CG (An @US (An @eval_const (An @eval_func (An @eval_global (An @ja (An @WW (An @OB (An @FB (An @aAh (An @aAi (An @yH (An @SA (An @SB (An @xS (An @wA (An @qU (An @xY (An @BX (An @xZ (An @qJ (An @xM (An @tY (An @xO (An @rZ (An @xN (An @xL (An @xQ (An @tZ (An @QH (An @QJ (An @HG (An @QK (An @QG (An @BE (An @QI (An @CH (An @CF (An @yE (An @yF (An @uM (@CG))))))))))))))))))))))))))))))))))))))))))))))))))))))))))))))))))))))))))))))))))))
theorem RB:type_of% (An @dw (An @ep (An @ef (An @ek (An @en (An @dx (An @eg (An @dz (An @dy (An @ee (An @ed (@eo)))))))))))) :=
 An @dw (An @ep (An @ef (An @ek (An @en (An @dx (An @eg (An @dz (An @dy (An @ee (An @ed (@eo)))))))))))
theorem KF (c:List (Nat×Nat)) (F:List Nat) (i:Nat) (r:List Nat) (s s':St):bO c F i r s s'=((bif nn c i then inB r F else True)∧(bif nr c i then HW F s s' else True)):=rfl
theorem RG:type_of% (An @KF (An @List.mem_cons.{0} (An @List.not_mem_nil.{0} (An @true_or (An @or_true (An @or_false (An @true_and (An @and_true (An @List.toList_toArray.{0} (An @List.getElem?_cons_zero.{0} (An @List.getElem?_cons_succ.{0} (An @Option.getD_some.{0} (An @Option.some.injEq.{0} (An @exists_eq_left'.{1} (An @if_true.{0} (An @if_true.{1} (An @if_false.{0} (An @if_false.{1} (An @Bool.false_and (An @Bool.false_eq_true (An @Value.pointer.injEq (An @Value.bool.injEq (An @Value.int.injEq (An @Value.tuple.injEq (An @exists_and_left.{1} (An @Option.map_some.{0,0} (An @Option.map_none.{0,0} (An @List.map_cons.{0,0} (An @List.map_nil.{0,0} (An @List.size_toArray.{0} (An @List.length_cons.{0} (An @List.length_nil.{0} (An @je (An @jd (An @XD (An @List.getElem?_toArray.{0} (An @Bool.true_and (An @Bool.and_true (An @Bool.or_true (An @Bool.true_or (An @Bool.or_false (An @Bool.false_or (An @cond_true.{1} (An @cond_false.{1} (An @List.append_nil.{0} (An @List.nil_append.{0} (An @List.cons_append.{0} (An @Bool.not_true (@Bool.not_false))))))))))))))))))))))))))))))))))))))))))))))))) :=
 An @KF (An @List.mem_cons.{0} (An @List.not_mem_nil.{0} (An @true_or (An @or_true (An @or_false (An @true_and (An @and_true (An @List.toList_toArray.{0} (An @List.getElem?_cons_zero.{0} (An @List.getElem?_cons_succ.{0} (An @Option.getD_some.{0} (An @Option.some.injEq.{0} (An @exists_eq_left'.{1} (An @if_true.{0} (An @if_true.{1} (An @if_false.{0} (An @if_false.{1} (An @Bool.false_and (An @Bool.false_eq_true (An @Value.pointer.injEq (An @Value.bool.injEq (An @Value.int.injEq (An @Value.tuple.injEq (An @exists_and_left.{1} (An @Option.map_some.{0,0} (An @Option.map_none.{0,0} (An @List.map_cons.{0,0} (An @List.map_nil.{0,0} (An @List.size_toArray.{0} (An @List.length_cons.{0} (An @List.length_nil.{0} (An @je (An @jd (An @XD (An @List.getElem?_toArray.{0} (An @Bool.true_and (An @Bool.and_true (An @Bool.or_true (An @Bool.true_or (An @Bool.or_false (An @Bool.false_or (An @cond_true.{1} (An @cond_false.{1} (An @List.append_nil.{0} (An @List.nil_append.{0} (An @List.cons_append.{0} (An @Bool.not_true (@Bool.not_false))))))))))))))))))))))))))))))))))))))))))))))))
theorem RX:type_of% (An @RC<|An @RO<|An @RD<|An @RV<|An @RB<|@RG):=An @RC<|An @RO<|An @RD<|An @RV<|An @RB<|@RG
theorem aB {q:Bool} {X:Env} {K:qT} {ops d f aAm ts ty pos af l a s} {Φ:bD→St→Prop} {args:List Value} (h:aAm.toList.map a.eval=args) (hc:okF q X K f args s fun v s=>eE q X K ops l (a.put d v) s Φ) :
  eE q X K ops (⟨d,.call ⟨.value (.func f),aAm,ts⟩,ty,pos,af,none⟩::l) a s Φ:=by
 subst h
 exact yq.2 hc
theorem aW {X:Env} {K:qT} {ops base c F i d f aAm ts ty pos af l a s} {Φ:bD→St→Prop} {args:List Value} (h:aAm.toList.map a.eval=args)
  (hc:okF false X K f args s fun v s'=>bO c F i (bZ a.eval s.look (.call ⟨.value (.func f),aAm,ts⟩)) s s'∧fD X K ops base c F l (i+1) (a.put d v) s' Φ) :
  fD X K ops base c F (⟨d,.call ⟨.value (.func f),aAm,ts⟩,ty,pos,af,none⟩::l) i a s Φ:=by
 subst h
 exact d_call.2 hc
theorem oD {q:Bool} {X:Env} {K:qT} {ops d t aAm ts ty pos af l a s f} {fi ca:Array Value} {Φ:bD→St→Prop} {args:List Value} (hf:a.aD t=.func (.func f) fi ca) (h:fi.toList++aAm.toList.map a.eval++ca.toList=args)
  (hc:okF q X K f args s fun v s=>eE q X K ops l (a.put d v) s Φ):eE q X K ops (⟨d,.call ⟨.value (.tmp t),aAm,ts⟩,ty,pos,af,none⟩::l) a s Φ:=by
 subst h
 rw[o_callv,hf,xS]
 exact hc
section
variable {X:Env} {K:qT} {ops:Array Oper} {base i:Nat} {c:List (Nat×Nat)} {F:List Nat} {d:Option Tmp} {ty:TypeId} {pos:String} {af:Array Edge} {l:List Oper} {a:bD} {s s':St} {Φ:bD→St→Prop} {aAm:Array Operand} {ts:Array TypeId} {args:List Value} {v:Value}
theorem d_delx (h:aAm.toList.map a.eval=args) (hd:mZ X s ts args=some (v,s')) (hn:bO c F i (bZ a.eval s.look (.call ⟨.builtin .delete,aAm,ts⟩)) s s') (hk:fD X K ops base c F l (i+1) (a.put d v) s' Φ) :
  fD X K ops base c F (⟨d,.call ⟨.builtin .delete,aAm,ts⟩,ty,pos,af,none⟩::l) i a s Φ:=by
 subst h
 refine(BJ (P:=fun v s'=>mZ X s ts (aAm.toList.map a.eval)=some (v,s')) rfl ?_).2 ⟨v,s',hd,hn,hk⟩
 intro cl r v s'
 simp only[bL]
 cases mZ X s ts (aAm.toList.map a.eval) with
 | none=>simp[cQ.ofOption]
 | some p=>rcases p with ⟨v2,s2⟩;simp[cQ.ofOption]
theorem tc (h:aAm.toList.map a.eval=args) (hd:iC X s ts args=some (v,s')) (hn:bO c F i (bZ a.eval s.look (.call ⟨.builtin .append,aAm,ts⟩)) s s') (hk:fD X K ops base c F l (i+1) (a.put d v) s' Φ) :
  fD X K ops base c F (⟨d,.call ⟨.builtin .append,aAm,ts⟩,ty,pos,af,none⟩::l) i a s Φ:=by
 subst h
 exact ta.2 ⟨v,s',hd,hn,hk⟩
variable {q:Bool}
theorem jZ (h:aAm.toList.map a.eval=args) (hd:iC X s ts args=some (v,s')) (hk:eE q X K ops l (a.put d v) s' Φ):eE q X K ops (⟨d,.call ⟨.builtin .append,aAm,ts⟩,ty,pos,af,none⟩::l) a s Φ:=by
 subst h
 exact yi.2 ⟨v,s',hd,hk⟩
theorem yj (h:aAm.toList.map a.eval=args) (hd:qZ X s ts args=some (v,s')) (hk:eE q X K ops l (a.put d v) s' Φ):eE q X K ops (⟨d,.call ⟨.builtin .clear,aAm,ts⟩,ty,pos,af,none⟩::l) a s Φ:=by
 subst h
 exact o_clear.2 ⟨v,s',hd,hk⟩
end
theorem fY {q:Bool} {X:Env} {K:qT} {r:Option Nat} {G S body:Code} {c:Operand} {e b n:Nat} {Φ:cP→bD→St→Prop} (I J:Nat→bD→St→Prop)
  (hG:∀ j a s,j≤n→I j a s→∀ Ψ:cP→bD→St→Prop,(∀ a' s' bb,a'.eval c=.bool bb→(bb=true↔j<n)→I j a' s'→Ψ .normal a' s')→jU q X K r G a s Ψ)
  (hB:∀ j a s,j<n→I j a s→∀ Ψ:cP→bD→St→Prop,(∀ a s,J j a s→Ψ .normal a s)→(∀ a s,J j a s→Ψ (.exit b) a s)→(∀ e' a s,e'≠.normal→e'≠.exit b→Φ e' a s→Ψ e' a s)→jU q X K r body a s Ψ)
  (hS:∀ j a s,j<n→J j a s→∀ Ψ:cP→bD→St→Prop,(∀ a s,I (j+1) a s→Ψ .normal a s)→jU q X K r S a s Ψ)
  (hE:∀ a s,I n a s→Φ (.exit e) a s) {j0:Nat} {a:bD} {s:St} (hj:j0≤n) (h0:I j0 a s) :
  jU q X K r (.loop (.seq (.seq G (.cond c .skip (.exit e))) (.seq (.block b body) S))) a s Φ:=by
 refine jU.loop (fun k a s=>∃ j,k=n-j∧j≤n∧I j a s) ?_ (n-j0) ⟨j0,rfl,hj,h0⟩
 rintro k a s ⟨j,rfl,hj,hI⟩
 refine aA fun Ψ1 h1 h1'=>?_
 refine aA fun Ψ2 h2 h2'=>?_
 refine hG j a s hj hI _ fun a' s' bb hb hbb hI'=>h2 _ _ ?_
 rw[CN]
 refine⟨bb,hb,?_⟩
 by_cases gU:j<n
 ·rw[if_pos (hbb.2 gU),wO]
  refine h1 _ _ ?_
  refine aA fun Ψ3 h3 h3'=>?_
  refine aL fun Ψ4 h4 h4e h4'=>?_
  have done:∀ a s,J j a s→Ψ3 .normal a s:=fun a s hJ=>h3 _ _ (hS j a s gU hJ _ fun a s hI=>⟨n-(j+1),by omega,j+1,rfl,gU,hI⟩)
  refine hB j a' s' gU hI' Ψ4 (fun a s hJ=>h4 _ _ (done a s hJ)) (fun a s hJ=>h4e _ _ (done a s hJ)) fun e' a s hn hb hΦ=>h4' _ _ _ hn hb (h3' _ _ _ hn ?_)
  cases e' with
  | normal=>exact absurd rfl hn
  | _=>exact hΦ
 ·obtain rfl:j=n:=by omega
  rw[if_neg (fun h=>gU (hbb.1 h)),wM]
  exact h1' _ _ _ (by simp) (hE _ _ hI')
theorem yI {q:Bool} {X:Env} {K:qT} {r:Option Nat} {G body:Code} {c:Operand} {e b n:Nat} {Φ:cP→bD→St→Prop} (I:Nat→bD→St→Prop)
  (hG:∀ j a s,j≤n→I j a s→∀ Ψ:cP→bD→St→Prop,(∀ a' s' bb,a'.eval c=.bool bb→(bb=true↔j<n)→I j a' s'→Ψ .normal a' s')→jU q X K r G a s Ψ)
  (hB:∀ j a s,j<n→I j a s→∀ Ψ:cP→bD→St→Prop,(∀ a s,I (j+1) a s→Ψ .normal a s)→(∀ a s,I (j+1) a s→Ψ (.exit b) a s)→(∀ e' a s,e'≠.normal→e'≠.exit b→Φ e' a s→Ψ e' a s)→jU q X K r body a s Ψ)
  (hE:∀ a s,I n a s→Φ (.exit e) a s) {j0:Nat} {a:bD} {s:St} (hj:j0≤n) (h0:I j0 a s) :
  jU q X K r (.loop (.seq (.seq G (.cond c .skip (.exit e))) (.block b body))) a s Φ:=by
 refine jU.loop (fun k a s=>∃ j,k=n-j∧j≤n∧I j a s) ?_ (n-j0) ⟨j0,rfl,hj,h0⟩
 rintro k a s ⟨j,rfl,hj,hI⟩
 refine aA fun Ψ1 h1 h1'=>?_
 refine aA fun Ψ2 h2 h2'=>?_
 refine hG j a s hj hI _ fun a' s' bb hb hbb hI'=>h2 _ _ ?_
 rw[CN]
 refine⟨bb,hb,?_⟩
 by_cases gU:j<n
 ·rw[if_pos (hbb.2 gU),wO]
  refine h1 _ _ ?_
  refine aL fun Ψ4 h4 h4e h4'=>?_
  have done:∀ a s,I (j+1) a s→∃ j',j'<n-j∧∃ j,j'=n-j∧j≤n∧I j a s:=fun a s hI=>⟨n-(j+1),by omega,j+1,rfl,gU,hI⟩
  refine hB j a' s' gU hI' Ψ4 (fun a s hJ=>h4 _ _ (done a s hJ)) (fun a s hJ=>h4e _ _ (done a s hJ)) fun e' a s hn hb hΦ=>h4' _ _ _ hn hb ?_
  cases e' with
  | normal=>exact absurd rfl hn
  | _=>exact hΦ
 ·obtain rfl:j=n:=by omega
  rw[if_neg (fun h=>gU (hbb.1 h)),wM]
  exact h1' _ _ _ (by simp) (hE _ _ hI')
theorem dP {q:Bool} {X:Env} {K:qT} {r:Option Nat} {G S body:Code} {c:Operand} {e b n:Nat} {Φ:cP→bD→St→Prop} (I J:Nat→bD→St→Prop)
  (hG:∀ j a s,j≤n→I j a s→∀ Ψ:cP→bD→St→Prop,(∀ a' s' bb,a'.eval c=.bool bb→(bb=true↔j<n)→I j a' s'→Ψ .normal a' s')→jU q X K r G a s Ψ)
  (hB:∀ j a s,j<n→I j a s→∀ Ψ:cP→bD→St→Prop,(∀ a s,J j a s→Ψ .normal a s)→(∀ a s,J j a s→Ψ (.exit b) a s)→(∀ e' a s,e'≠.normal→e'≠.exit b→Φ e' a s→Ψ e' a s)→jU q X K r body a s Ψ)
  (hS:∀ j a s,j<n→J j a s→∀ Ψ:cP→bD→St→Prop,(∀ a s,I (j+1) a s→Ψ .normal a s)→jU q X K r S a s Ψ)
  (hE:∀ a s,I n a s→Φ (.exit e) a s) {j0:Nat} {a:bD} {s:St} (hj:j0≤n) (h0:I j0 a s) :
  jU q X K r (.loop (.seq G (.seq (.cond c .skip (.exit e)) (.seq (.block b body) S)))) a s Φ:=by
 refine jU.loop (fun k a s=>∃ j,k=n-j∧j≤n∧I j a s) ?_ (n-j0) ⟨j0,rfl,hj,h0⟩
 rintro k a s ⟨j,rfl,hj,hI⟩
 refine aA fun Ψ2 h2 h2'=>?_
 refine hG j a s hj hI _ fun a' s' bb hb hbb hI'=>h2 _ _ ?_
 refine aA fun Ψ1 h1 h1'=>?_
 rw[CN]
 refine⟨bb,hb,?_⟩
 by_cases gU:j<n
 ·rw[if_pos (hbb.2 gU),wO]
  refine h1 _ _ ?_
  refine aA fun Ψ3 h3 h3'=>?_
  refine aL fun Ψ4 h4 h4e h4'=>?_
  have done:∀ a s,J j a s→Ψ3 .normal a s:=fun a s hJ=>h3 _ _ (hS j a s gU hJ _ fun a s hI=>⟨n-(j+1),by omega,j+1,rfl,gU,hI⟩)
  refine hB j a' s' gU hI' Ψ4 (fun a s hJ=>h4 _ _ (done a s hJ)) (fun a s hJ=>h4e _ _ (done a s hJ)) fun e' a s hn hb hΦ=>h4' _ _ _ hn hb (h3' _ _ _ hn ?_)
  cases e' with
  | normal=>exact absurd rfl hn
  | _=>exact hΦ
 ·obtain rfl:j=n:=by omega
  rw[if_neg (fun h=>gU (hbb.1 h)),wM]
  exact h1' _ _ _ (by simp) (hE _ _ hI')
structure Ok (s:St):Prop where
 wf:s.wf
 fresh:s.fresh
theorem Ok.skip {s:St} (h:Ok s) (n:Nat):Ok (s.skip n):=⟨h.wf,fun b hb=>h.fresh b (Nat.le_trans (Nat.le_add_right _ _) hb)⟩
structure aC (F:List Nat) (s s':St):Prop where
 mC:∀ b o,s.heap.get b=some o→b∉F→s'.heap.get b=some o
 low:∀ b o,s'.heap.get b=some o→(∃ o0,s.heap.get b=some o0)∨s.next≤b
 ok:Ok s'
 next:s.next≤s'.next
namespace aC
variable {F G:List Nat} {a b c s s':St}
theorem refl (h:Ok s):aC F s s:=⟨fun _ _ h _=>h,fun _ o h=>.inl ⟨o,h⟩,h,Nat.le_refl _⟩
theorem skip (h:Ok s) (n:Nat):aC F s (s.skip n):=⟨fun _ _ h _=>h,fun _ o h=>.inl ⟨o,h⟩,h.skip n,Nat.le_add_right _ _⟩
theorem step (h:aC F a b) (k:aC G b c) (hG:∀ g∈G,g∈F∨a.heap.get g=none):aC F a c:=by
 refine⟨fun x o hx hF=>k.mC x o (h.mC x o hx hF) fun hg=>?_,fun x o hx=>?_,k.ok,Nat.le_trans h.next k.next⟩
 ·rcases hG x hg with h1 | h1
  ·exact hF h1
  ·rw[h1] at hx;cases hx
 ·rcases k.low x o hx with ⟨o0,h0⟩ | h0
  ·exact h.low x o0 h0
  ·exact .inr (Nat.le_trans h.next h0)
theorem trans (h:aC F a b) (k:aC F b c):aC F a c:=h.step k fun _ hg=>.inl hg
theorem cB (h:aC F a b) (n:Nat):aC F a (b.skip n):=h.trans (.skip h.ok n)
theorem mono (h:aC F s s') (hF:∀ x∈F,x∈G):aC G s s':=⟨fun x o hx hg=>h.mC x o hx fun hf=>hg (hF x hf),h.low,h.ok,h.next⟩
theorem any (h:aC [] s s'):aC G s s':=h.mono fun _ hx=>by cases hx
end aC
theorem Ok.put {s:St} (h:Ok s) {x:Nat} {f:Nat→bX} (hx:x<s.next) (hf:(f s.cM).bC=true∨(f s.cM).dF≤s.cM):Ok (s.put x f):=by
 refine⟨fun b o hb hd=>?_,fun b hb=>?_⟩
 ·simp only[St.put,PT.bU] at hb ⊢
  split at hb
  ·cases hb
   rcases hf with hf | hf
   ·rw[hf] at hd;cases hd
   ·exact Nat.lt_succ_of_le hf
  ·exact Nat.lt_succ_of_lt (h.wf b o hb hd)
 ·have hb':s.next≤b:=hb
  simp only[St.put,PT.bU]
  rw[if_neg (by omega)]
  exact h.fresh b hb'
theorem Ok.lt {s:St} (h:Ok s) {b:Nat} {o:bX} (hb:s.heap.get b=some o):b<s.next:=by
 rcases Nat.lt_or_ge b s.next with h1 | h1
 ·exact h1
 ·rw[h.fresh b h1] at hb;cases hb
theorem aC.uU {F:List Nat} {s:St} (h:Ok s) {x:Nat} {o:bX} {f:Nat→bX} (hx:s.heap.get x=some o) (hf:(f s.cM).bC=true∨(f s.cM).dF≤s.cM) (hF:x∈F):aC F s (s.put x f):=by
 refine⟨fun b o' hb hn=>?_,fun b o' hb=>?_,h.put (h.lt hx) hf,Nat.le_refl _⟩
 ·simp only[St.put,PT.bU]
  rw[if_neg fun e=>hn (by rw[e];exact hF)]
  exact hb
 ·simp only[St.put,PT.bU] at hb
  split at hb
  ·rename_i e;subst e;exact .inl ⟨o,hx⟩
  ·exact .inl ⟨o',hb⟩
theorem aC.iy {F:List Nat} {a s:St} (k:aC F a s) {x:Nat} {f:Nat→bX} (hx:s.heap.get x=none) (gU:x<s.next) (hge:a.next≤x) (hf:(f s.cM).bC=true∨(f s.cM).dF≤s.cM):aC F a (s.put x f):=by
 refine⟨fun b o' hb hn=>?_,fun b o' hb=>?_,k.ok.put gU hf,k.next⟩
 ·have hb':=k.mC b o' hb hn
  simp only[St.put,PT.bU]
  rw[if_neg fun e=>by subst e;rw[hx] at hb';cases hb']
  exact hb'
 ·simp only[St.put,PT.bU] at hb
  split at hb
  ·rename_i e;subst e;exact .inr hge
  ·exact k.low b o' hb
theorem aC.new {F:List Nat} {a s:St} (k:aC F a s) {f:Nat→bX} (hf:(f s.cM).bC=true∨(f s.cM).dF≤s.cM):aC F a (s.new f):=by
 have h:=(k.cB 2).iy (x:=s.next) (f:=f) (k.ok.fresh _ (Nat.le_refl _)) (by show s.next<s.next+2;omega) k.next hf
 exact h
theorem aC.none {F:List Nat} {s s':St} (k:aC F s s') {x:Nat} (hx:s.heap.get x=Option.none) (gU:x<s.next):s'.heap.get x=Option.none:=by
 cases h:s'.heap.get x with
 | none=>rfl
 | some o =>
  rcases k.low x o h with ⟨o0,h0⟩ | h0
  ·rw[hx] at h0;cases h0
  ·omega
def Cells (s:St) (b:Nat) (e:TypeId) (L:List Value):Prop:=∃ c z room dF,s.heap.get b=some (.cells c z L.length e room false dF)∧∀ i,i<L.length→cellAt c z L.length i=L[i]?
theorem Cells.aF {F:List Nat} {s s':St} {b:Nat} {e:TypeId} {L:List Value} (h:Cells s b e L) (k:aC F s s') (hb:b∉F):Cells s' b e L:=by
 obtain⟨c,z,room,dF,h1,h2⟩:=h
 exact⟨c,z,room,dF,k.mC _ _ h1 hb,h2⟩
theorem Cells.lt {s:St} {b:Nat} {e:TypeId} {L:List Value} (h:Cells s b e L) (hs:Ok s):b<s.next:=by
 obtain⟨c,z,room,dF,h1,h2⟩:=h
 exact hs.lt h1
theorem bR {s s':St}:HW [] s s':=fun _ h=>by cases h
theorem aV {s s':St} {b:Nat} {l:List Nat} (h:bP s s' b=true) (hl:HW l s s'):HW (b::l) s s':=fun x hx=>by
 rcases List.mem_cons.1 hx with rfl | hx
 ·exact h
 ·exact hl x hx
theorem wS {F:List Nat} {s s':St} {b:Nat} {o:bX} (h1:s.heap.get b=some o) (h2:o.bC=false) (hs:Ok s) (k:aC F s s') (hb:b∉F):bP s s' b=true:=by
 simp only[bP,h1,k.mC _ _ h1 hb,h2,Bool.not_false,beq_self_eq_true,Bool.and_self,Bool.true_and,decide_eq_true_eq]
 exact hs.wf b _ h1 h2
theorem Cells.same {F:List Nat} {s s':St} {b:Nat} {e:TypeId} {L:List Value} (h:Cells s b e L) (hs:Ok s) (k:aC F s s') (hb:b∉F):bP s s' b=true:=by
 obtain⟨c,z,room,dF,h1,h2⟩:=h
 exact wS h1 rfl hs k hb
theorem Cells.load {s:St} {b:Nat} {e:TypeId} {L:List Value} {i:Nat} {v:Value} (h:Cells s b e L) (hi:L[i]?=some v):aI s.look ⟨b,i,none⟩=some v:=by
 obtain⟨c,z,room,dF,h1,h2⟩:=h
 simp only[aI,St.look,h1]
 rw[h2 i (List.getElem?_eq_some_iff.1 hi).1,hi]
theorem qM {c:PT Value} {z:List Value} {n:Nat}:∀ (k i:Nat) (L:List Value),L.length=k→(∀ j,j<k→cellAt c z n (i+j)=L[j]?)→dJ c z n i k=some L
 | 0,i,L,hL,_=>by
  have:L=[]:=List.length_eq_zero_iff.1 hL
  subst this;rfl
 | k+1,i,v::L,hL,h=>by
  have h0:=h 0 (Nat.succ_pos k)
  have h1:=qM (c:=c) (z:=z) (n:=n) k (i+1) L (by simpa using hL) fun j hj=>by
   have:=h (j+1) (Nat.succ_lt_succ hj)
   rw[show i+1+j=i+(j+1) from by omega,this];rfl
  rw[Nat.add_zero] at h0
  simp only[dJ,h0,h1,List.getElem?_cons_zero]
theorem Cells.aS {s:St} {b:Nat} {e:TypeId} {L:List Value} {i k:Nat} (h:Cells s b e L) (hi:i+k≤L.length):aS s.look ⟨b,i,none⟩ k=some ((L.drop i).take k):=by
 obtain⟨c,z,room,dF,h1,h2⟩:=h
 simp only[Dust.aS,St.look,h1]
 refine qM k i _ (by simp;omega) fun j hj=>?_
 rw[h2 _ (by omega),List.getElem?_take_of_lt hj,List.getElem?_drop]
def oI (L:List Value) (i:Nat) (vs:List Value):List Value:=L.take i++vs++L.drop (i+vs.length)
theorem jW {L vs:List Value} {i:Nat} (h:i+vs.length≤L.length):(oI L i vs).length=L.length:=by
 simp only[oI,List.length_append,List.length_take,List.length_drop];omega
theorem oJ {L vs:List Value} {i:Nat} (h:i+vs.length≤L.length) (j:Nat):(oI L i vs)[j]?=if i≤j∧j<i+vs.length then vs[j-i]? else L[j]?:=by
 unfold oI
 have hi:(L.take i).length=i:=by rw[List.length_take];omega
 by_cases h1:i≤j
 ·by_cases h2:j<i+vs.length
  ·rw[if_pos ⟨h1,h2⟩,List.getElem?_append_left (by rw[List.length_append];omega),List.getElem?_append_right (by omega),hi]
  ·rw[if_neg (by omega),List.getElem?_append_right (by rw[List.length_append];omega),List.length_append,hi,List.getElem?_drop]
   congr 1;omega
 ·rw[if_neg (by omega),List.getElem?_append_left (by rw[List.length_append];omega),List.getElem?_append_left (by omega),List.getElem?_take_of_lt (by omega)]
theorem LQ {L:List Value} {i:Nat} {v:Value} (h:i<L.length):oI L i [v]=L.set i v:=by
 apply List.ext_getElem?
 intro j
 rw[oJ (by simp;omega)]
 rw[List.getElem?_set]
 simp only[List.length_singleton]
 by_cases h1:i=j
 ·subst h1
  simp[h]
 ·rw[if_neg (by omega),if_neg h1]
theorem Cells.store {s:St} {b:Nat} {e:TypeId} {L vs:List Value} {i:Nat} (h:Cells s b e L) (hs:Ok s) (hi:i+vs.length≤L.length) (h1:vs.all kZ=true) :
  ∃ s',bJ s ⟨b,i,none⟩ vs=some s'∧Cells s' b e (oI L i vs)∧aC [b] s s':=by
 obtain⟨c,z,room,dF,hb,hc⟩:=h
 refine⟨_,by simp only[bJ,hb];rw[if_pos ⟨hi,h1⟩],⟨c.NB i vs,z,room,s.cM,?_,fun j hj=>?_⟩,.uU hs hb (.inr (Nat.le_refl _)) (List.mem_singleton.2 rfl)⟩
 ·simp only[St.put,PT.bU,if_true,jW hi]
 ·rw[jW hi] at hj ⊢
  rw[oJ hi]
  unfold cellAt
  rw[if_pos hj,PT.rF]
  have hold:=hc j hj
  unfold cellAt at hold
  rw[if_pos hj] at hold
  by_cases h2:i≤j
  ·rw[if_pos h2]
   by_cases h3:j<i+vs.length
   ·rw[if_pos ⟨h2,h3⟩,List.getElem?_eq_getElem (by omega)]
   ·rw[if_neg (by omega),List.getElem?_eq_none (by omega)]
    exact hold
  ·rw[if_neg h2,if_neg (by omega)]
   exact hold
theorem Cells.dU {s:St} {b:Nat} {e:TypeId} {L:List Value} {i:Nat} {v:Value} (h:Cells s b e L) (hs:Ok s) (hi:i<L.length) (h1:kZ v=true) :
  ∃ s',bJ s ⟨b,i,none⟩ [v]=some s'∧Cells s' b e (L.set i v)∧aC [b] s s':=by
 have:=h.store hs (i:=i) (vs:=[v]) (by simp;omega) (by simp[h1])
 rw[LQ hi] at this
 exact this
theorem Cells.pQ {s:St} {x:Nat} {e:TypeId} {L:List Value} {room:Bool}:Cells (s.put x fun v=>.cells (PT.ofList L) [] L.length e room false v) x e L:=by
 refine⟨PT.ofList L,[],room,s.cM,by simp only[St.put,PT.bU,if_true],fun i hi=>?_⟩
 unfold cellAt
 rw[if_pos hi,PT.fE,List.getElem?_eq_getElem hi]
theorem Cells.uP {s:St} {e:TypeId} {L:List Value} {room:Bool}:Cells (s.new fun v=>.cells (PT.ofList L) [] L.length e room false v) s.next e L:=Cells.pQ (s:=s)
theorem Cells.kY {s:St} {x:Nat} {e:TypeId} {z:List Value} {n:Nat}:Cells (s.put x fun v=>.cells .nil z (n*z.length) e false false v) x e ((List.range (n*z.length)).map fun i=>z.getD (i%z.length) undef):=by
 refine⟨.nil,z,false,s.cM,by simp only[St.put,PT.bU,if_true,List.length_map,List.length_range],fun i hi=>?_⟩
 rw[List.length_map,List.length_range] at hi ⊢
 unfold cellAt
 rw[if_pos hi,PT.get_nil,List.getElem?_map,List.getElem?_range hi]
 rfl
theorem RZ {X:Env} {nm:Nat} {t e B N:Nat} {n m:Int} {z:Value} (hd:((X.ty t).map fun i=>i.desc)=some (.slice e)) (he:((X.ty e).map fun i=>(i.bytes,i.size,i.zero))=some (B,N,some z))
  (h5:z.cells.size=N) (h1:0≤n) (h2:n≤m) (h3:m<2 ^ 40) (h4:(B:Int)*m≤2 ^ 48) :
  al X nm t (.int .i64 n) (.int .i64 m)=some (.slice (some ⟨nm,0,none⟩) n.toNat m.toNat,fun v=>.cells .nil z.cells.toList (m.toNat*N) e false false v):=by
 cases hi:X.ty t with
 | none=>rw[hi] at hd;cases hd
 | some i =>
  cases hj:X.ty e with
  | none=>rw[hj] at he;cases he
  | some j =>
   rw[hi] at hd
   rw[hj] at he
   obtain⟨d,sz,bs,zz,ag,ms,cm⟩:=i
   obtain⟨d',sz',bs',zz',ag',ms',cm'⟩:=j
   simp only[Option.map_some,Option.some.injEq,Prod.mk.injEq] at hd he
   subst hd
   obtain⟨rfl,rfl,rfl⟩:=he
   simp only[al,hi,hj]
   rw[if_pos ⟨h1,h2,h3,h4,h5⟩]
theorem LP {X:Env} {H:aY} {t e N b off n c l h:Nat} (hd:((X.ty t).map fun i=>i.desc)=some (.slice e)) (he:((X.ty e).map fun i=>i.size)=some N)
  (ho:∃ c z n e room ro dF,H b=some (.cells c z n e room ro dF)) (h1:l≤h) (h2:h≤c) (h3:l<c) :
  dE X H t (.slice (some ⟨b,off,none⟩) n c) (some (.int .i64 l)) (some (.int .i64 h)) none=some (.slice (some ⟨b,off+l*N,none⟩) (h-l) (c-l)):=by
 obtain⟨cc,z,m,e0,room,ro,dF,ho⟩:=ho
 cases hi:X.ty t with
 | none=>rw[hi] at hd;cases hd
 | some i =>
  cases hj:X.ty e with
  | none=>rw[hj] at he;cases he
  | some j =>
   rw[hi] at hd
   rw[hj] at he
   obtain⟨d,sz,bs,zz,ag,ms,cm⟩:=i
   simp only[Option.map_some,Option.some.injEq] at hd he
   subst hd
   have hb:iD n c (some (l:Int)) (some (h:Int))=some (l,h):=by
    unfold iD
    simp only
    rw[if_pos (by omega)]
    simp only[Int.toNat_natCast]
    rw[if_pos (by omega)]
   simp only[dE,hi,hj,gO,hb,ho]
   rw[if_pos ⟨h1,h2⟩,if_neg (by omega),aJ,he]
theorem sv {X:Env} {s s':St} {t e b off n c:Nat} {z:Value} (hd:((X.ty t).map fun i=>i.desc)=some (.slice e)) (he:((X.ty e).map fun i=>i.zero)=some (some z)) (hn:n≠0)
  (hs:bJ s ⟨b,off,none⟩ (rep z.cells.toList n)=some s'):qZ X s #[t] [.slice (some ⟨b,off,none⟩) n c]=some (.tuple #[],s'):=by
 cases hi:X.ty t with
 | none=>rw[hi] at hd;cases hd
 | some i =>
  cases hj:X.ty e with
  | none=>rw[hj] at he;cases he
  | some j =>
   rw[hi] at hd
   rw[hj] at he
   obtain⟨d,sz,bs,zz,ag,ms,cm⟩:=i
   obtain⟨d',sz',bs',zz',ag',ms',cm'⟩:=j
   simp only[Option.map_some,Option.some.injEq] at hd he
   subst hd
   subst he
   simp only[qZ,List.getElem?_toArray,List.getElem?_cons_zero,hi]
   rw[if_neg hn]
   simp only[hj,hs]
inductive Sl (s:St) (m:Nat):Value→List Value→Prop
 | nil (a:Option Addr) (c:Nat):Sl s m (.slice a 0 c) []
 | cells {b off n c:Nat} {L:List Value} (hL:L.length=n*m) (hl:∀ i,i<L.length→aI s.look ⟨b,off+i,none⟩=L[i]?):Sl s m (.slice (some ⟨b,off,none⟩) n c) L
theorem cW {F:List Nat} {s s':St} {a:Addr} {v:Value} (k:aC F s s') (ha:a.block∉F) (h:aI s.look a=some v):aI s'.look a=some v:=by
 rcases a with ⟨b,off,sp⟩
 unfold aI at h ⊢
 simp only[St.look] at h ⊢
 cases ho:s.heap.get b with
 | none=>rw[ho] at h;cases sp <;> cases h
 | some o=>rw[ho] at h;rw[k.mC _ _ ho ha];exact h
theorem nL {F:List Nat} {s s':St} {a:Addr} {v:Value} (h:aI s.look a=some v) (hs:Ok s) (k:aC F s s') (ha:a.block∉F):bP s s' a.block=true:=by
 obtain⟨o,h1,h2⟩:=xd h
 exact wS h1 h2 hs k ha
theorem Sl.aF {F:List Nat} {s s':St} {m:Nat} {v:Value} {L:List Value} (h:Sl s m v L) (k:aC F s s') (hb:∀ b∈nameOf v,b∉F):Sl s' m v L:=by
 cases h with
 | nil a c=>exact .nil a c
 | cells hL hl =>
  refine .cells hL fun i hi=>?_
  have:=hl i hi
  rw[List.getElem?_eq_getElem hi] at this ⊢
  exact cW k (hb _ (by simp[nameOf])) this
theorem Sl.ym {s:St} {b off n c m:Nat} {e:TypeId} {L:List Value} (h:Cells s b e L) (hn:off+n*m≤L.length):Sl s m (.slice (some ⟨b,off,none⟩) n c) ((L.drop off).take (n*m)):=by
 refine .cells (by simp;omega) fun i hi=>?_
 have hi':i<n*m:=by simp at hi;omega
 rw[List.getElem?_take_of_lt hi',List.getElem?_drop]
 rw[List.getElem?_eq_getElem (by omega)]
 exact h.load (List.getElem?_eq_getElem (by omega))
theorem Sl.len {s:St} {m n c:Nat} {a:Option Addr} {L:List Value} (h:Sl s m (.slice a n c) L):L.length=n*m:=by
 cases h with
 | nil=>simp
 | cells hL _=>exact hL
theorem Sl.addr {s:St} {m n c:Nat} {a:Option Addr} {L:List Value} (h:Sl s m (.slice a n c) L) (hn:0<n):∃ b off,a=some ⟨b,off,none⟩:=by
 cases h with
 | nil=>omega
 | cells=>exact⟨_,_,rfl⟩
theorem Sl.load {s:St} {m n c b off i:Nat} {L:List Value} {v:Value} (h:Sl s m (.slice (some ⟨b,off,none⟩) n c) L) (hi:L[i]?=some v):aI s.look ⟨b,off+i,none⟩=some v:=by
 cases h with
 | nil=>cases hi
 | cells hL hl=>rw[hl i (List.getElem?_eq_some_iff.1 hi).1,hi]
theorem JT {H:aY} {b:Nat}:∀ {k off:Nat} {L:List Value},0<k→L.length=k→(∀ i,i<k→aI H ⟨b,off+i,none⟩=L[i]?)→aS H ⟨b,off,none⟩ k=some L:=by
 intro k off L hk hL h
 have h0:=h 0 hk
 unfold aI at h0
 unfold aS
 simp only at h0 ⊢
 cases hb:H b with
 | none=>rw[hb,List.getElem?_eq_getElem (by omega)] at h0;cases h0
 | some o =>
  cases o with
  | cells c z n e room ro dF =>
   simp only
   refine qM k off L hL fun j hj=>?_
   have:=h j hj
   unfold aI at this
   rw[hb] at this
   exact this
  | _=>rw[hb,List.getElem?_eq_getElem (by omega)] at h0;cases h0
theorem Sl.aS {s:St} {m n c b off i k:Nat} {L:List Value} (h:Sl s m (.slice (some ⟨b,off,none⟩) n c) L) (hk:0<k) (hi:i+k≤L.length):aS s.look ⟨b,off+i,none⟩ k=some ((L.drop i).take k):=by
 refine JT hk (by simp;omega) fun j hj=>?_
 rw[List.getElem?_take_of_lt hj,List.getElem?_drop,List.getElem?_eq_getElem (by omega),Nat.add_assoc]
 exact h.load (List.getElem?_eq_getElem (by omega))
inductive kL (s:St) (e:TypeId) (m:Nat):Value→List Value→Prop
 | nil:kL s e m (.slice none 0 0) []
 | own {b off n cap:Nat} {L0 L:List Value} (h:Cells s b e L0) (hc:off+cap*m≤L0.length) (hn:n≤cap) (hL:L.length=n*m) (hl:∀ i,i<L.length→L0[off+i]?=L[i]?) :
   kL s e m (.slice (some ⟨b,off,none⟩) n cap) L
theorem kL.sl {s:St} {e:TypeId} {m:Nat} {v:Value} {L:List Value} (h:kL s e m v L):Sl s m v L:=by
 cases h with
 | nil=>exact .nil _ _
 | own h hc hn hL hl =>
  refine .cells hL fun i hi=>?_
  have:=hl i hi
  rw[List.getElem?_eq_getElem hi] at this ⊢
  exact h.load this
theorem kL.aF {F:List Nat} {s s':St} {e:TypeId} {m:Nat} {v:Value} {L:List Value} (h:kL s e m v L) (k:aC F s s') (hb:∀ b∈nameOf v,b∉F):kL s' e m v L:=by
 cases h with
 | nil=>exact .nil
 | own h hc hn hL hl=>exact .own (h.aF k (hb _ (by simp[nameOf]))) hc hn hL hl
theorem kL.lt {s:St} {e:TypeId} {m:Nat} {v:Value} {L:List Value} (h:kL s e m v L) (hs:Ok s):∀ b∈nameOf v,b<s.next:=by
 cases h with
 | nil=>intro b hb;cases hb
 | own h _ _ _ _ =>
  intro b hb
  simp only[nameOf,List.mem_singleton] at hb
  subst hb
  exact h.lt hs
theorem kL.append {s:St} {e:TypeId} {m len cap k:Nat} {a:Option Addr} {L new:List Value} (h:kL s e m (.slice a len cap) L) (hs:Ok s) (hm:0<m) (hn:new.length=k*m) (h1:new.all kZ=true) :
  ∃ v s',jI s e m a len cap k new=some (v,s')∧kL s' e m v (L++new)∧aC (nameOf (.slice a len cap)) s s'∧(∀ b∈nameOf v,b∈nameOf (.slice a len cap)∨s.next≤b)∧(∃ a' c',v=.slice a' (len+k) c'):=by
 cases h with
 | nil =>
  by_cases hk:k=0
  ·subst hk
   have:new=[]:=List.length_eq_zero_iff.1 (by omega)
   subst this
   exact⟨_,s,by simp[jI],.nil,.refl hs,by simp[nameOf],_,_,rfl⟩
  ·refine⟨.slice (some ⟨s.next,0,none⟩) (0+k) (0+k),s.new fun v=>.cells (PT.ofList new) [] ((0+k)*m) e true false v,?_,?_,?_,?_,_,_,rfl⟩
   ·unfold jI
    rw[if_neg (by omega)]
    rfl
   ·have hc:=Cells.uP (s:=s) (e:=e) (L:=new) (room:=true)
    rw[hn] at hc
    rw[Nat.zero_add]
    exact .own hc (by omega) (Nat.le_refl _) (by simpa using hn) (fun i hi=>by simp)
   ·exact(aC.refl hs).new (.inr (Nat.le_refl _))
   ·intro b hb
    simp only[nameOf,List.mem_singleton] at hb
    exact .inr (by omega)
 | @own b off _ _ L0 _ h hc hnc hL hl =>
  by_cases hfit:len+k≤cap
  ·by_cases hk:k=0
   ·subst hk
    have:new=[]:=List.length_eq_zero_iff.1 (by omega)
    subst this
    refine⟨_,s,by unfold jI;rw[if_pos hfit];rfl,?_,.refl hs,fun b hb=>.inl hb,_,_,rfl⟩
    rw[List.append_nil]
    exact .own h hc hnc hL hl
   ·have hmul:len*m+k*m≤cap*m:=by rw[← Nat.add_mul];exact Nat.mul_le_mul_right m hfit
    obtain⟨s',h2,h3,h4⟩:=h.store hs (i:=off+len*m) (vs:=new) (by omega) h1
    refine⟨.slice (some ⟨b,off,none⟩) (len+k) cap,s',?_,?_,h4,fun b hb=>.inl hb,_,_,rfl⟩
    ·unfold jI
     rw[if_pos hfit]
     have:new.isEmpty=false:=by
      cases new with
      | nil =>
       have:=Nat.mul_pos (Nat.pos_of_ne_zero hk) hm
       simp at hn;omega
      | cons=>rfl
     simp only[this,aJ,h2]
     rfl
    ·refine .own h3 (by rw[jW (by omega)];exact hc) hfit (by rw[List.length_append,hL,hn,Nat.add_mul]) fun i hi=>?_
     rw[List.length_append,hL,hn] at hi
     rw[oJ (by omega)]
     by_cases gU:i<len*m
     ·rw[if_neg (by omega),List.getElem?_append_left (by omega)]
      exact hl i (by omega)
     ·rw[if_pos (by omega),List.getElem?_append_right (by omega)]
      congr 1;omega
  ·obtain⟨c,z,room,dF,hb,hcell⟩:=h
   have hk:0<k:=by omega
   have hmul:len*m≤cap*m:=Nat.mul_le_mul_right m hnc
   have hin:inBlock ⟨b,off,none⟩ len cap m L0.length=true:=by simp[inBlock];omega
   have hold:∀ i,i<len*m→cellAt c z L0.length (off+i)=L[i]?:=fun i hi=>by rw[hcell _ (by omega)];exact hl i (by omega)
   have hks:aC [b] s (if room=true then s.kill b else s)∧(if room=true then s.kill b else s).next=s.next:=by
    cases room with
    | false=>exact⟨.refl hs,rfl⟩
    | true=>exact⟨aC.uU (f:=fun _=>.dead) hs hb (.inl rfl) (List.mem_singleton.2 rfl),rfl⟩
   obtain⟨c',z',hg,hc'⟩:∃ c' z',jK c z L0.length ⟨b,off,none⟩ (len*m) new=some (c',z')∧∀ i,i<(L++new).length→cellAt c' z' ((len+k)*m) i=(L++new)[i]?:=by
    have hlen:(L++new).length=(len+k)*m:=by rw[List.length_append,hL,hn,Nat.add_mul]
    unfold jK
    by_cases h0:len*m=0
    ·refine⟨_,_,by rw[if_pos h0],fun i hi=>?_⟩
     have hLn:L=[]:=List.length_eq_zero_iff.1 (by omega)
     subst hLn
     rw[hlen] at hi
     rw[List.nil_append]
     unfold cellAt
     rw[if_pos hi,PT.fE]
     have:i<new.length:=by rw[hn];rw[Nat.add_mul] at hi;omega
     rw[List.getElem?_eq_getElem this]
    ·by_cases ho:off=0
     ·subst ho
      refine⟨c.NB (len*m) new,z,by rw[if_neg h0];simp;omega,fun i hi=>?_⟩
      rw[hlen] at hi
      unfold cellAt
      rw[if_pos hi,PT.rF]
      by_cases h2:len*m≤i
      ·rw[if_pos h2,List.getElem?_append_right (by omega),hL,List.getElem?_eq_getElem (by rw[hn];rw[Nat.add_mul] at hi;omega)]
      ·rw[if_neg h2,List.getElem?_append_left (by omega)]
       have:=hold i (by omega)
       unfold cellAt at this
       rw[if_pos (by omega),Nat.zero_add] at this
       exact this
     ·have hr:dJ c z L0.length off (len*m)=some L:=qM _ _ _ hL hold
      refine⟨PT.ofList (L++new),[],by rw[if_neg h0];simp only[ho,if_false,hr],fun i hi=>?_⟩
      unfold cellAt
      rw[if_pos (by rw[← hlen];exact hi),PT.fE,List.getElem?_eq_getElem hi]
   have hlen:(L++new).length=(len+k)*m:=by rw[List.length_append,hL,hn,Nat.add_mul]
   refine⟨.slice (some ⟨(if room=true then s.kill b else s).next,0,none⟩) (len+k) (len+k),(if room=true then s.kill b else s).new fun v=>.cells c' z' ((len+k)*m) e true false v,?_,?_,?_,?_,_,_,rfl⟩
   ·unfold jI
    rw[if_neg hfit]
    simp only[hb]
    rw[if_pos ⟨trivial,hin⟩,hg,hks.2]
   ·refine .own (L0:=L++new) ⟨c',z',true,(if room=true then s.kill b else s).cM,?_,?_⟩ (by rw[hlen];omega) (Nat.le_refl _) hlen (fun i _=>by rw[Nat.zero_add])
    ·rw[hlen]
     simp only[St.new,PT.bU,if_true]
    ·rw[hlen]
     intro i hi
     exact hc' i (by rw[hlen];exact hi)
   ·exact hks.1.new (.inr (Nat.le_refl _))
   ·intro x hx
    simp only[nameOf,List.mem_singleton] at hx
    exact .inr (by rw[hx,hks.2];exact Nat.le_refl _)
end Go.Dust
