/- Eu Er Eo UA UP Ep Dw Dx -/
import Derived.Test.YtelmjodchophjaaGreatDoorG
import Derived.Test.YtelmjodchophjaaGreatDoorH
import Derived.Test.YtelmjodchophjaaGreatDoorE
set_option linter.unusedVariables false
set_option linter.unusedSimpArgs false
section
/- Loops whose invariants speak of what changes alone: all registers but some are as0 they were when the loop began. -/
namespace Go.Dust
/-- All registers below k but those of W are as0 they were. -/
def Agr (k : Nat) (W : List Nat) (b a : ACt) : Prop := ∀ t, t < k → W.contains t = false → a.getT t = b.getT t
theorem Agr.get {k : Nat} {W : List Nat} {b a : ACt} (h : Agr k W b a) {t : Nat} (h1 : t < k) (ht : W.contains t = false) : a.getT t = b.getT t := h t h1 ht
theorem agr_put {k : Nat} {W : List Nat} {b a : ACt} {d : Nat} {v : Value} (h : k ≤ d ∨ W.contains d = true) : Agr k W b (a.put (some d) v) ↔ Agr k W b a := by
  refine forall_congr' fun t => forall_congr' fun h1 => forall_congr' fun ht => ?_
  rw [reg_put, if_neg]
  rintro rfl
  rcases h with h | h
  · omega
  · rw [h] at ht; cases ht
def inW (k : Nat) (W : List Nat) (d : Nat) : Bool := Nat.ble k d || W.contains d
theorem inW_iff {k d : Nat} {W : List Nat} : inW k W d = true ↔ k ≤ d ∨ W.contains d = true := by
  unfold inW; rw [Bool.or_eq_true, Nat.ble_eq]
theorem Agr.up {k k' : Nat} {W W' : List Nat} {a b c : ACt} (h' : Agr k' W' b c) (h1 : (Nat.ble k k' && W'.all (inW k W)) = true) (h : Agr k W a b) : Agr k W a c := by
  rw [Bool.and_eq_true, List.all_eq_true] at h1
  intro t ht hW
  rw [← h t ht hW]
  have := Nat.le_of_ble_eq_true h1.1
  refine h' t (by omega) ?_
  cases hc : W'.contains t with
  | false => rfl
  | true =>
    have := h1.2 t (List.contains_iff_mem.1 hc)
    rcases inW_iff.1 this with h2 | h2
    · omega
    · rw [h2] at hW; cases hW
theorem map_put {A : List Nat} {a : ACt} {d : Nat} {v : Value} (h : A.contains d = false) : A.map (a.put (some d) v).getT = A.map a.getT := by
  refine List.map_congr_left fun t ht => ?_
  rw [reg_put, if_neg]
  rintro rfl
  rw [List.contains_iff_mem.2 ht] at h; cases h
theorem inc_wrap {j n : Nat} (h : j < n) (hn : n < 2 ^ 62) : IntKind.i64.wrap ((j : Int) + 1) = ((j + 1 : Nat) : Int) := by
  rw [wrapI (by omega) (by omega)]; rfl
theorem Agr.out {k : Nat} {W : List Nat} {b a : ACt} (h : Agr k W b a) {t : Nat} (ht : inW k W t = false) : a.getT t = b.getT t := by
  unfold inW at ht
  rw [Bool.or_eq_false_iff] at ht
  refine h t (Nat.lt_of_not_le fun hh => ?_) ht.2
  rw [Nat.ble_eq_true_of_le hh] at ht
  cases ht.1
section
variable {q : Bool} {X : Env} {K : Orc} {r : Option Nat} {G body : Code} {e b n g i : Nat} {t m x y z c : Nat} {T1 T2 T3 T4 T5 T6 T7 : TypeId} {p1 p2 p3 : String} {e1 e2 e3 : Array Edge} {Φ : AExit → ACt → St → Prop} (k : Nat) (W A : List Nat) (I : Nat → List Value → St → Prop) {a : ACt} {s : St}
/-- 'range': n rounds, counted in register t, n in register m. -/
theorem okC_rng (hW : (inW k W t && inW k W z && inW k W c && !inW k W m && !A.contains t && !A.contains z && !A.contains c && !(t == c)) = true) (hn : n < 2 ^ 62) (hm : a.getT m = .int .i64 n) (ht : a.getT t = .int .i64 0) (h0 : I 0 (A.map a.getT) s)
    (hB : ∀ j a' s', j < n → Agr k W a a' → a'.getT t = .int .i64 j → I j (A.map a'.getT) s' → ∀ Ψ : AExit → ACt → St → Prop, (∀ a'' s'', Agr k W a a'' → a''.getT t = .int .i64 j → I (j + 1) (A.map a''.getT) s'' → Ψ .normal a'' s'' ∧ Ψ (.exit b) a'' s'') → (∀ e' a s, e' ≠ .normal → e' ≠ .exit b → Φ e' a s → Ψ e' a s) → okC q X K r body a' s' Ψ)
    (hE : ∀ a' s', Agr k W a a' → I n (A.map a'.getT) s' → Φ (.exit e) a' s') :
    okC q X K r (.loop (.seq (.region g #[⟨some c, .binOp .lss T1 (.tmp t) (.tmp m) T2, T3, p1, e1, none⟩] false) (.seq (.cond (.tmp c) .skip (.exit e)) (.seq (.block b body) (.region i #[⟨some z, .binOp .add T4 (.tmp t) (.const (.int .i64 1)) T5, T6, p2, e2, none⟩, ⟨some t, .move (.tmp z), T7, p3, e3, none⟩] false))))) a s Φ := by
  simp only [Bool.and_eq_true, Bool.not_eq_true'] at hW
  obtain ⟨⟨⟨⟨⟨⟨⟨w1, w2⟩, w3⟩, w4⟩, w5⟩, w6⟩, w7⟩, w8⟩ := hW
  refine okC_range (n := n) (fun j a' s => Agr k W a a' ∧ a'.getT t = .int .i64 j ∧ I j (A.map a'.getT) s) (fun j a' s => Agr k W a a' ∧ a'.getT t = .int .i64 j ∧ I (j + 1) (A.map a'.getT) s)
    (fun j a' s hj ⟨h1, h2, h3⟩ Ψ w => ?_) (fun j a' s hj ⟨h1, h2, h3⟩ Ψ u1 u2 u3 => hB j a' s hj h1 h2 h3 Ψ (fun a'' s' h1 h2 h3 => ⟨u1 _ _ ⟨h1, h2, h3⟩, u2 _ _ ⟨h1, h2, h3⟩⟩) u3)
    (fun j a' s hj ⟨h1, h2, h3⟩ Ψ w => ?_) (fun a' s ⟨h1, _, h3⟩ => hE a' s h1 h3) (Nat.zero_le _) ⟨fun _ _ _ => rfl, ht, h0⟩
  · simp only [RC, RO, RV, RB, RG, h1.out w4, hm, h2, ↓reduceIte, Nat.reduceEqDiff, reduceCtorEq, Int.reduceEq, Nat.reduceMul, Nat.reduceAdd, Nat.reduceBEq, Int.reduceBEq, noteOk, List.mem_cons, List.not_mem_nil, true_or, or_true, or_false, true_and, and_true]
    refine w _ _ (decide ((j : Int) < n)) (by simp only [RV, ↓reduceIte]) (by simp) ⟨(agr_put (inW_iff.1 w3)).2 h1, ?_, by rw [map_put w7]; exact h3⟩
    rw [reg_put, if_neg (beq_eq_false_iff_ne.1 w8)]; exact h2
  · simp only [RC, RO, RV, RB, RG, h2, inc_wrap hj hn, ↓reduceIte, Nat.reduceEqDiff, reduceCtorEq, Int.reduceEq, Nat.reduceMul, Nat.reduceAdd, Nat.reduceBEq, Int.reduceBEq, noteOk, List.mem_cons, List.not_mem_nil, true_or, or_true, or_false, true_and, and_true]
    refine w _ _ ⟨(agr_put (inW_iff.1 w1)).2 ((agr_put (inW_iff.1 w2)).2 h1), ?_, ?_⟩
    · rw [reg_put, if_pos rfl]
    · rw [map_put w5, map_put w6]; exact h3
/-- A loop that counts in register t. -/
theorem okC_cnt {C : Operand} (hW : (inW k W t && inW k W x && inW k W y && !A.contains t && !A.contains x && !A.contains y) = true) (hn : n < 2 ^ 62) (ht : a.getT t = .int .i64 0) (h0 : I 0 (A.map a.getT) s)
    (hG : ∀ j a' s', j ≤ n → Agr k W a a' → a'.getT t = .int .i64 j → I j (A.map a'.getT) s' → ∀ Ψ : AExit → ACt → St → Prop, (∀ a'' s'', a''.eval C = .bool (decide (j < n)) → Agr k W a a'' → a''.getT t = .int .i64 j → I j (A.map a''.getT) s'' → Ψ .normal a'' s'') → okC q X K r G a' s' Ψ)
    (hB : ∀ j a' s', j < n → Agr k W a a' → a'.getT t = .int .i64 j → I j (A.map a'.getT) s' → ∀ Ψ : AExit → ACt → St → Prop, (∀ a'' s'', Agr k W a a'' → a''.getT t = .int .i64 j → I (j + 1) (A.map a''.getT) s'' → Ψ .normal a'' s'' ∧ Ψ (.exit b) a'' s'') → (∀ e' a s, e' ≠ .normal → e' ≠ .exit b → Φ e' a s → Ψ e' a s) → okC q X K r body a' s' Ψ)
    (hE : ∀ a' s', Agr k W a a' → I n (A.map a'.getT) s' → Φ (.exit e) a' s') :
    okC q X K r (.loop (.seq (.seq G (.cond C .skip (.exit e))) (.seq (.block b body) (.region i #[⟨some x, .move (.tmp t), T1, p1, e1, none⟩, ⟨some y, .binOp .add T2 (.tmp x) (.const (.int .i64 1)) T3, T4, p2, e2, none⟩, ⟨some t, .assign (.tmp y), T5, p3, e3, none⟩] false)))) a s Φ := by
  simp only [Bool.and_eq_true, Bool.not_eq_true'] at hW
  obtain ⟨⟨⟨⟨⟨w1, w2⟩, w3⟩, w5⟩, w6⟩, w7⟩ := hW
  refine okC_for (n := n) (fun j a' s => Agr k W a a' ∧ a'.getT t = .int .i64 j ∧ I j (A.map a'.getT) s) (fun j a' s => Agr k W a a' ∧ a'.getT t = .int .i64 j ∧ I (j + 1) (A.map a'.getT) s)
    (fun j a' s hj ⟨h1, h2, h3⟩ Ψ w => hG j a' s hj h1 h2 h3 Ψ fun a'' s'' k1 k2 k3 k4 => w a'' s'' _ k1 (by simp) ⟨k2, k3, k4⟩) (fun j a' s hj ⟨h1, h2, h3⟩ Ψ u1 u2 u3 => hB j a' s hj h1 h2 h3 Ψ (fun a'' s' h1 h2 h3 => ⟨u1 _ _ ⟨h1, h2, h3⟩, u2 _ _ ⟨h1, h2, h3⟩⟩) u3)
    (fun j a' s hj ⟨h1, h2, h3⟩ Ψ w => ?_) (fun a' s ⟨h1, _, h3⟩ => hE a' s h1 h3) (Nat.zero_le _) ⟨fun _ _ _ => rfl, ht, h0⟩
  simp only [RC, RO, RV, RB, RG, h2, inc_wrap hj hn, ↓reduceIte, Nat.reduceEqDiff, reduceCtorEq, Int.reduceEq, Nat.reduceMul, Nat.reduceAdd, Nat.reduceBEq, Int.reduceBEq, noteOk, List.mem_cons, List.not_mem_nil, true_or, or_true, or_false, true_and, and_true]
  refine w _ _ ⟨(agr_put (inW_iff.1 w1)).2 ((agr_put (inW_iff.1 w3)).2 ((agr_put (inW_iff.1 w2)).2 h1)), ?_, ?_⟩
  · rw [reg_put, if_pos rfl]
  · rw [map_put w5, map_put w7, map_put w6]; exact h3
end
end Go.Dust
end
section
/- Loops over functions: the rules. -/
namespace Go.Dust
section
variable {q : Bool} {X : Env} {K : Orc}
theorem okC_rf {r : Option Nat} {g : Operand} {ps : Array Tmp} {as0 bd : Code} {a : ACt} {s : St} {Φ : AExit → ACt → St → Prop} {f : FuncId} {first captured : Array Value} (hg : a.eval g = .func (.func f) first captured) (hlive : liveRound r s = true)
    (h : okF q X K f (first.toList ++ [.func (.yield s.next) #[] #[]] ++ captured.toList) (s.new fun v => .loop .ready none a.tmps a.nt ps as0 bd v) fun _ s' => ∃ st t nt ps' as' bd' ver, s'.heap.get s.next = some (.loop st none t nt ps' as' bd' ver) ∧ st ≠ .busy ∧
      Φ .normal a (s'.put s.next fun v => .loop .exhausted none t nt ps' as' bd' v)) : okC q X K r (.rangeFunc g ps as0 bd) a s Φ := by
  obtain ⟨n, hn⟩ := h
  refine ⟨n + 1, ?_⟩
  rw [codeO, hg]
  simp only [hlive, if_true]
  rw [Res.AllQ_bind]
  refine hn.mono fun p hq => ?_
  obtain ⟨v, s'⟩ := p
  obtain ⟨st, t, nt, ps', as', bd', ver, h1, h2, h3⟩ := hq
  simp only at h1 ⊢
  rw [h1]
  simp only
  rw [if_neg h2]
  exact h3
theorem okR_of {l : Nat} {args : List Value} {s : St} {Φ : Value → St → Prop} {pend : Option Code} {t : PT Value} {nt : Nat} {ps : Array Tmp} {as0 bd : Code} {ver : Nat} (hl : s.heap.get l = some (.loop .ready pend t nt ps as0 bd ver)) (hn : args.length = ps.size)
    (h : okC q X K (some l) as0 { tmps := putArgs t (ps.toList.zip args), nt := nt } s fun e a s => e = .normal ∧ ∃ pend t nt ps as0 bd' ver, s.heap.get l = some (.loop .ready pend t nt ps as0 bd' ver) ∧
      okC q X K (some l) bd a (s.put l fun v => .loop .busy pend t nt ps as0 bd' v) fun e _ s => e = .normal ∧ ∃ st pend t nt ps as0 bd ver, s.heap.get l = some (.loop st pend t nt ps as0 bd ver) ∧ Φ (.bool true) (s.put l fun v => .loop .ready none t nt ps as0 bd v)) :
    okR q X K l args s Φ := by
  obtain ⟨n, hn'⟩ := h
  obtain ⟨m, hm⟩ := Res.AllQ_uniform (Q := fun m (p : AExit × ACt × St) => p.1 = .normal ∧ ∃ pend t nt ps as0 bd' ver, p.2.2.heap.get l = some (.loop .ready pend t nt ps as0 bd' ver) ∧
      (codeO X K m (some l) bd p.2.1 (p.2.2.put l fun v => .loop .busy pend t nt ps as0 bd' v)).AllQ q fun p => p.1 = .normal ∧ ∃ st pend t nt ps as0 bd ver, p.2.2.heap.get l = some (.loop st pend t nt ps as0 bd ver) ∧ Φ (.bool true) (p.2.2.put l fun v => .loop .ready none t nt ps as0 bd v))
    (fun m p hp => by
      obtain ⟨h1, a1, a2, a3, a4, a5, a6, a7, h2, h3⟩ := hp
      exact ⟨h1, a1, a2, a3, a4, a5, a6, a7, h2, code_up (Nat.le_succ m) h3⟩)
    (hn'.mono fun p hp => by
      obtain ⟨h1, a1, a2, a3, a4, a5, a6, a7, h2, k, h3⟩ := hp
      exact ⟨k, h1, a1, a2, a3, a4, a5, a6, a7, h2, h3⟩)
  refine ⟨max n m + 1, ?_⟩
  rw [roundO, hl]
  simp only
  rw [if_pos hn, Res.AllQ_bind]
  refine (code_up (Nat.le_max_left n m) hm).mono fun p hp => ?_
  obtain ⟨e, a, s'⟩ := p
  obtain ⟨h1, a1, a2, a3, a4, a5, a6, a7, h2, h3⟩ := hp
  simp only at h1 h2 h3
  subst h1
  simp only [h2]
  rw [Res.AllQ_bind]
  refine (code_up (Nat.le_max_right n m) h3).mono fun p hp => ?_
  obtain ⟨e, a, s''⟩ := p
  obtain ⟨h1, b1, b2, b3, b4, b5, b6, b7, b8, h4, h5⟩ := hp
  simp only at h1 h4 h5
  subst h1
  simp only [h4]
  exact h5
end
section
variable {X : Env} {K : Orc} {ops : Array Oper} {base i : Nat} {c : List (Nat × Nat)} {F : List Nat} {d : Option Tmp} {ty : TypeId} {pos : String} {af : Array Edge} {l : List Oper} {a : ACt} {s : St} {Φ : ACt → St → Prop}
/-- A call of a value in a drawn region. -/
theorem d_callv {t as0 ts} (hc : okCallV false X K s (a.getT t) (as0.toList.map a.eval) fun v s' => noteOk c F i (readsOf a.eval s.look (.call ⟨.value (.tmp t), as0, ts⟩)) s s' ∧ okD X K ops base c F l (i + 1) (a.put d v) s' Φ) :
    okD X K ops base c F (⟨d, .call ⟨.value (.tmp t), as0, ts⟩, ty, pos, af, none⟩ :: l) i a s Φ := by
  obtain ⟨n, hn⟩ := hc
  obtain ⟨⟨v, s'⟩, h1, hno, m, ⟨a2, s2, lg⟩, h2, h3⟩ := Res.AllQ_false hn
  have hv : ∀ (cl : CallF) (r : RoundF), effectA X cl r s a.eval (.call ⟨.value (.tmp t), as0, ts⟩) = callV X cl r s (a.getT t) (as0.toList.map a.eval) := fun cl r => rfl
  refine ⟨max n m, ⟨a2, s2, { ran := true, reads := readsOf a.eval s.look (.call ⟨.value (.tmp t), as0, ts⟩), pre := s, post := s' } :: lg⟩, ?_, ⟨fun _ => hno, h3.1⟩, h3.2⟩
  rw [logOps, if_pos (wanted_none ..), execN]
  have h4 : callV X (callO X K (max n m)) (roundO X K (max n m)) s (a.getT t) (as0.toList.map a.eval) = .ret (v, s') := by
    have hle := callV_le (X := X) (callO_up (X := X) (K := K) (Nat.le_max_left n m)) (roundO_up (X := X) (K := K) (Nat.le_max_left n m)) s (a.getT t) (as0.toList.map a.eval)
    rw [h1] at hle
    generalize callV X (callO X K (max n m)) (roundO X K (max n m)) s (a.getT t) (as0.toList.map a.eval) = u at hle
    cases hle
    rfl
  simp only [show kindOf (.call ⟨.value (.tmp t), as0, ts⟩) = .effect from rfl, hv, h4]
  rw [logOps_up (Nat.le_max_right n m) h2]
theorem okD_callvx {t as0 ts f} {fi ca : Array Value} {args : List Value} (hf : a.getT t = .func (.func f) fi ca) (h : fi.toList ++ as0.toList.map a.eval ++ ca.toList = args)
    (hc : okF false X K f args s fun v s' => noteOk c F i (readsOf a.eval s.look (.call ⟨.value (.tmp t), as0, ts⟩)) s s' ∧ okD X K ops base c F l (i + 1) (a.put d v) s' Φ) : okD X K ops base c F (⟨d, .call ⟨.value (.tmp t), as0, ts⟩, ty, pos, af, none⟩ :: l) i a s Φ := by
  refine d_callv ?_
  rw [hf, cv_func, h]
  exact hc
theorem okD_yieldx {t as0 ts y} {args : List Value} (hf : a.getT t = y) (h : as0.toList.map a.eval = args)
    (hc : okCallV false X K s y args fun v s' => noteOk c F i (readsOf a.eval s.look (.call ⟨.value (.tmp t), as0, ts⟩)) s s' ∧ okD X K ops base c F l (i + 1) (a.put d v) s' Φ) : okD X K ops base c F (⟨d, .call ⟨.value (.tmp t), as0, ts⟩, ty, pos, af, none⟩ :: l) i a s Φ := by
  refine d_callv ?_
  rw [hf, h]
  exact hc
end
end Go.Dust
end
section
/- To forget what a run made: the tie of a state from that of a later one in which its objects lie as0 they lay. -/
namespace Go.Dust
theorem VR.back {ι ι' : Inj} (hle : ι.le ι') {v u : Value} (h : VR ι v u) : ∀ {u' : Value}, VR ι' v u' → VR ι v u' := by
  have arr : ∀ {a a' b : Array Value}, a.size = a'.size → (∀ (i : Nat) v u, a[i]? = some v → a'[i]? = some u → ∀ {u'}, VR ι' v u' → VR ι v u') → (∀ (i : Nat) v u, a[i]? = some v → b[i]? = some u → VR ι' v u) → ∀ (i : Nat) v u, a[i]? = some v → b[i]? = some u → VR ι v u := by
    intro a a' b hs ih h i v u hv hu
    have hi : i < a'.size := by
      rw [← hs]
      exact (Array.getElem?_eq_some_iff.1 hv).1
    exact ih i v a'[i] hv (Array.getElem?_eq_getElem hi) (h i v u hv hu)
  have nm : ∀ {b : Nat} {l l' : Loc}, ι b = some l → ι' b = some l' → l' = l := by
    intro b l l' h h'
    have := hle _ _ h
    rw [h'] at this
    exact Option.some.inj this
  induction h with
  | bool b => intro u' k; cases k; exact .bool b
  | int k n => intro u' k; cases k; exact .int _ n
  | float k n => intro u' k; cases k; exact .float _ n
  | string s => intro u' k; cases k; exact .string s
  | nilptr => intro u' k; cases k; exact .nilptr
  | ptr h =>
    intro u' k
    cases k with
    | ptr k => cases nm h k; exact .ptr h
  | nilslice n c => intro u' k; cases k; exact .nilslice n c
  | slice n c h =>
    intro u' k
    cases k with
    | slice _ _ k => cases nm h k; exact .slice _ _ h
  | slice0 h =>
    intro u' k
    cases k with
    | slice0 k => cases nm h k; exact .slice0 h
  | nilmap => intro u' k; cases k; exact .nilmap
  | map h =>
    intro u' k
    cases k with
    | map k => cases nm h k; exact .map h
  | func ha hc _ _ ih1 ih2 =>
    intro u' k
    cases k with
    | func ha' hc' k1 k2 => exact .func ha' hc' (arr ha ih1 k1) (arr hc ih2 k2)
  | meth ha hc _ _ ih1 ih2 =>
    intro u' k
    cases k with
    | meth ha' hc' k1 k2 => exact .meth ha' hc' (arr ha ih1 k1) (arr hc ih2 k2)
  | yield h =>
    intro u' k
    cases k with
    | yield k => cases nm h k; exact .yield h
  | nilFunc => intro u' k; cases k; exact .nilFunc
  | nilIface => intro u' k; cases k; exact .nilIface
  | iface t _ ih =>
    intro u' k
    cases k with
    | iface _ k => exact .iface t (ih k)
  | agg ha _ ih =>
    intro u' k
    cases k with
    | agg ha' k => exact .agg ha' (arr ha ih k)
  | tuple ha _ ih =>
    intro u' k
    cases k with
    | tuple ha' k => exact .tuple ha' (arr ha ih k)
theorem ER.back {ι ι' : Inj} (hle : ι.le ι') {e x y : MapEntry} (h : ER ι e x) (k : ER ι' e y) : ER ι e y := ⟨h.1.back hle k.1, h.2.back hle k.2, k.3⟩
theorem ERs.back {ι ι' : Inj} (hle : ι.le ι') : ∀ {l l' l'' : List MapEntry}, ERs ι l l' → ERs ι' l l'' → ERs ι l l''
  | _, _, _, .nil, .nil => .nil
  | _, _, _, .cons h t, .cons k u => .cons (h.back hle k) (ERs.back hle t u)
theorem ObjR.back {X : Env} {ι ι' : Inj} {w w' : World} {l : Loc} (hle : ι.le ι') : ∀ {o : AObj}, ObjR X ι w l o → ObjR X ι' w' l o → ObjR X ι w' l o
  | .cells .., h, k => by
    obtain ⟨arr, e', fz, h1, h2, h3, h4, h5, h6, h7⟩ := h
    obtain ⟨arr', e'', fz', k1, k2, k3, k4, k5, k6, k7⟩ := k
    refine ⟨arr', e'', fz', k1, k2, k3, k4, k5, k6, fun i hi => ?_⟩
    obtain ⟨v, u, a, b, c⟩ := h7 i hi
    obtain ⟨v', u', a', b', c'⟩ := k7 i hi
    rw [a] at a'; cases a'
    exact ⟨v, u', a, b', c.back hle c'⟩
  | .map .., h, k => by
    obtain ⟨h0, h1, h2, es', h3, h4⟩ := h
    obtain ⟨_, _, _, es'', k3, k4⟩ := k
    exact ⟨h0, h1, h2, es'', k3, h4.back hle k4⟩
  | .miter none .., h, k => k
  | .miter (some m) .., h, k => by
    obtain ⟨h0, h1, h2, lm, h3, h4⟩ := h
    obtain ⟨_, _, _, lm', k3, k4⟩ := k
    have := hle _ _ h3
    rw [k3] at this; cases this
    exact ⟨h0, h1, h2, lm, h3, k4⟩
  | .siter .., h, k => k
  | .loop .., h, k => by
    obtain ⟨h0, h1, h2, h3, h4, h4', r, h5, h6, h7, h8, h9, h10, h11, h12⟩ := h
    obtain ⟨_, _, _, _, _, _, r', k5, k6, k7, k8, k9, k10, k11, k12⟩ := k
    exact ⟨h0, h1, h2, h3, h4, h4', r', k5, k6, k7, k8, k9, k10, k11, fun i hi => (h12 i hi).back hle (k12 i hi)⟩
  | .dead, _, _ => trivial
theorem R.back {X : Env} {ι ι' : Inj} {H H' : Look} {n n' : Nat} {w w' : World} (h : R X ι H n w) (k : R X ι' H' n' w') (e : Ext ι H n w ι' H' n' w') (hk : ∀ b o, H b = some o → o.isDead = false → H' b = some o) : R X ι H n w' := by
  refine ⟨h.even, h.odd, h.fresh, fun b l hb hl => Nat.lt_of_lt_of_le (h.inb b l hb hl) e.size, fun b o hb hd => ?_, h.inj⟩
  obtain ⟨l, h1, h2⟩ := h.obj b o hb hd
  obtain ⟨l', k1, k2⟩ := k.obj b o (hk b o hb hd) hd
  have := e.le _ _ h1
  rw [k1] at this; cases this
  exact ⟨l, h1, h2.back e.le k2⟩
theorem Ext.back {ι ι' : Inj} {H H' : Look} {n n' : Nat} {w w' : World} (e : Ext ι H n w ι' H' n' w') : Ext ι H n w ι H n w' :=
  ⟨Inj.le_refl _, fun _ h _ => h, Nat.le_refl _, e.os, e.tape, e.output, e.size, e.keep, fun _ h => .inl h⟩
/-- A call that changes nothing that lies. -/
theorem back_keeps {P : Program} {ι : Inj} {s : St} {W : World} {v : Value} {Φ : Value → St → Prop} (hR : RS P ι s W) (hv : ∀ ι' u, VR ι' v u → VR ι v u) (hΦ : Φ v s) {e : Ending} {W' : World} {s' : St} {ι' : Inj} {v' : Value}
    (he : e = .returned v') (h1 : VR ι' v v') (h2 : RS P ι' s' W') (h3 : ES ι s W ι' s' W') (hk : Keeps [] s s') : ∃ v s' ι' v', e = .returned v' ∧ VR ι' v v' ∧ RS P ι' s' W' ∧ ES ι s W ι' s' W' ∧ Φ v s' :=
  ⟨v, s, ι, v', he, hv _ _ h1, R.back hR h2 h3 fun b o hb _ => hk.old b o hb (by simp), h3.back, hΦ⟩
end Go.Dust
end
section
/- What is given of some calls: of 'awake', of verify.Text, of numbers, and of five functions of Go's strings. -/
namespace Go.Dust
open Go.Proofs Go.RowKit
set_option maxRecDepth 100000
set_option maxHeartbeats 1000000
set_option linter.unusedSimpArgs false
set_option linter.unusedVariables false
abbrev int (n : Int) : Value := .int .i64 n
abbrev u8v (n : Int) : Value := .int .u8 n
abbrev ptr (b : Nat) : Value := .pointer (some ⟨b, 0, none⟩)
def ftV (f : Ft) : List Value := [int f.1, int f.2.1, int f.2.2]
/-- The program's variables as0 they lie. -/
structure GlobAt (s : St) : Prop where
  names : ∃ v, s.heap.get 0 = some (.cells (PT.ofList (nm12.map str)) [] 12 9 false true v)
  pow : ∃ v, s.heap.get 8 = some (.cells (PT.ofList (Lib.pow10Tab.map (Value.int .u64))) [] 20 0 true true v)
  syn : ∃ v t p, s.heap.get 4 = some (.cells (PT.ofList [.iface t p]) [] 1 39 false true v)
  ran : ∃ v t p, s.heap.get 6 = some (.cells (PT.ofList [.iface t p]) [] 1 39 false true v)
theorem GlobAt.keep {s s' : St} {F : List Nat} (h : GlobAt s) (k : Keeps F s s') (hF : ∀ x ∈ F, 9 ≤ x) : GlobAt s' := by
  have f : ∀ x, x < 9 → x ∉ F := fun x hx hm => by have := hF x hm; omega
  obtain ⟨⟨a, ha⟩, ⟨b, hb⟩, ⟨c, t, p, hc⟩, ⟨d, t', p', hd⟩⟩ := h
  exact ⟨⟨a, k.old _ _ ha (f 0 (by omega))⟩, ⟨b, k.old _ _ hb (f 8 (by omega))⟩, ⟨c, t, p, k.old _ _ hc (f 4 (by omega))⟩, ⟨d, t', p', k.old _ _ hd (f 6 (by omega))⟩⟩
section
variable {P : Program} {ι : Inj} {s : St} {w : World}
theorem even_loc (hR : RS P ι s w) {b : Nat} {l : Loc} (h : ι (2 * b) = some l) : l = ⟨b, 0, 0, true⟩ := by
  have := hR.even b
  rw [h] at this
  exact Option.some.inj this
theorem glob_cell (hR : RS P ι s w) {g n e : Nat} {L : List Value} {room : Bool} {v : Nat} (h : s.heap.get (2 * g) = some (.cells (PT.ofList L) [] n e room true v)) {i : Nat} (hi : i < n) {x : Value} (hx : L[i]? = some x) : ∃ u, w.cell? ⟨g, i, none⟩ = some u ∧ VR ι x u := by
  obtain ⟨l, h1, arr, e', fz, h2, _, _, _, _, _, h7⟩ := hR.obj _ _ h rfl
  cases even_loc hR h1
  obtain ⟨y, u, a1, a2, a3⟩ := h7 i hi
  unfold cellAt at a1
  rw [if_pos hi, PT.get_ofList, hx] at a1
  cases a1
  rw [Nat.zero_add] at a2
  exact ⟨u, by rw [World.cell?, h2]; simpa using a2, a3⟩
theorem glob_names (hR : RS P ι s w) (G : GlobAt s) {k : Nat} (hk : k < 12) : w.cell? ⟨0, k, none⟩ = some (.string ⟨(nm12.getD k []).toArray⟩) := by
  obtain ⟨v, h⟩ := G.names
  obtain ⟨u, h1, h2⟩ := glob_cell (g := 0) hR h hk (x := str (nm12.getD k [])) (by
    rw [List.getElem?_map, List.getD_eq_getElem?_getD, List.getElem?_eq_getElem (show k < nm12.length from hk)]; rfl)
  rw [h1, h2.string_eq]
theorem glob_tab (hR : RS Tryz.prog ι s w) (G : GlobAt s) : Lib.TabIs Tryz.prog w "internal/strconv.uint64pow10" .u64 Lib.pow10Tab := by
  obtain ⟨v, h⟩ := G.pow
  obtain ⟨l, h1, arr, e', fz, h2, h3, _, _, _, _, h7⟩ := hR.obj _ _ h rfl
  cases even_loc (b := 4) hR h1
  have hsz : 0 + 20 = arr.size := h3.2 rfl rfl
  unfold Lib.TabIs World.var?
  rw [show Tryz.prog.globalNamed "internal/strconv.uint64pow10" = some 4 by kernel_rfl]
  simp only [Option.bind_some, h2]
  congr 1
  apply Array.ext_getElem?
  intro i
  by_cases hi : i < 20
  · obtain ⟨y, u, a1, a2, a3⟩ := h7 i hi
    unfold cellAt at a1
    rw [if_pos hi, PT.get_ofList] at a1
    have hL : i < Lib.pow10Tab.length := by rw [Lib.pow10Tab_length]; exact hi
    rw [List.getElem?_map, List.getElem?_eq_getElem hL] at a1
    simp only [Option.map_some] at a1
    cases a1
    rw [Nat.zero_add] at a2
    rw [a2, VR.int_eq a3]
    rw [List.getElem?_toArray, List.getElem?_map, List.getElem?_eq_getElem hL]
    rfl
  · rw [Array.getElem?_eq_none (by omega), Array.getElem?_eq_none (by simp [Lib.pow10Tab_length]; omega)]
theorem glob_err (hR : RS P ι s w) {g : Nat} (h : ∃ v t p, s.heap.get (2 * g) = some (.cells (PT.ofList [.iface t p]) [] 1 39 false true v)) : ∃ t p, w.cell? ⟨g, 0, none⟩ = some (.iface t p) := by
  obtain ⟨v, t, p, h⟩ := h
  obtain ⟨u, h1, h2⟩ := glob_cell hR h (show 0 < 1 by omega) (x := .iface t p) rfl
  cases h2 with
  | iface _ h3 => exact ⟨t, _, h1⟩
end
/-! ### verify.Text -/
open Classical in
noncomputable def textV (L : List Ft) : Value := if ∀ f ∈ L, ftOk f then .tuple #[str (ftText L), int 0] else .tuple #[str [], int 2]
theorem ftV_get : ∀ (L : List Ft) (j i : Nat) (hj : j < L.length), i < 3 → (L.flatMap ftV)[j * 3 + i]? = (ftV L[j])[i]?
  | f :: L, 0, i, _, hi => by
    rw [List.flatMap_cons, List.getElem?_append_left (by simp [ftV]; omega)]
    simp
  | f :: L, j + 1, i, hj, hi => by
    rw [List.flatMap_cons, List.getElem?_append_right (by simp [ftV]; omega)]
    rw [show (j + 1) * 3 + i - (ftV f).length = j * 3 + i by simp [ftV]; omega, ftV_get L j i (by simpa using hj) hi]
    simp
structure FtsAt (args : List Value) (s : St) (L : List Ft) : Prop where
  ex : ∃ a c, args = [.slice a L.length c] ∧ Sl s 3 (.slice a L.length c) (L.flatMap ftV)
  glob : GlobAt s
  len : L.length ≤ 100000
  i64 : ∀ f ∈ L, in64 f.2.1 ∧ in64 f.2.2
theorem ftV_inj : ∀ {L L' : List Ft}, L.length = L'.length → L.flatMap ftV = L'.flatMap ftV → L = L'
  | [], [], _, _ => rfl
  | f :: L, g :: L', hl, h => by
    rw [List.flatMap_cons, List.flatMap_cons] at h
    unfold ftV at h
    simp only [List.cons_append, List.nil_append, List.cons.injEq, Value.int.injEq, true_and] at h
    obtain ⟨h1, h2, h3, h4⟩ := h
    rw [ftV_inj (by simpa using hl) h4]
    congr 1
    exact Prod.ext h1 (Prod.ext h2 h3)
  | [], _ :: _, h, _ => by cases h
  | _ :: _, [], h, _ => by cases h
theorem FtsAt.uniq {args : List Value} {s : St} {L L' : List Ft} (h : FtsAt args s L) (h' : FtsAt args s L') : L = L' := by
  obtain ⟨a, c, e, hs⟩ := h.ex
  obtain ⟨a', c', e', hs'⟩ := h'.ex
  rw [e] at e'
  simp only [List.cons.injEq, Value.slice.injEq, and_true] at e'
  obtain ⟨rfl, hl, rfl⟩ := e'
  refine ftV_inj hl ?_
  rw [← hl] at hs'
  have h1 := hs.len
  have h2 := hs'.len
  refine List.ext_getElem? fun i => ?_
  by_cases hi : i < L.length * 3
  · obtain ⟨b, off, rfl⟩ := hs.addr (by omega)
    have g1 := hs.load (List.getElem?_eq_getElem (show i < (L.flatMap ftV).length by omega))
    have g2 := hs'.load (List.getElem?_eq_getElem (show i < (L'.flatMap ftV).length by omega))
    rw [g1] at g2
    rw [List.getElem?_eq_getElem (by omega), List.getElem?_eq_getElem (by omega)]
    exact g2
  · rw [List.getElem?_eq_none (by omega), List.getElem?_eq_none (by omega)]
open Classical in
noncomputable def textO (args : List Value) (s : St) : Option (Res (Value × St)) := if h : ∃ L, FtsAt args s L then some (.ret (textV (Classical.choose h), s)) else none
/-! ### Numbers, and what is closed -/
/-- An error that is not nil. -/
def errV (s : St) : Value := .iface 145 (.pointer (some ⟨s.next, 0, none⟩))
noncomputable def atoiR (l : List UInt8) (s : St) : Value × St := match Lib.atoiAll l with
  | .ok v => (.tuple #[int v, .nilIface], s)
  | .range => (.tuple #[int (Lib.atoiSat l), errV s], s.new fun _ => .dead)
  | _ => (.tuple #[int 0, errV s], s.new fun _ => .dead)
/-- No number, and not out of range: what the empty string gives. -/
theorem end_else {x : Lib.NumEnd Int} (h1 : ∀ v, x = .ok v → False) (h2 : x = .range → False) : x = Lib.atoiAll [] := by
  cases x with
  | ok v => exact (h1 v rfl).elim
  | range => exact (h2 rfl).elim
  | _ => rfl
open Classical in
noncomputable def atoiO (args : List Value) (s : St) : Option (Res (Value × St)) := match args with
  | [.string x] => if GlobAt s ∧ x.size ≤ 1000000 then some (.ret (atoiR x.data.toList s)) else none
  | _ => none
def pureV (f : FuncId) (args : List Value) : Option Value := match args with
  | [.string x, .string y] =>
    if f = 23 then (match y.data.toList with | [c] => some (int (Lib.countByte x.data.toList c)) | _ => none)
    else if f = 62 then (match y.data.toList with | [c] => some (int (Lib.indexByte x.data.toList c)) | _ => none)
    else if f = 24 then (if x.size ≤ 1000000 then some (.bool (Lib.hasSuffix x.data.toList y.data.toList)) else none)
    else if f = 27 then (if x.size ≤ 1000000 then some (str (Lib.trimSuffix x.data.toList y.data.toList)) else none)
    else none
  | [.string x, .int .u8 c] => if f = 65 then some (int (Lib.indexByte x.data.toList c.toNat.toUInt8)) else none
  | _ => none
def pureW (f : FuncId) (args : List Value) : Option Value := bif Nat.beq f 23 || Nat.beq f 62 || Nat.beq f 24 || Nat.beq f 27 || Nat.beq f 65 then pureV f args else none
theorem pureW_V {f : FuncId} {args : List Value} {v : Value} (h : pureW f args = some v) : pureV f args = some v := by
  unfold pureW at h
  cases hb : (Nat.beq f 23 || Nat.beq f 62 || Nat.beq f 24 || Nat.beq f 27 || Nat.beq f 65) with
  | true => rw [hb] at h; exact h
  | false => rw [hb] at h; cases h
noncomputable def KT : Orc := fun f args s =>
  if f = 7 then (if args.isEmpty = true then some (.ret (.bool true, s)) else none)
  else if f = 5 then textO args s
  else if f = 28 then atoiO args s
  else match pureW f args with
    | some v => some (.ret (v, s))
    | none => none
section
variable {q : Bool} {s : St} {Φ : Value → St → Prop}
theorem awake_ok (h : Φ (.bool true) s) : okF q X KT 7 [] s Φ := okF.orc (r := .ret (.bool true, s)) rfl h
theorem text_ok {args : List Value} {L : List Ft} (hL : FtsAt args s L) (h : Φ (textV L) s) : okF q X KT 5 args s Φ := by
  refine okF.orc (r := .ret (textV L, s)) ?_ h
  show textO args s = _
  unfold textO
  have hx : ∃ L, FtsAt args s L := ⟨L, hL⟩
  rw [dif_pos hx, (Classical.choose_spec hx).uniq hL]
theorem atoi_ok {l : List UInt8} (G : GlobAt s) (hl : l.length ≤ 1000000) (h : Φ (atoiR l s).1 (atoiR l s).2) : okF q X KT 28 [str l] s Φ := by
  refine okF.orc (r := .ret (atoiR l s)) ?_ h
  show atoiO [str l] s = _
  unfold atoiO str
  simp only
  rw [if_pos ⟨G, hl⟩]
theorem pure_ok {f : FuncId} {args : List Value} {v : Value} (h1 : f ≠ 7) (h2 : f ≠ 5) (h3 : f ≠ 28) (hv : pureW f args = some v) (h : Φ v s) : okF q X KT f args s Φ := by
  refine okF.orc (r := .ret (v, s)) ?_ h
  unfold KT
  rw [if_neg h1, if_neg h2, if_neg h3, hv]
theorem count_ok {l : List UInt8} {c : UInt8} (h : Φ (int (Lib.countByte l c)) s) : okF q X KT 23 [str l, str [c]] s Φ := pure_ok (by decide) (by decide) (by decide) rfl h
theorem index_ok {l : List UInt8} {c : UInt8} (h : Φ (int (Lib.indexByte l c)) s) : okF q X KT 62 [str l, str [c]] s Φ := pure_ok (by decide) (by decide) (by decide) rfl h
theorem ibyte_ok {l : List UInt8} {c : Int} (h : Φ (int (Lib.indexByte l c.toNat.toUInt8)) s) : okF q X KT 65 [str l, u8v c] s Φ := pure_ok (by decide) (by decide) (by decide) rfl h
theorem suffix_ok {l m : List UInt8} (hl : l.length ≤ 1000000) (h : Φ (.bool (Lib.hasSuffix l m)) s) : okF q X KT 24 [str l, str m] s Φ := pure_ok (by decide) (by decide) (by decide) (show (if _ then _ else _) = _ from if_pos hl) h
theorem trim_ok {l m : List UInt8} (hl : l.length ≤ 1000000) (h : Φ (str (Lib.trimSuffix l m)) s) : okF q X KT 27 [str l, str m] s Φ := pure_ok (by decide) (by decide) (by decide) (show (if _ then _ else _) = _ from if_pos hl) h
end
end Go.Dust
end
section
/- The texts of faults: plain laws, no program in sight. -/
namespace Go.Dust
open Go.Proofs
set_option linter.unusedSimpArgs false
set_option linter.unusedVariables false
/-! ### Numerals -/
theorem dec_digit : ∀ (u : Nat), ∀ c ∈ Lib.decDigits u, 48 ≤ c.toNat ∧ c.toNat ≤ 57 := by
  intro u
  induction u using Nat.strongRecOn with
  | _ u ih =>
    intro c hc
    have one : ∀ k, k < 10 → 48 ≤ (UInt8.ofNat (48 + k)).toNat ∧ (UInt8.ofNat (48 + k)).toNat ≤ 57 := fun k hk => by
      rw [UInt8.toNat_ofNat_of_lt' (by show 48 + k < 256; omega)]; omega
    rw [Lib.decDigits] at hc
    split at hc
    · rename_i h
      rw [List.mem_singleton.1 hc]
      exact one u h
    · rename_i h
      rcases List.mem_append.1 hc with h1 | h1
      · exact ih _ (by omega) c h1
      · rw [List.mem_singleton.1 h1]
        exact one _ (by omega)
theorem dec_ne (u : Nat) : Lib.decDigits u ≠ [] := by
  rw [Lib.decDigits]
  split <;> simp
/-- What digits spell. -/
def dval (l : List UInt8) : Nat := l.foldl (fun a c => 10 * a + (c.toNat - 48)) 0
theorem dval_snoc (l : List UInt8) (c : UInt8) : dval (l ++ [c]) = 10 * dval l + (c.toNat - 48) := by
  unfold dval; rw [List.foldl_append]; rfl
theorem dval_mono (l : List UInt8) : ∀ m : List UInt8, dval l ≤ dval (l ++ m) := by
  intro m
  induction m generalizing l with
  | nil => simp
  | cons c m ih =>
    have h1 := ih (l ++ [c])
    rw [dval_snoc, List.append_assoc] at h1
    exact Nat.le_trans (by omega) h1
theorem dval_dec (u : Nat) : dval (Lib.decDigits u) = u := by
  induction u using Nat.strongRecOn with
  | _ u ih =>
    have one : ∀ k, k < 10 → (UInt8.ofNat (48 + k)).toNat - 48 = k := fun k hk => by
      rw [UInt8.toNat_ofNat_of_lt' (by show 48 + k < 256; omega)]; omega
    rw [Lib.decDigits]
    split
    · rename_i h
      rw [show [UInt8.ofNat (48 + u)] = [] ++ [UInt8.ofNat (48 + u)] from rfl, dval_snoc, one u h]
      show 10 * 0 + u = u
      omega
    · rename_i h
      rw [dval_snoc, ih _ (by omega), one _ (by omega)]
      omega
theorem parse_app : ∀ (l : List UInt8) (acc : Nat) (r : List UInt8), Lib.parseUint10 acc (l ++ r) = (match Lib.parseUint10 acc l with | .ok a => Lib.parseUint10 a r | x => x)
  | [], acc, r => rfl
  | c :: l, acc, r => by
    rw [List.cons_append, Lib.parseUint10, Lib.parseUint10]
    split
    · split
      · rfl
      · split
        · rfl
        · exact parse_app l _ r
    · rfl
theorem parse_dec (u : Nat) (hu : u < 18446744073709551616) : Lib.parseUint10 0 (Lib.decDigits u) = .ok u := by
  induction u using Nat.strongRecOn with
  | _ u ih =>
    have step : ∀ a k, k < 10 → a * 10 + k < 18446744073709551616 → Lib.parseUint10 a [UInt8.ofNat (48 + k)] = .ok (a * 10 + k) := fun a k hk ha => by
      rw [Lib.parseUint10]
      rw [UInt8.toNat_ofNat_of_lt' (by show 48 + k < 256; omega)]
      rw [if_pos (by omega), if_neg (by omega), if_neg (by omega), Lib.parseUint10]
      congr 2
      omega
    rw [Lib.decDigits]
    split
    · rename_i h
      rw [step 0 u h (by omega)]
      simp
    · rename_i h
      rw [parse_app, ih _ (by omega) (by omega)]
      simp only
      rw [step _ _ (by omega) (by omega)]
      congr 1
      omega
theorem atoi_itoa {n : Int} (h : in64 n) : Lib.atoiAll (Lib.itoa n) = .ok n := by
  unfold Lib.itoa
  obtain ⟨h1, h2⟩ := h
  split
  · rename_i hn
    rw [Lib.atoiAll_minus]
    unfold Lib.parseMag
    rw [if_neg (dec_ne _), parse_dec _ (by omega)]
    unfold Lib.signed
    simp only
    rw [if_neg (by omega)]
    congr 1
    omega
  · rename_i hn
    cases hd : Lib.decDigits n.toNat with
    | nil => exact absurd hd (dec_ne _)
    | cons c r =>
      have hc := dec_digit n.toNat c (by rw [hd]; simp)
      rw [Lib.atoiAll_plain c r (by omega) (by omega), ← hd]
      unfold Lib.parseMag
      rw [if_neg (dec_ne _), parse_dec _ (by omega)]
      unfold Lib.signless
      simp only
      rw [if_neg (by omega)]
      congr 1
      omega
theorem itoa_inj {n m : Int} (hn : in64 n) (hm : in64 m) (h : Lib.itoa n = Lib.itoa m) : n = m := by
  have h1 := atoi_itoa hn
  rw [h, atoi_itoa hm] at h1
  cases h1
  rfl
theorem itoa_mem {n : Int} {c : UInt8} (h : c ∈ Lib.itoa n) : c.toNat = 45 ∨ (48 ≤ c.toNat ∧ c.toNat ≤ 57) := by
  unfold Lib.itoa at h
  split at h
  · rcases List.mem_cons.1 h with rfl | h
    · exact .inl rfl
    · exact .inr (dec_digit _ c h)
  · exact .inr (dec_digit _ c h)
/-! ### Pieces between single bytes -/
def cutFrom (c : UInt8) : List UInt8 → List UInt8 → List (List UInt8)
  | cur, [] => [cur]
  | cur, x :: r => if x = c then cur :: cutFrom c [] r else cutFrom c (cur ++ [x]) r
abbrev cut (c : UInt8) (l : List UInt8) : List (List UInt8) := cutFrom c [] l
theorem cut_free (c : UInt8) : ∀ (l cur r : List UInt8), c ∉ l → cutFrom c cur (l ++ c :: r) = (cur ++ l) :: cutFrom c [] r
  | [], cur, r, _ => by simp [cutFrom]
  | x :: l, cur, r, h => by
    simp only [List.mem_cons, not_or] at h
    rw [List.cons_append, cutFrom, if_neg (fun e => h.1 e.symm), cut_free c l _ r h.2]
    simp
theorem cut_end (c : UInt8) : ∀ (l cur : List UInt8), c ∉ l → cutFrom c cur l = [cur ++ l]
  | [], cur, _ => by simp [cutFrom]
  | x :: l, cur, h => by
    simp only [List.mem_cons, not_or] at h
    rw [cutFrom, if_neg (fun e => h.1 e.symm), cut_end c l _ h.2]
    simp
theorem cut_len (c : UInt8) : ∀ (l cur : List UInt8), (cutFrom c cur l).length = l.count c + 1
  | [], cur => rfl
  | x :: l, cur => by
    rw [cutFrom]
    split
    · rename_i h
      subst h
      rw [List.length_cons, cut_len x l, List.count_cons_self]
    · rename_i h
      rw [cut_len c l, List.count_cons_of_ne h]
theorem idx_free (c : UInt8) : ∀ (l r : List UInt8), c ∉ l → Lib.indexByte (l ++ c :: r) c = l.length
  | [], r, _ => by simp [Lib.indexByte]
  | x :: l, r, h => by
    simp only [List.mem_cons, not_or] at h
    have h1 := idx_free c l r h.2
    rw [List.cons_append, Lib.indexByte, if_neg (by simp; exact fun e => h.1 e.symm), h1, if_neg (by simp)]
    simp
theorem idx_none (c : UInt8) : ∀ (l : List UInt8), c ∉ l → Lib.indexByte l c = -1
  | [], _ => rfl
  | x :: l, h => by
    simp only [List.mem_cons, not_or] at h
    rw [Lib.indexByte, if_neg (by simp; exact fun e => h.1 e.symm), idx_none c l h.2]
    simp
theorem split_at {c : UInt8} {l : List UInt8} (h : c ∈ l) : ∃ l1 r, l = l1 ++ c :: r ∧ c ∉ l1 := by
  obtain ⟨a, b, h1, h2⟩ := List.eq_append_cons_of_mem h
  exact ⟨a, b, h1, h2⟩
/-! ### Lines of faults -/
def ftGood (f : Ft) : Prop := ftOk f ∧ in64 f.2.1 ∧ in64 f.2.2
def nmAt (f : Ft) : List UInt8 := nm12.getD f.1.toNat []
/-- A line without its end. -/
def ftBody (f : Ft) : List UInt8 := nmAt f ++ 32 :: (Lib.itoa f.2.1 ++ 32 :: Lib.itoa f.2.2)
theorem ftLine_eq (f : Ft) : ftLine f = ftBody f ++ [10] := by
  unfold ftLine ftBody nmAt; simp
theorem nm12_mem : nm12.all (fun w => w.all fun c => Nat.ble 97 c.toNat) = true := by decide
theorem nmAt_mem (f : Ft) {c : UInt8} (h : c ∈ nmAt f) : 97 ≤ c.toNat := by
  unfold nmAt at h
  rw [List.getD_eq_getElem?_getD] at h
  cases hk : nm12[f.1.toNat]? with
  | none => rw [hk] at h; cases h
  | some w =>
    rw [hk] at h
    have h1 := List.all_eq_true.1 nm12_mem w (List.mem_of_getElem? hk)
    exact Nat.le_of_ble_eq_true (List.all_eq_true.1 h1 c h)
theorem body_10 (f : Ft) : (10 : UInt8) ∉ ftBody f := by
  unfold ftBody
  intro h
  have e : (10 : UInt8).toNat = 10 := rfl
  have e2 : (32 : UInt8).toNat = 32 := rfl
  rcases List.mem_append.1 h with h | h
  · have := nmAt_mem f h; omega
  · rcases List.mem_cons.1 h with h | h
    · cases h
    · rcases List.mem_append.1 h with h | h
      · have := itoa_mem h; omega
      · rcases List.mem_cons.1 h with h | h
        · cases h
        · have := itoa_mem h; omega
theorem body_cut (f : Ft) : cut 32 (ftBody f) = [nmAt f, Lib.itoa f.2.1, Lib.itoa f.2.2] := by
  have e : (32 : UInt8).toNat = 32 := rfl
  unfold cut ftBody
  rw [cut_free 32 _ _ _ (fun h => by have := nmAt_mem f h; omega), cut_free 32 _ _ _ (fun h => by have := itoa_mem h; omega), cut_end 32 _ _ (fun h => by have := itoa_mem h; omega)]
  rfl
/-- The next line, with its end, and what comes behind it. -/
def nextL (r : List UInt8) : List UInt8 × List UInt8 := if 0 ≤ Lib.indexByte r 10 then (r.take ((Lib.indexByte r 10).toNat + 1), r.drop ((Lib.indexByte r 10).toNat + 1)) else (r, [])
theorem nextL_free {l : List UInt8} (h : (10 : UInt8) ∉ l) (r : List UInt8) : nextL (l ++ 10 :: r) = (l ++ [10], r) := by
  unfold nextL
  rw [idx_free 10 l r h, if_pos (by omega), Int.toNat_natCast]
  congr 1
  · rw [List.take_append, List.take_of_length_le (by omega), show l.length + 1 - l.length = 1 by omega]; rfl
  · rw [List.drop_append, List.drop_of_length_le (by omega), show l.length + 1 - l.length = 1 by omega]; rfl
theorem nextL_none {l : List UInt8} (h : (10 : UInt8) ∉ l) : nextL l = (l, []) := by
  unfold nextL
  rw [idx_none 10 l h, if_neg (by omega)]
theorem nextL_len {r : List UInt8} (h : r ≠ []) : (nextL r).2.length < r.length ∧ (nextL r).1.length ≤ r.length := by
  by_cases hm : (10 : UInt8) ∈ r
  · obtain ⟨l, t, rfl, hl⟩ := split_at hm
    rw [nextL_free hl]
    simp
    omega
  · rw [nextL_none hm]
    cases r with
    | nil => exact absurd rfl h
    | cons => simp
theorem ftText_cons (f : Ft) (L : List Ft) : ftText (f :: L) = ftBody f ++ 10 :: ftText L := by
  unfold ftText
  rw [List.flatMap_cons, ftLine_eq]
  simp
theorem nextL_ft (f : Ft) (L : List Ft) : nextL (ftText (f :: L)) = (ftBody f ++ [10], ftText L) := by
  rw [ftText_cons, nextL_free (body_10 f)]
theorem ftText_nil {L : List Ft} (h : ftText L = []) : L = [] := by
  cases L with
  | nil => rfl
  | cons f L => rw [ftText_cons] at h; simp at h
theorem nm12_nodup : nm12.Nodup := by decide
theorem nmAt_inj {f g : Ft} (hf : ftOk f) (hg : ftOk g) (h : nmAt f = nmAt g) : f.1 = g.1 := by
  obtain ⟨a, b⟩ := hf
  obtain ⟨c, d⟩ := hg
  unfold nmAt at h
  have h1 : f.1.toNat < nm12.length := by show f.1.toNat < 12; omega
  have h2 : g.1.toNat < nm12.length := by show g.1.toNat < 12; omega
  rw [List.getD_eq_getElem?_getD, List.getD_eq_getElem?_getD, List.getElem?_eq_getElem h1, List.getElem?_eq_getElem h2] at h
  have h : nm12[f.1.toNat] = nm12[g.1.toNat] := h
  have := (List.getElem_inj nm12_nodup).1 h
  omega
theorem body_inj {f g : Ft} (hf : ftGood f) (hg : ftGood g) (h : ftBody f = ftBody g) : f = g := by
  have h1 := body_cut f
  rw [h, body_cut g] at h1
  simp only [List.cons.injEq, and_true] at h1
  exact Prod.ext (nmAt_inj hf.1 hg.1 h1.1.symm) (Prod.ext (itoa_inj hf.2.1 hg.2.1 h1.2.1.symm) (itoa_inj hf.2.2 hg.2.2 h1.2.2.symm))
theorem ftText_inj : ∀ {L M : List Ft}, (∀ f ∈ L, ftGood f) → (∀ f ∈ M, ftGood f) → ftText L = ftText M → L = M
  | [], [], _, _, _ => rfl
  | [], g :: M, _, _, h => (ftText_nil h.symm).symm
  | f :: L, [], _, _, h => ftText_nil h
  | f :: L, g :: M, hL, hM, h => by
    have h1 := nextL_ft f L
    rw [h, nextL_ft g M] at h1
    simp only [Prod.mk.injEq] at h1
    have e := body_inj (hM g (by simp)) (hL f (by simp)) (List.append_cancel_right h1.1)
    rw [e, ftText_inj (fun x hx => hL x (by simp [hx])) (fun x hx => hM x (by simp [hx])) h1.2.symm]
theorem ftText_count : ∀ L : List Ft, (ftText L).count 10 = L.length
  | [] => rfl
  | f :: L => by
    rw [ftText_cons, List.count_append, List.count_cons_self, ftText_count L, List.count_eq_zero_of_not_mem (body_10 f), List.length_cons]
    omega
theorem trim_line {l : List UInt8} : Lib.trimSuffix (l ++ [10]) [10] = l := by
  have h : Lib.hasSuffix (l ++ [10]) [10] = true := by
    unfold Lib.hasSuffix
    rw [List.isSuffixOf_iff_suffix]
    exact List.suffix_append l [10]
  unfold Lib.trimSuffix
  rw [if_pos h]
  simp
theorem ftText_cut : ∀ L : List Ft, cut 10 (ftText L) = L.map ftBody ++ [[]]
  | [] => rfl
  | f :: L => by
    unfold cut
    rw [ftText_cons, cut_free 10 _ _ _ (body_10 f)]
    show _ :: cut 10 (ftText L) = _
    rw [ftText_cut L]
    rfl
/-- Too many lines. -/
def tooLong (S : List UInt8) : Prop := 4000 < S.count 10 ∨ (S.count 10 = 4000 ∧ Lib.hasSuffix S [10] = false)
theorem cut_ne (c : UInt8) (l cur : List UInt8) : cutFrom c cur l ≠ [] := by
  intro h
  have := cut_len c l cur
  rw [h] at this
  simp at this
/-- The last piece is empty just if nothing is there, or a newline ends it. -/
theorem cut_last (c : UInt8) : ∀ (l cur : List UInt8), (cutFrom c cur l).getLast (cut_ne c l cur) = [] ↔ (l = [] ∧ cur = []) ∨ Lib.hasSuffix l [c] = true
  | [], cur => by
    unfold Lib.hasSuffix
    simp [cutFrom]
  | x :: l, cur => by
    have suf : Lib.hasSuffix (x :: l) [c] = true ↔ (l = [] ∧ x = c) ∨ Lib.hasSuffix l [c] = true := by
      unfold Lib.hasSuffix
      rw [List.isSuffixOf_iff_suffix, List.isSuffixOf_iff_suffix, List.suffix_cons_iff]
      refine or_congr ⟨fun h => ?_, fun h => ?_⟩ Iff.rfl
      · simp only [List.cons.injEq] at h
        exact ⟨h.2.symm, h.1.symm⟩
      · rw [h.1, h.2]
    rw [suf]
    by_cases h : x = c
    · have e : cutFrom c cur (x :: l) = cur :: cutFrom c [] l := by rw [cutFrom, if_pos h]
      simp only [e, List.getLast_cons (cut_ne c l []), cut_last c l []]
      simp [h]
    · have e : cutFrom c cur (x :: l) = cutFrom c (cur ++ [x]) l := by rw [cutFrom, if_neg h]
      simp only [e, cut_last c l (cur ++ [x]), h]
      simp
end Go.Dust
end
section
/- To forget what a run made, but for one new slice of numbers. -/
namespace Go.Dust
/-- The tie of a state with one object more, from that of a later one in which a window of an object holds the same. -/
theorem R.back1 {X : Env} {ι ι' : Inj} {H H' : Look} {n n' : Nat} {w w' : World} (h : R X ι H n w) (k : R X ι' H' n' w') (e : Ext ι H n w ι' H' n' w') (hk : ∀ b o, H b = some o → o.isDead = false → H' b = some o)
    (hlt : ∀ b o, H b = some o → b < n) {b' : Nat} {o' o'' : AObj} {l l' : Loc} (hb : H' b' = some o') (hd : o'.isDead = false) (hn : n ≤ b') (hl : ι' b' = some l) (hro : l.ro = false) (hblk : l'.blk = l.blk) (hro' : l'.ro = false)
    (ho : ObjR X (ι.add n l') w' l' o'') :
    R X (ι.add n l') (upd H n o'') (n + 2) w' ∧ Ext ι H n w (ι.add n l') (upd H n o'') (n + 2) w' := by
  have hfree : ι n = none := h.fresh n (Nat.le_refl _) h.odd
  have hle : ι.le (ι.add n l') := Inj.le_add hfree
  have hne : ∀ b lb, ι b = some lb → b ≠ n := fun b lb hb hbn => by rw [hbn, hfree] at hb; cases hb
  refine ⟨⟨fun b => ?_, by have := h.odd; omega, fun b hb1 hb2 => ?_, fun b lb hb1 hr => ?_, fun b ob hb1 hd1 => ?_, fun b1 b2 o1 o2 l1 l2 h1 d1 h2 d2 g1 g2 hr heq => ?_⟩, ⟨hle, fun b hb1 hb2 => ?_, Nat.le_add_right _ _, e.os, e.tape, e.output, e.size, e.keep, fun c hc => ?_⟩⟩
  · unfold Inj.add
    rw [if_neg (by have := h.odd; omega)]
    exact h.even b
  · unfold Inj.add
    rw [if_neg (by omega)]
    exact h.fresh b (by omega) hb2
  · unfold Inj.add at hb1
    split at hb1
    · cases hb1
      rw [hblk]
      exact k.inb b' l hl hro
    · exact Nat.lt_of_lt_of_le (h.inb b lb hb1 hr) e.size
  · unfold upd at hb1
    split at hb1
    · rename_i hbn
      cases hb1
      subst hbn
      exact ⟨l', Inj.add_same _ _ _, ho⟩
    · obtain ⟨lb, g1, g2⟩ := h.obj b ob hb1 hd1
      obtain ⟨lb', k1, k2⟩ := k.obj b ob (hk b ob hb1 hd1) hd1
      have := e.le _ _ g1
      rw [k1] at this; cases this
      exact ⟨lb, hle _ _ g1, (g2.back e.le k2).mono hle rfl⟩
  · unfold upd at h1 h2
    unfold Inj.add at g1 g2
    have key : ∀ b o lb, H b = some o → o.isDead = false → ι b = some lb → lb.blk = l.blk → False := fun b o lb hb1 hd1 hl1 hbl => by
      have hbn := hlt b o hb1
      have := k.inj b' b o' o l lb hb hd (hk b o hb1 hd1) hd1 hl (e.le _ _ hl1) hro hbl.symm
      omega
    by_cases e1 : b1 = n
    · by_cases e2 : b2 = n
      · rw [e1, e2]
      · rw [if_neg e2] at h2 g2
        rw [if_pos e1] at g1
        cases g1
        exact (key b2 o2 l2 h2 d2 g2 (by rw [← heq, hblk])).elim
    · rw [if_neg e1] at h1 g1
      by_cases e2 : b2 = n
      · rw [if_pos e2] at g2
        cases g2
        exact (key b1 o1 l1 h1 d1 g1 (by rw [heq, hblk])).elim
      · rw [if_neg e2] at h2 g2
        exact h.inj b1 b2 o1 o2 l1 l2 h1 d1 h2 d2 g1 g2 hr heq
  · unfold Inj.add
    rw [if_neg (by omega)]
    exact hb1
  · obtain ⟨b, o, lb, h1, h2, h3, h4, h5⟩ := hc
    unfold upd at h1
    split at h1
    · rename_i hbn
      cases h1
      rw [hbn, Inj.add_same] at h3
      cases h3
      exact e.own c ⟨b', o', l, hb, hd, hl, hro, by rw [← hblk, h5]⟩
    · rename_i hbn
      unfold Inj.add at h3
      rw [if_neg hbn] at h3
      exact .inl ⟨b, o, lb, h1, h2, h3, h4, h5⟩
/-- A call that leaves all as0 it lay, and returns a new slice of numbers. -/
theorem back_buf {P : Program} {ι ι' : Inj} {s s' : St} {W W' : World} (hs : Ok s) (hR : RS P ι s W) (hR' : RS P ι' s' W') (hE : ES ι s W ι' s' W') (hk : Keeps [] s s') {e : TypeId} {m b off n cap : Nat} {L : List Value}
    (B : Buf s' e m (.slice (some ⟨b, off, none⟩) n cap) L) (hm : (env P).ty e = none ∨ ∃ ei, (env P).ty e = some ei ∧ ei.size = m) (hn : s.next ≤ b) (hL : ∀ v ∈ L, ∃ k x, v = .int k x) {u : Value} (hu : VR ι' (.slice (some ⟨b, off, none⟩) n cap) u) :
    ∃ ι'', VR ι'' (.slice (some ⟨s.next, 0, none⟩) n n) u ∧ RS P ι'' (s.new fun v => .cells (PT.ofList L) [] (n * m) e true false v) W' ∧ ES ι s W ι'' (s.new fun v => .cells (PT.ofList L) [] (n * m) e true false v) W' := by
  cases B with
  | @own _ _ _ _ L0 _ hC hc hnc hlen hl =>
    obtain ⟨c, z, room, ver, hg, hcell⟩ := hC
    cases hu with
    | @slice _ _ l _ _ hbl =>
      obtain ⟨l2, h1, h2⟩ := hR'.obj b _ hg rfl
      rw [hbl] at h1; cases h1
      obtain ⟨arr, e', fz, g1, g2, g3, g4, g5, g6, g7⟩ := h2
      obtain ⟨l', hl'⟩ : ∃ l' : Loc, l' = ⟨l.blk, l.off + off, cap - n + l.extra, false⟩ := ⟨_, rfl⟩
      have hnm : n * m ≤ cap * m := Nat.mul_le_mul_right m hnc
      have hobj : ∀ ver', ObjR (env P) (ι.add s.next l') W' l' (.cells (PT.ofList L) [] (n * m) e true false ver') := fun ver' => by
        subst hl'
        refine ⟨arr, e', fz, g1, ⟨fun _ => g2.1 rfl, fun h => by cases h⟩, rfl, fun h => (by cases h), fun ei hei => ?_, ?_, fun i hi => ?_⟩
        · rcases hm with hm | ⟨ei', hei', hsz⟩
          · rw [hei] at hm; cases hm
          · rw [hei] at hei'; cases hei'
            have := g5 ei hei
            rw [hsz] at this ⊢
            have e1 : (cap - n + l.extra) * m = cap * m - n * m + l.extra * m := by rw [Nat.add_mul, Nat.sub_mul]
            show l.off + off + n * m + (cap - n + l.extra) * m ≤ arr.size
            rw [e1]; omega
        · show l.off + off + n * m ≤ arr.size
          omega
        · obtain ⟨v, u, a1, a2, a3⟩ := g7 (off + i) (by omega)
          rw [hcell (off + i) (by omega), hl i (by omega)] at a1
          have hvL : v ∈ L := List.mem_of_getElem? a1
          obtain ⟨kk, x, rfl⟩ := hL v hvL
          refine ⟨.int kk x, u, ?_, by show arr[l.off + off + i]? = _; rw [Nat.add_assoc]; exact a2, ?_⟩
          · unfold cellAt
            rw [if_pos hi, PT.get_ofList, a1]
          · rw [VR.int_eq a3]; exact .int _ _
      obtain ⟨k1, k2⟩ := R.back1 (o'' := .cells (PT.ofList L) [] (n * m) e true false s.clk) hR hR' hE (fun b o hb _ => hk.old b o hb (by simp)) (fun b o hb => hs.lt hb) hg rfl hn hbl (by rw [g3]) (by rw [hl']) (by rw [hl']) (hobj _)
      refine ⟨ι.add s.next l', ?_, ?_, ?_⟩
      · have hv := VR.slice (ι := ι.add s.next l') (b := s.next) (o := 0) n n (Inj.add_same ι s.next l')
        rw [hl'] at hv ⊢
        simp only [Nat.add_zero] at hv
        rw [show n + (cap - n + l.extra) = cap + l.extra by omega] at hv
        exact hv
      · show R _ _ _ _ _
        rw [look_new]
        exact k1
      · show Ext _ _ _ _ _ _ _ _
        rw [look_new]
        exact k2
end Go.Dust
end
section
/- The twin of the interpreter that the kernel runs: by continuations, so that nothing that is done is kept. It answers as0 D does. -/
noncomputable section
namespace Go.Dust

def Res.elim {α : Type} (x : Res α) (k : α → Bool) : Bool := match x with
  | .ret a => k a
  | _ => false
theorem Res.elim_bind {α β : Type} (x : Res α) (f : α → Res β) (k : β → Bool) : (x.bind f).elim k = x.elim fun a => (f a).elim k := by cases x <;> rfl
def optE {α : Type} (o : Option α) (k : α → Bool) : Bool := match o with
  | some a => k a
  | none => false
theorem elim_ofOption {α : Type} (w : String) (o : Option α) (k : α → Bool) : (Res.ofOption w o).elim k = optE o k := by cases o <;> rfl

/-! ### Values made plain -/
def fBool (b : Bool) (k : Bool → Bool) : Bool := Bool.rec (motive := fun _ => Bool) (k false) (k true) b
theorem fBool_eq (b k) : fBool b k = k b := by cases b <;> rfl
def fNat (n : Nat) (k : Nat → Bool) : Bool := Nat.rec (motive := fun _ => Bool) (k Nat.zero) (fun n _ => k (Nat.succ n)) n
theorem fNat_eq (n k) : fNat n k = k n := by cases n <;> rfl
def fInt (x : Int) (k : Int → Bool) : Bool := match x with
  | .ofNat n => fNat n fun n => k (.ofNat n)
  | .negSucc n => fNat n fun n => k (.negSucc n)
theorem fInt_eq (x k) : fInt x k = k x := by
  cases x with
  | ofNat n => exact fNat_eq n fun n => k (.ofNat n)
  | negSucc n => exact fNat_eq n fun n => k (.negSucc n)
def fAddr (a : Addr) (k : Addr → Bool) : Bool := match a with
  | ⟨b, o, none⟩ => fNat b fun b => fNat o fun o => k ⟨b, o, none⟩
  | ⟨b, o, some q⟩ => fNat b fun b => fNat o fun o => fNat q fun q => k ⟨b, o, some q⟩
theorem fAddr_eq (a k) : fAddr a k = k a := by
  rcases a with ⟨b, o, _ | q⟩ <;> simp only [fAddr, fNat_eq]
def fOA (a : Option Addr) (k : Option Addr → Bool) : Bool := match a with
  | none => k none
  | some a => fAddr a fun a => k (some a)
theorem fOA_eq (a k) : fOA a k = k a := by cases a <;> simp only [fOA, fAddr_eq]
def fSpine {α : Type} (l : List α) : (List α → Bool) → Bool := List.rec (motive := fun _ => (List α → Bool) → Bool) (fun k => k []) (fun x _ ih k => ih fun l => k (x :: l)) l
theorem fSpine_eq {α : Type} : ∀ (l : List α) (k), fSpine l k = k l
  | [], _ => rfl
  | x :: l, k => fSpine_eq l fun l => k (x :: l)
def f1 (v : Value) (k : Value → Bool) : Bool := match v with
  | .bool b => fBool b fun b => k (.bool b)
  | .int j x => fInt x fun x => k (.int j x)
  | .string ⟨⟨l⟩⟩ => fSpine l fun l => k (.string ⟨⟨l⟩⟩)
  | .pointer a => fOA a fun a => k (.pointer a)
  | .slice a l c => fOA a fun a => fNat l fun l => fNat c fun c => k (.slice a l c)
  | v => k v
theorem f1_eq (v k) : f1 v k = k v := by
  unfold f1
  split <;> simp only [fBool_eq, fInt_eq, fSpine_eq, fOA_eq, fNat_eq]
def fL (l : List Value) : (List Value → Bool) → Bool := List.rec (motive := fun _ => (List Value → Bool) → Bool) (fun k => k []) (fun v _ ih k => f1 v fun v => ih fun l => k (v :: l)) l
theorem fL_eq : ∀ (l : List Value) (k), fL l k = k l
  | [], _ => rfl
  | x :: l, k => (f1_eq x fun v => fL l fun l => k (v :: l)).trans (fL_eq l fun l => k (x :: l))
def fV (v : Value) (k : Value → Bool) : Bool := match v with
  | .agg ⟨l⟩ => fL l fun l => k (.agg ⟨l⟩)
  | .tuple ⟨l⟩ => fL l fun l => k (.tuple ⟨l⟩)
  | v => f1 v k
theorem fV_eq (v k) : fV v k = k v := by
  unfold fV
  split <;> simp only [fL_eq, f1_eq]
def optV (o : Option Value) (k : Value → Bool) : Bool := match o with
  | some v => fV v k
  | none => false
theorem optV_eq (o k) : optV o k = optE o k := by cases o <;> simp only [optV, optE, fV_eq]

/-! ### Finite maps -/
namespace PT
variable {α : Type}
def pathF (f : Nat) : Nat → List Bool := Nat.rec (motive := fun _ => Nat → List Bool) (fun _ => []) (fun _ ih n => Bool.rec (motive := fun _ => List Bool) (List.cons (Nat.beq (Nat.mod n 2) 1) (ih (Nat.div (Nat.sub n 1) 2))) [] (Nat.beq n 0)) f
def path (n : Nat) : List Bool := pathF (Nat.succ n) n
def getP (p : List Bool) : PT α → (Option α → Bool) → Bool := List.rec (motive := fun _ => PT α → (Option α → Bool) → Bool)
  (fun t k => PT.rec (motive := fun _ => Bool) (k none) (fun v _ _ _ _ => k v) t)
  (fun b _ ih t k => PT.rec (motive := fun _ => Bool) (k none) (fun _ l r _ _ => Bool.rec (motive := fun _ => Bool) (ih r k) (ih l k) b) t) p
def setP (p : List Bool) : α → PT α → (PT α → Bool) → Bool := List.rec (motive := fun _ => α → PT α → (PT α → Bool) → Bool)
  (fun a t k => PT.rec (motive := fun _ => Bool) (k (.node (some a) .nil .nil)) (fun _ l r _ _ => k (.node (some a) l r)) t)
  (fun b _ ih a t k => PT.rec (motive := fun _ => Bool)
    (Bool.rec (motive := fun _ => Bool) (ih a .nil fun x => k (.node none .nil x)) (ih a .nil fun x => k (.node none x .nil)) b)
    (fun v l r _ _ => Bool.rec (motive := fun _ => Bool) (ih a r fun x => k (.node v l x)) (ih a l fun x => k (.node v x r)) b) t) p
def getK (t : PT α) (n : Nat) (k : Option α → Bool) : Bool := getP (path n) t k
def setK (t : PT α) (n : Nat) (a : α) (k : PT α → Bool) : Bool := setP (path n) a t k
theorem pathF_zero (f : Nat) : pathF (f + 1) 0 = [] := rfl
theorem pathF_succ (f n : Nat) : pathF (f + 1) (n + 1) = Nat.beq (Nat.mod (n + 1) 2) 1 :: pathF f (n / 2) := rfl
theorem getP_eq : ∀ (f n : Nat) (t : PT α) (k : Option α → Bool), n < f → getP (pathF f n) t k = k (t.get n) := by
  intro f
  induction f with
  | zero => intro n t k h; omega
  | succ f ih =>
    intro n t k h
    cases n with
    | zero => rw [pathF_zero]; cases t <;> rfl
    | succ n =>
      rw [pathF_succ]
      cases t with
      | nil => rfl
      | node v l r =>
        rcases Nat.mod_two_eq_zero_or_one n with e | e
        · rw [beq_odd e, get_node_even _ _ _ _ e]; exact ih _ _ _ (by omega)
        · rw [beq_even e, get_node_odd _ _ _ _ e]; exact ih _ _ _ (by omega)
theorem setP_eq : ∀ (f n : Nat) (a : α) (t : PT α) (k : PT α → Bool), n < f → setP (pathF f n) a t k = k (setF f t n a) := by
  intro f
  induction f with
  | zero => intro n a t k h; omega
  | succ f ih =>
    intro n a t k h
    cases n with
    | zero => rw [pathF_zero]; cases t <;> rfl
    | succ n =>
      rw [pathF_succ]
      cases t with
      | nil =>
        rcases Nat.mod_two_eq_zero_or_one n with e | e
        · rw [beq_odd e, setF_nil_even _ _ _ e]; exact ih _ _ _ _ (by omega)
        · rw [beq_even e, setF_nil_odd _ _ _ e]; exact ih _ _ _ _ (by omega)
      | node v l r =>
        rcases Nat.mod_two_eq_zero_or_one n with e | e
        · rw [beq_odd e, setF_node_even _ _ _ _ _ _ e]; exact ih _ _ _ _ (by omega)
        · rw [beq_even e, setF_node_odd _ _ _ _ _ _ e]; exact ih _ _ _ _ (by omega)
theorem getK_eq (t : PT α) (n k) : getK t n k = k (t.get n) := getP_eq _ _ _ _ (Nat.lt_succ_self n)
theorem setK_eq (t : PT α) (n a k) : setK t n a k = k (t.set n a) := setP_eq _ _ _ _ _ (Nat.lt_succ_self n)
def setLK (l : List α) : PT α → Nat → (PT α → Bool) → Bool := List.rec (motive := fun _ => PT α → Nat → (PT α → Bool) → Bool) (fun t _ k => k t) (fun a _ ih t n k => setK t n a fun t => fNat (Nat.succ n) fun n => ih t n k) l
theorem setLK_eq : ∀ (l : List α) (t : PT α) (n k), setLK l t n k = k (t.setL n l)
  | [], _, _, _ => rfl
  | a :: l, t, n, k => by
    show (setK t n a fun t => fNat (Nat.succ n) fun n => setLK l t n k) = _
    rw [setK_eq, fNat_eq, setLK_eq l]; rfl
def ofListK (l : List α) (k : PT α → Bool) : Bool := setLK l .nil Nat.zero k
theorem ofListK_eq (l : List α) (k) : ofListK l k = k (ofList l) := setLK_eq l _ _ _
end PT
open PT (getK getK_eq setK setK_eq setLK setLK_eq ofListK ofListK_eq)

def nthK {α : Type} (l : List α) : Nat → (Option α → Bool) → Bool := List.rec (motive := fun _ => Nat → (Option α → Bool) → Bool) (fun _ k => k none) (fun x _ ih n k => Nat.rec (motive := fun _ => Bool) (k (some x)) (fun m _ => ih m k) n) l
theorem nthK_eq {α : Type} : ∀ (l : List α) (n k), nthK l n k = k l[n]?
  | [], n, k => by simp; rfl
  | x :: l, 0, k => rfl
  | x :: l, n + 1, k => (nthK_eq l n k).trans (by simp)
def appK {α : Type} (l : List α) : List α → (List α → Bool) → Bool := List.rec (motive := fun _ => List α → (List α → Bool) → Bool) (fun m k => k m) (fun x _ ih m k => ih m fun r => k (x :: r)) l
theorem appK_eq {α : Type} : ∀ (l m : List α) (k), appK l m k = k (l ++ m)
  | [], _, _ => rfl
  | x :: l, m, k => appK_eq l m fun r => k (x :: r)
def lenK {α : Type} (l : List α) (k : Nat → Bool) : Bool := List.rec (motive := fun _ => Nat → Bool) (fun n => fNat n k) (fun _ _ ih n => ih (Nat.succ n)) l Nat.zero
theorem lenK_eq {α : Type} (l : List α) (k) : lenK l k = k l.length := by
  have : ∀ (l : List α) (n : Nat), (List.rec (motive := fun _ => Nat → Bool) (fun n => fNat n k) (fun _ _ ih n => ih (Nat.succ n)) l n) = k (n + l.length) := by
    intro l
    induction l with
    | nil => intro n; exact fNat_eq _ _
    | cons x l ih => intro n; exact (ih (Nat.succ n)).trans (by rw [List.length_cons]; congr 1; omega)
  exact (this l 0).trans (by rw [Nat.zero_add])

/-! ### Operands -/
def evalK (a : ACt) (o : Operand) (k : Value → Bool) : Bool := match o with
  | .tmp t => match a with
    | ⟨tm, _⟩ => getK tm t fun v => match v with
      | some v => k v
      | none => k undef
  | .const v => k v
  | .global g => fNat (Nat.mul 2 g) fun b => k (.pointer (some ⟨b, 0, none⟩))
  | .func f => k (.func (.func f) #[] #[])
theorem evalK_eq (a o k) : evalK a o k = k (a.eval o) := by
  cases o with
  | tmp t =>
    simp only [evalK, getK_eq, ACt.eval, ACt.getT]
    cases a.tmps.get t <;> rfl
  | const v => rfl
  | global g => simp only [evalK, fNat_eq]; rfl
  | func f => rfl
def evalsK (a : ACt) (l : List Operand) : (List Value → Bool) → Bool := List.rec (motive := fun _ => (List Value → Bool) → Bool) (fun k => k []) (fun x _ ih k => evalK a x fun v => ih fun l => k (v :: l)) l
theorem evalsK_eq (a) : ∀ (l k), evalsK a l k = k (l.map a.eval)
  | [], _ => rfl
  | x :: l, k => (evalK_eq a x fun v => evalsK a l fun l => k (v :: l)).trans (evalsK_eq a l _)
def evalOK (a : ACt) (o : Option Operand) (k : Option Value → Bool) : Bool := match o with
  | none => k none
  | some x => evalK a x fun v => k (some v)
theorem evalOK_eq (a o k) : evalOK a o k = k (o.map a.eval) := by cases o <;> simp only [evalOK, evalK_eq, Option.map]
def partsK (a : ACt) (l : List (Nat × Operand)) : (List (Nat × Value) → Bool) → Bool := List.rec (motive := fun _ => (List (Nat × Value) → Bool) → Bool) (fun k => k []) (fun x _ ih k => evalK a x.2 fun v => ih fun l => k ((x.1, v) :: l)) l
theorem partsK_eq (a) : ∀ (l k), partsK a l k = k (l.map fun (i, x) => (i, a.eval x))
  | [], _ => rfl
  | x :: l, k => (evalK_eq a x.2 fun v => partsK a l fun l => k ((x.1, v) :: l)).trans (partsK_eq a l _)
def putTK (a : ACt) (d : Option Tmp) (v : Value) (k : ACt → Bool) : Bool := match d with
  | some d => match a with
    | ⟨tm, nt⟩ => setK tm d v fun tm => k ⟨tm, nt⟩
  | none => k a
theorem putTK_eq (a d v k) : putTK a d v k = k (a.put d v) := by cases d <;> simp only [putTK, setK_eq, ACt.put]
def cellsK (v : Value) (k : List Value → Bool) : Bool := match v with
  | .agg ⟨l⟩ => k l
  | v => k [v]
theorem cellsK_eq (v k) : cellsK v k = k v.cells.toList := by cases v <;> rfl

/-! ### Cells -/
def cellK (c : PT Value) (z : List Value) (n i : Nat) (k : Value → Bool) : Bool := Bool.rec (motive := fun _ => Bool) false
  (getK c i fun v => match v with
    | some v => k v
    | none => fV (z.getD (i % z.length) undef) k) (Nat.ble (Nat.succ i) n)
theorem cellK_eq (c z n i k) : cellK c z n i k = optE (cellAt c z n i) k := by
  unfold cellK cellAt
  cases hb : Nat.ble (Nat.succ i) n with
  | true =>
    have : i < n := Nat.le_of_ble_eq_true hb
    rw [if_pos this]
    simp only [getK_eq]
    cases c.get i <;> simp only [optE, fV_eq]
  | false =>
    have : ¬ i < n := fun h => by
      have := Nat.ble_eq_true_of_le (Nat.succ_le_of_lt h)
      rw [hb] at this; cases this
    rw [if_neg this]; rfl
def readK (c : PT Value) (z : List Value) (n : Nat) (m : Nat) : Nat → (List Value → Bool) → Bool := Nat.rec (motive := fun _ => Nat → (List Value → Bool) → Bool) (fun _ k => k []) (fun _ ih i k => cellK c z n i fun v => fNat (Nat.succ i) fun i => ih i fun l => k (v :: l)) m
theorem readK_eq (c z n) : ∀ (m i k), readK c z n m i k = optE (readCells c z n i m) k
  | 0, _, _ => rfl
  | m + 1, i, k => by
    show (cellK c z n i fun v => fNat (Nat.succ i) fun i => readK c z n m i fun l => k (v :: l)) = _
    rw [cellK_eq, readCells]
    cases cellAt c z n i with
    | none => rfl
    | some v =>
      simp only [optE, fNat_eq]
      rw [readK_eq c z n m]
      cases readCells c z n (i + 1) m <;> rfl
def loadNK (s : St) (a : Addr) (m : Nat) (k : List Value → Bool) : Bool := match s, a with
  | ⟨h, _, _⟩, ⟨b, off, none⟩ => getK h b fun o => match o with
    | some (.cells c z n _ _ _ _) => readK c z n m off k
    | _ => false
  | _, _ => false
theorem loadNK_eq (s a m k) : loadNK s a m k = optE (loadN s.look a m) k := by
  rcases s with ⟨h, nx, cl⟩
  rcases a with ⟨b, off, _ | q⟩
  · simp only [loadNK, getK_eq, loadN, St.look]
    cases h.get b with
    | none => rfl
    | some o => cases o <;> first | rfl | exact readK_eq _ _ _ _ _ _
  · rfl
def load1K (s : St) (a : Addr) (k : Value → Bool) : Bool := match s, a with
  | ⟨h, _, _⟩, ⟨b, off, none⟩ => getK h b fun o => match o with
    | some (.cells c z n _ _ _ _) => cellK c z n off k
    | _ => false
  | _, _ => false
theorem load1K_eq (s a k) : load1K s a k = optE (load1 s.look a) k := by
  rcases s with ⟨h, nx, cl⟩
  rcases a with ⟨b, off, _ | q⟩
  · simp only [load1K, getK_eq, load1, St.look]
    cases h.get b with
    | none => rfl
    | some o => cases o <;> first | rfl | exact cellK_eq _ _ _ _ _
  · rfl
def loadK (X : Env) (s : St) (t : TypeId) (a : Addr) (k : Value → Bool) : Bool := match X.ty t with
  | some i => Bool.rec (motive := fun _ => Bool) (load1K s a k) (loadNK s a i.size fun l => k (.agg ⟨l⟩)) i.agg
  | none => false
theorem loadK_eq (X s t a k) : loadK X s t a k = optE (loadT X s.look t a) k := by
  unfold loadK loadT
  cases X.ty t with
  | none => rfl
  | some i =>
    simp only
    cases i.agg with
    | false => exact load1K_eq _ _ _
    | true =>
      simp only [loadNK_eq, if_true]
      cases loadN s.look a i.size <;> rfl
def allK (l : List Value) (x y : Bool) : Bool := List.rec (motive := fun _ => Bool) x (fun v _ ih => match v with
  | .agg _ => y
  | .tuple _ => y
  | _ => ih) l
theorem allK_eq (x y) : ∀ l, allK l x y = if l.all one1 = true then x else y
  | [] => rfl
  | v :: l => by
    have := allK_eq x y l
    cases v <;> first | rfl | (simp only [List.all_cons, one1, Bool.true_and]; exact this)
def fObj (o : AObj) (k : AObj → Bool) : Bool := match o with
  | .cells c z n e r ro v => k (.cells c z n e r ro v)
  | .map es c v => k (.map es c v)
  | .miter m a b c v => k (.miter m a b c v)
  | .siter s p v => k (.siter s p v)
  | .loop a b c d e f g v => k (.loop a b c d e f g v)
  | .dead => k .dead
theorem fObj_eq (o k) : fObj o k = k o := by cases o <;> rfl
def putK (s : St) (b : Nat) (o : Nat → AObj) (k : St → Bool) : Bool := match s with
  | ⟨h, nx, c⟩ => fObj (o c) fun o => setK h b o fun h => fNat (Nat.succ c) fun c => k ⟨h, nx, c⟩
theorem putK_eq (s b o k) : putK s b o k = k (s.put b o) := by simp only [putK, fObj_eq, setK_eq, fNat_eq]; rfl
def newK (s : St) (o : Nat → AObj) (k : St → Bool) : Bool := match s with
  | ⟨h, nx, c⟩ => fObj (o c) fun o => setK h nx o fun h => fNat (Nat.add nx 2) fun nx => fNat (Nat.succ c) fun c => k ⟨h, nx, c⟩
theorem newK_eq (s o k) : newK s o k = k (s.new o) := by simp only [newK, fObj_eq, setK_eq, fNat_eq]; rfl
def storeNK (s : St) (a : Addr) (vs : List Value) (k : St → Bool) : Bool := match s, a with
  | ⟨h, nx, cl⟩, ⟨b, off, none⟩ => getK h b fun o => match o with
    | some (.cells c z n e r false _) => lenK vs fun m => Bool.rec (motive := fun _ => Bool) false (allK vs
        (setLK vs c off fun c => setK h b (.cells c z n e r false cl) fun h => fNat (Nat.succ cl) fun cl => k ⟨h, nx, cl⟩) false) (Nat.ble (Nat.add off m) n)
    | _ => false
  | _, _ => false
theorem storeNK_eq (s a vs k) : storeNK s a vs k = optE (storeN s a vs) k := by
  rcases s with ⟨h, nx, cl⟩
  rcases a with ⟨b, off, _ | q⟩
  · simp only [storeNK, getK_eq, storeN]
    cases h.get b with
    | none => rfl
    | some o =>
      cases o with
      | cells c z n e r ro v =>
        cases ro with
        | true => rfl
        | false =>
          simp only [lenK_eq, allK_eq, setLK_eq, setK_eq, fNat_eq]
          cases hb : Nat.ble (Nat.add off vs.length) n with
          | false =>
            have h1 : ¬ (off + vs.length ≤ n ∧ vs.all one1 = true) := fun h => by
              have := Nat.ble_eq_true_of_le h.1
              rw [show Nat.ble (off + vs.length) n = false from hb] at this; cases this
            simp only [if_neg h1]; rfl
          | true =>
            have h1 : off + vs.length ≤ n := Nat.le_of_ble_eq_true hb
            simp only
            by_cases h2 : vs.all one1 = true
            · rw [if_pos h2, if_pos ⟨h1, h2⟩]; rfl
            · rw [if_neg h2, if_neg (fun h => h2 h.2)]; rfl
      | _ => rfl
  · rfl
def storeK (X : Env) (s : St) (t : TypeId) (a : Addr) (v : Value) (k : St → Bool) : Bool := match X.ty t with
  | some i => cellsK v fun l => lenK l fun m => Bool.rec (motive := fun _ => Bool) false (storeNK s a l k) (Nat.beq m i.size)
  | none => false
theorem storeK_eq (X s t a v k) : storeK X s t a v k = optE (storeT X s t a v) k := by
  unfold storeK storeT
  cases X.ty t with
  | none => rfl
  | some i =>
    simp only [cellsK_eq, lenK_eq]
    cases hb : Nat.beq v.cells.toList.length i.size with
    | false =>
      rw [if_neg (fun h => ?_)]
      · rfl
      · have : v.cells.toList.length = i.size := h
        rw [this, Nat.beq_refl] at hb
        cases hb
    | true =>
      have : v.cells.size = i.size := Nat.eq_of_beq_eq_true hb
      rw [if_pos this]; exact storeNK_eq _ _ _ _
end Go.Dust
end
end
section
/- The twin, part 2: operations. -/
noncomputable section
namespace Go.Dust
open PT (getK getK_eq setK setK_eq setLK setLK_eq ofListK ofListK_eq)

/-! ### Arithmetic -/
def smallK (n : Nat) (k : Value → Bool) (slow : Bool) : Bool := Bool.rec (motive := fun _ => Bool) slow (fNat n fun n => k (.int .i64 (.ofNat n))) (Nat.ble n 9223372036854775807)
def fastI (op : BinOp) (a b : Nat) (k : Value → Bool) (slow : Bool) : Bool := match op with
  | .add => smallK (Nat.add a b) k slow
  | .sub => Bool.rec (motive := fun _ => Bool) slow (smallK (Nat.sub a b) k slow) (Nat.ble b a)
  | .mul => smallK (Nat.mul a b) k slow
  | .quo => Bool.rec (motive := fun _ => Bool) (smallK (Nat.div a b) k slow) slow (Nat.beq b 0)
  | .rem => Bool.rec (motive := fun _ => Bool) (fNat (Nat.mod a b) fun n => k (.int .i64 (.ofNat n))) slow (Nat.beq b 0)
  | .eql => fBool (Nat.beq a b) fun c => k (.bool c)
  | .neq => Bool.rec (motive := fun _ => Bool) (k (.bool true)) (k (.bool false)) (Nat.beq a b)
  | .lss => fBool (Nat.ble (Nat.succ a) b) fun c => k (.bool c)
  | .leq => fBool (Nat.ble a b) fun c => k (.bool c)
  | .gtr => fBool (Nat.ble (Nat.succ b) a) fun c => k (.bool c)
  | .geq => fBool (Nat.ble b a) fun c => k (.bool c)
  | _ => slow
theorem wrapN_small {n : Nat} (h : n ≤ 9223372036854775807) : IntKind.i64.wrap (Int.ofNat n) = Int.ofNat n := by
  have h0 : (Int.ofNat n) % ((2 : Int) ^ IntKind.i64.bits) = Int.ofNat n := by
    apply Int.emod_eq_of_lt
    · exact Int.natCast_nonneg n
    · show (n : Int) < 18446744073709551616
      omega
  unfold IntKind.wrap
  simp only [h0]
  rw [if_neg]
  intro hc
  rw [Bool.and_eq_true, decide_eq_true_eq] at hc
  have : (n : Int) ≥ 9223372036854775808 := hc.2
  omega
theorem smallK_eq (n k) : smallK n k (optE (some (.int .i64 (IntKind.i64.wrap (Int.ofNat n)))) k) = optE (some (.int .i64 (IntKind.i64.wrap (Int.ofNat n)))) k := by
  unfold smallK
  cases hb : Nat.ble n 9223372036854775807 with
  | false => rfl
  | true =>
    simp only [fNat_eq]
    rw [wrapN_small (Nat.le_of_ble_eq_true hb)]
    rfl
theorem ble_dec (a b : Nat) : Nat.ble a b = decide ((a : Int) ≤ (b : Int)) := by
  cases h : Nat.ble a b with
  | true => have := Nat.le_of_ble_eq_true h; simp [this]
  | false =>
    have : ¬ a ≤ b := fun h' => by rw [Nat.ble_eq_true_of_le h'] at h; cases h
    simp [this]
theorem beq_dec (a b : Nat) : Nat.beq a b = (Int.ofNat a == Int.ofNat b) := by
  cases h : Nat.beq a b with
  | true => have := Nat.eq_of_beq_eq_true h; simp [this]
  | false => have := Nat.ne_of_beq_eq_false h; simp; omega
theorem fastI_eq (op a b k) : fastI op a b k (optE (arith op .i64 (.ofNat a) (.ofNat b)) k) = optE (arith op .i64 (.ofNat a) (.ofNat b)) k := by
  cases op with
  | add => exact smallK_eq _ _
  | sub =>
    show (Bool.rec (motive := fun _ => Bool) _ _ (Nat.ble b a)) = _
    cases hb : Nat.ble b a with
    | false => rfl
    | true =>
      have := Nat.le_of_ble_eq_true hb
      have h : arith .sub .i64 (.ofNat a) (.ofNat b) = some (.int .i64 (IntKind.i64.wrap (Int.ofNat (a - b)))) := by
        show some (Value.int .i64 (IntKind.i64.wrap ((a : Int) - (b : Int)))) = _
        rw [← Int.ofNat_sub this]; rfl
      rw [h]; exact smallK_eq _ _
  | mul => exact smallK_eq _ _
  | quo =>
    show (Bool.rec (motive := fun _ => Bool) _ _ (Nat.beq b 0)) = _
    cases hb : Nat.beq b 0 with
    | true => rfl
    | false =>
      have h0 := Nat.ne_of_beq_eq_false hb
      have h : arith .quo .i64 (.ofNat a) (.ofNat b) = some (.int .i64 (IntKind.i64.wrap (Int.ofNat (a / b)))) := by
        show (if (b : Int) = 0 then none else some (Value.int .i64 (IntKind.i64.wrap ((a : Int).tdiv (b : Int))))) = _
        rw [if_neg (by omega)]; rfl
      rw [h]; exact smallK_eq _ _
  | rem =>
    show (Bool.rec (motive := fun _ => Bool) _ _ (Nat.beq b 0)) = _
    cases hb : Nat.beq b 0 with
    | true => rfl
    | false =>
      have h0 := Nat.ne_of_beq_eq_false hb
      have h : arith .rem .i64 (.ofNat a) (.ofNat b) = some (.int .i64 (Int.ofNat (a % b))) := by
        show (if (b : Int) = 0 then none else some (Value.int .i64 ((a : Int).tmod (b : Int)))) = _
        rw [if_neg (by omega)]; rfl
      rw [h]; exact fNat_eq _ _
  | eql =>
    simp only [fastI, fBool_eq, beq_dec]; rfl
  | neq =>
    simp only [fastI, beq_dec]
    show _ = k (.bool (Int.ofNat a != Int.ofNat b))
    unfold bne
    cases (Int.ofNat a == Int.ofNat b) <;> rfl
  | lss =>
    simp only [fastI, fBool_eq, ble_dec]
    show _ = k (.bool (decide ((a : Int) < b)))
    congr 2
  | leq => simp only [fastI, fBool_eq, ble_dec]; rfl
  | gtr =>
    simp only [fastI, fBool_eq, ble_dec]
    show _ = k (.bool (decide ((a : Int) > b)))
    congr 2
  | geq =>
    simp only [fastI, fBool_eq, ble_dec]
    show _ = k (.bool (decide ((a : Int) ≥ b)))
    rfl
  | _ => rfl
def binK (X : Env) (H : Look) (op : BinOp) (t : TypeId) (x y : Value) (k : Value → Bool) : Bool := match x, y with
  | .int .i64 (.ofNat a), .int .i64 (.ofNat b) => match op with
    | .shl => optV (binop X H .shl t x y) k
    | .shr => optV (binop X H .shr t x y) k
    | op => fastI op a b k (optV (binop X H op t x y) k)
  | _, _ => optV (binop X H op t x y) k
theorem binK_eq (X H op t x y k) : binK X H op t x y k = optE (binop X H op t x y) k := by
  unfold binK
  split
  · rename_i a b
    cases op <;> simp only [optV_eq] <;> exact fastI_eq _ a b k
  · exact optV_eq _ _

/-! ### Addresses -/
def fieldAddrK (X : Env) (st : TypeId) (x : Value) (f : Nat) (k : Value → Bool) : Bool := match x with
  | .pointer (some ⟨b, off, none⟩) => match X.ty st with
    | some i => match i.desc with
      | .struct fields => nthK fields.toList f fun fd => match fd with
        | some fd => match X.ty fd.type with
          | some ti => Bool.rec (motive := fun _ => Bool) (fNat (Nat.add off fd.offset) fun o => k (.pointer (some ⟨b, o, none⟩))) false (Nat.beq ti.size 0)
          | none => false
        | none => false
      | _ => false
    | none => false
  | _ => false
theorem fieldAddrK_eq (X st x f k) : fieldAddrK X st x f k = optE (fieldAddrA X st x f) k := by
  unfold fieldAddrK fieldAddrA
  cases hX : X.ty st with
  | none =>
    split
    · rfl
    · rfl
  | some i =>
    rcases i with ⟨desc, size, bytes, zero, agg, methods, cmp⟩
    cases x with
    | pointer a =>
      cases a with
      | none => cases desc <;> rfl
      | some a =>
        rcases a with ⟨b, off, _ | q⟩
        · cases desc with
          | struct fields =>
            simp only [nthK_eq, Array.getElem?_toList]
            cases fields[f]? with
            | none => rfl
            | some fd =>
              simp only
              cases X.ty fd.type with
              | none => rfl
              | some ti =>
                simp only
                cases hb : Nat.beq ti.size 0 with
                | true => rw [if_pos (Nat.eq_of_beq_eq_true hb)]; rfl
                | false => rw [if_neg (Nat.ne_of_beq_eq_false hb), addr_add]; simp only [fNat_eq]; rfl
          | _ => rfl
        · cases desc with
          | struct fields => simp only; cases fields[f]? <;> rfl
          | _ => rfl
    | _ => cases desc <;> rfl
def indexAddrK (X : Env) (t : TypeId) (x i : Value) (k : Value → Bool) : Bool := match x, i with
  | .slice (some ⟨b, off, none⟩) len cap, .int j (.ofNat n) => match X.ty t with
    | some it => match it.desc with
      | .slice e => match X.ty e with
        | some ei => Bool.rec (motive := fun _ => Bool) false (fNat (Nat.add off (Nat.mul n ei.size)) fun o => k (.pointer (some ⟨b, o, none⟩))) (Nat.ble (Nat.succ n) len)
        | none => false
      | .array _ _ => optV (indexAddrA X t (.slice (some ⟨b, off, none⟩) len cap) (.int j (.ofNat n))) k
      | _ => false
    | none => false
  | x, i => optV (indexAddrA X t x i) k
theorem indexAddrK_eq (X t x i k) : indexAddrK X t x i k = optE (indexAddrA X t x i) k := by
  unfold indexAddrK
  split
  · rename_i b off len cap j n
    unfold indexAddrA
    cases hX : X.ty t with
    | none => rfl
    | some it =>
      rcases it with ⟨desc, size, bytes, zero, agg, methods, cmp⟩
      cases desc with
      | slice e =>
        simp only
        cases X.ty e with
        | none => rfl
        | some ei =>
          simp only
          cases hb : Nat.ble (Nat.succ n) len with
          | false =>
            rw [if_neg]
            · rfl
            · intro h
              have := Nat.ble_eq_true_of_le (Int.ofNat_lt.1 h.2)
              rw [hb] at this; cases this
          | true =>
            have := Nat.le_of_ble_eq_true hb
            rw [if_pos ⟨Int.natCast_nonneg n, Int.ofNat_lt.2 this⟩, show (Int.ofNat n).toNat = n from rfl, addr_add]
            simp only [fNat_eq]; rfl
      | array l e => simp only [optV_eq]
      | _ => rfl
  · exact optV_eq _ _
def loK (lo : Option Value) (k : Nat → Bool) (slow : Bool) : Bool := match lo with
  | none => k Nat.zero
  | some (.int _ (.ofNat l)) => k l
  | _ => slow
def hiK (hi : Option Value) (len : Nat) (k : Nat → Bool) (slow : Bool) : Bool := match hi with
  | none => k len
  | some (.int _ (.ofNat h)) => k h
  | _ => slow
theorem loK_eq {lo : Option Value} {k : Nat → Bool} {slow r : Bool} (hs : slow = r) (hk : ∀ l x, optInt lo = some x → (x = none ∧ l = 0 ∨ x = some (Int.ofNat l)) → k l = r) : loK lo k slow = r := by
  unfold loK
  split
  · exact hk 0 none rfl (.inl ⟨rfl, rfl⟩)
  · exact hk _ (some _) rfl (.inr rfl)
  · exact hs
theorem hiK_eq {hi : Option Value} {len : Nat} {k : Nat → Bool} {slow r : Bool} (hs : slow = r) (hk : ∀ h x, optInt hi = some x → (x = none ∧ h = len ∨ x = some (Int.ofNat h)) → k h = r) : hiK hi len k slow = r := by
  unfold hiK
  split
  · exact hk len none rfl (.inl ⟨rfl, rfl⟩)
  · exact hk _ (some _) rfl (.inr rfl)
  · exact hs
theorem bounds2_nat {len cap l h : Nat} {lo hi : Option Int} (hlo : lo = none ∧ l = 0 ∨ lo = some (Int.ofNat l)) (hhi : hi = none ∧ h = len ∨ hi = some (Int.ofNat h)) (h1 : l ≤ h) (h2 : h ≤ cap) : bounds2 len cap lo hi = some (l, h) := by
  have a1 : (0 : Int) ≤ Int.ofNat l ∧ Int.ofNat l ≤ (h : Int) := ⟨Int.natCast_nonneg l, Int.ofNat_le.2 h1⟩
  have a2 : (0 : Int) ≤ Int.ofNat h ∧ Int.ofNat h ≤ (cap : Int) := ⟨Int.natCast_nonneg h, Int.ofNat_le.2 h2⟩
  rcases hlo with ⟨rfl, rfl⟩ | rfl <;> rcases hhi with ⟨rfl, rfl⟩ | rfl
  · rfl
  · simp only [bounds2, if_pos a2]; rfl
  · simp only [bounds2, if_pos a1]; rfl
  · simp only [bounds2, if_pos a2, show (Int.ofNat h).toNat = h from rfl, if_pos a1]; rfl
def sliceF (X : Env) (o : Option AObj) (t : TypeId) (b off len cap : Nat) (lo hi : Option Value) (k : Value → Bool) (slow : Bool) : Bool := match X.ty t with
  | some i => match i.desc with
    | .slice e => match X.ty e, o with
      | some ei, some (.cells ..) => hiK hi len (fun h => loK lo (fun l => Bool.rec (motive := fun _ => Bool) slow (Bool.rec (motive := fun _ => Bool) slow (Bool.rec (motive := fun _ => Bool)
          (fNat (Nat.add off (Nat.mul l ei.size)) fun o => fNat (Nat.sub h l) fun n => fNat (Nat.sub cap l) fun m => k (.slice (some ⟨b, o, none⟩) n m)) slow (Nat.beq cap l)) (Nat.ble h cap)) (Nat.ble l h)) slow) slow
      | _, _ => slow
    | _ => slow
  | none => slow
theorem sliceF_eq {X : Env} {o : Option AObj} {t : TypeId} {b off len cap : Nat} {lo hi : Option Value} {k : Value → Bool} {slow : Bool}
    (hs : slow = optE (sliceA X (fun _ => o) t (.slice (some ⟨b, off, none⟩) len cap) lo hi none) k) :
    sliceF X o t b off len cap lo hi k slow = optE (sliceA X (fun _ => o) t (.slice (some ⟨b, off, none⟩) len cap) lo hi none) k := by
  unfold sliceF
  split
  · rename_i i hi'
    split
    · rename_i e hd
      split
      · rename_i ei c z n el room ro ver he
        refine hiK_eq hs fun h xh eh rh => loK_eq hs fun l xl el rl => ?_
        cases h1 : Nat.ble l h with
        | false => exact hs
        | true =>
          cases h2 : Nat.ble h cap with
          | false => exact hs
          | true =>
            cases h3 : Nat.beq cap l with
            | true => exact hs
            | false =>
              have g1 := Nat.le_of_ble_eq_true h1
              have g2 := Nat.le_of_ble_eq_true h2
              have g3 := Nat.ne_of_beq_eq_false h3
              simp only [fNat_eq]
              rcases i with ⟨desc, size, bytes, zero, agg, methods, cmp⟩
              simp only at hd
              subst hd
              unfold sliceA
              simp only [hi', eh, el, bounds2_nat rl rh g1 g2, he, if_pos (show l ≤ h ∧ h ≤ cap from ⟨g1, g2⟩), if_neg g3, addr_add]
              rfl
      · exact hs
    · exact hs
  · exact hs
def sliceK (X : Env) (s : St) (t : TypeId) (x : Value) (lo hi mx : Option Value) (k : Value → Bool) : Bool := match x with
  | .slice (some a) l c => match s with
    | ⟨h, _, _⟩ => getK h a.block fun o => match o with
      | none => false
      | some o => match a, mx with
        | ⟨b, off, none⟩, none => sliceF X (some o) t b off l c lo hi k (optV (sliceA X (fun _ => some o) t (.slice (some ⟨b, off, none⟩) l c) lo hi none) k)
        | a, mx => optV (sliceA X (fun _ => some o) t (.slice (some a) l c) lo hi mx) k
  | .pointer (some a) => match s with
    | ⟨h, _, _⟩ => getK h a.block fun o => optV (sliceA X (fun _ => o) t (.pointer (some a)) lo hi mx) k
  | x => optV (sliceA X (fun _ => none) t x lo hi mx) k
theorem sliceA_at (X : Env) (H : Look) (t a l c lo hi mx) : sliceA X (fun _ => H a.block) t (.slice (some a) l c) lo hi mx = sliceA X H t (.slice (some a) l c) lo hi mx := by
  unfold sliceA
  cases mx with
  | some _ => rfl
  | none =>
    simp only
    cases X.ty t with
    | none => rfl
    | some i =>
      rcases i with ⟨desc, size, bytes, zero, agg, methods, cmp⟩
      cases optInt lo <;> cases optInt hi <;> first | rfl | (cases desc <;> rfl)
theorem sliceA_at' (X : Env) (H : Look) (t a lo hi mx) : sliceA X (fun _ => H a.block) t (.pointer (some a)) lo hi mx = sliceA X H t (.pointer (some a)) lo hi mx := by
  unfold sliceA
  cases mx with
  | some _ => rfl
  | none =>
    simp only
    cases X.ty t with
    | none => rfl
    | some i =>
      rcases i with ⟨desc, size, bytes, zero, agg, methods, cmp⟩
      cases optInt lo <;> cases optInt hi <;> first | rfl | (cases desc <;> rfl)
theorem sliceA_free (X : Env) (H : Look) (t x lo hi mx) (h1 : ∀ a l c, x ≠ .slice (some a) l c) (h2 : ∀ a, x ≠ .pointer (some a)) : sliceA X (fun _ => none) t x lo hi mx = sliceA X H t x lo hi mx := by
  unfold sliceA
  cases mx with
  | some _ => rfl
  | none =>
    simp only
    cases X.ty t with
    | none => rfl
    | some i =>
      rcases i with ⟨desc, size, bytes, zero, agg, methods, cmp⟩
      cases optInt lo <;> cases optInt hi <;> first | rfl | skip
      cases x with
      | slice a l c => cases a with
        | none => cases desc <;> first | rfl | (cases l <;> cases c <;> rfl)
        | some a => exact absurd rfl (h1 a l c)
      | pointer a => cases a with
        | none => cases desc <;> rfl
        | some a => exact absurd rfl (h2 a)
      | _ => cases desc <;> rfl
theorem sliceA_none (X : Env) (t a l c lo hi mx) : sliceA X (fun _ => none) t (.slice (some a) l c) lo hi mx = none := by
  unfold sliceA
  cases mx with
  | some _ => rfl
  | none =>
    simp only
    cases X.ty t with
    | none => rfl
    | some i =>
      rcases i with ⟨desc, size, bytes, zero, agg, methods, cmp⟩
      cases optInt lo with
      | none => rfl
      | some lo => cases optInt hi with
        | none => rfl
        | some hi =>
          cases desc with
          | slice e =>
            simp only
            cases a.spot with
            | none => simp only; cases bounds2 l c lo hi <;> cases X.ty e <;> rfl
            | some _ => rfl
          | _ => rfl
theorem sliceK_eq (X s t x lo hi mx k) : sliceK X s t x lo hi mx k = optE (sliceA X s.look t x lo hi mx) k := by
  cases x with
  | slice a l c => cases a with
    | none => exact (optV_eq _ _).trans (by rw [sliceA_free X s.look] <;> intros <;> simp)
    | some a =>
      rw [← sliceA_at X s.look]
      rcases s with ⟨h, nx, cl⟩
      show _ = optE (sliceA X (fun _ => h.get a.block) t (.slice (some a) l c) lo hi mx) k
      simp only [sliceK, getK_eq]
      cases h.get a.block with
      | none => rw [sliceA_none]; rfl
      | some o =>
        rcases a with ⟨b, off, _ | q⟩
        · cases mx with
          | none => exact sliceF_eq (optV_eq _ _)
          | some m => exact optV_eq _ _
        · exact optV_eq _ _
  | pointer a => cases a with
    | none => exact (optV_eq _ _).trans (by rw [sliceA_free X s.look] <;> intros <;> simp)
    | some a =>
      rw [← sliceA_at' X s.look]
      rcases s with ⟨h, nx, cl⟩
      simp only [sliceK, getK_eq, optV_eq]; rfl
  | _ => exact (optV_eq _ _).trans (by rw [sliceA_free X s.look] <;> intros <;> simp)

def lenVK (X : Env) (s : St) (t : TypeId) (v : Value) (k : Value → Bool) : Bool := match v with
  | .slice a n c => match X.ty t with
    | some i => match i.desc with
      | .slice _ => k (.int .i64 (.ofNat n))
      | _ => optV (lenOfA X s.look t (.slice a n c)) k
    | none => false
  | v => optV (lenOfA X s.look t v) k
theorem lenVK_eq (X s t v k) : lenVK X s t v k = optE (lenOfA X s.look t v) k := by
  cases v with
  | slice a n c =>
    simp only [lenVK, optV_eq, lenOfA]
    cases X.ty t with
    | none => rfl
    | some i =>
      rcases i with ⟨desc, size, bytes, zero, agg, methods, cmp⟩
      cases desc <;> rfl
  | _ => exact optV_eq _ _

/-! ### Operations that only read -/
def stillK (X : Env) (s : St) (a : ACt) (op : Op) (k : Value → Bool) : Bool := match op with
  | .move x => evalK a x k
  | .assign x => evalK a x k
  | .pick c x y => evalK a c fun v => match v with
    | .bool t => Bool.rec (motive := fun _ => Bool) (evalK a y k) (evalK a x k) t
    | _ => false
  | .build t parts => partsK a parts.toList fun ps => optV (buildA X t ps) k
  | .load t x => evalK a x fun v => match v with
    | .pointer (some ad) => loadK X s t ad k
    | _ => false
  | .nilCheck x => evalK a x fun v => optE (nilCheckA v) k
  | .binOp op t x y _ => evalK a x fun v => evalK a y fun w => Bool.rec (motive := fun _ => Bool) (binK X s.look op t v w k) false (bothNil v w && !(isConstO x || isConstO y))
  | .unOp op _ x => evalK a x fun v => optV (unop op v) k
  | .convert c d x => evalK a x fun v => optV (convertA X c d v) k
  | .makeInterface t x => evalK a x fun v => match X.ty t with
    | some i => match i.desc with
      | .interface _ => false
      | _ => k (.iface t v)
    | none => false
  | .makeFunc fn first captured => evalsK a first.toList fun u => evalsK a captured.toList fun w => match fn with
    | .func f => k (.func (.func f) ⟨u⟩ ⟨w⟩)
    | .method m => k (.func (.method m) ⟨u⟩ ⟨w⟩)
    | _ => false
  | .slice t x lo hi mx => evalK a x fun v => evalOK a lo fun lo => evalOK a hi fun hi => evalOK a mx fun mx => sliceK X s t v lo hi mx k
  | .fieldAddr c x f => evalK a x fun v => fieldAddrK X c v f k
  | .field t x f => evalK a x fun v => optV (fieldA X t v f) k
  | .indexAddr t x i => evalK a x fun v => evalK a i fun w => indexAddrK X t v w k
  | .index t x i => evalK a x fun v => evalK a i fun w => optV (indexA X t v w) k
  | .lookup t x y ok => evalK a x fun v => evalK a y fun w => optV (lookupA X s.look t v w ok) k
  | .extract t i => evalK a t fun v => match v with
    | .tuple ⟨vs⟩ => nthK vs i fun v => optE v k
    | _ => false
  | .entry it => evalK a it fun v => optV (entryA s.look v) k
  | .typeAssert x _ t ok => evalK a x fun v => optV (typeAssertA X v t ok) k
  | .call c => match c.callee with
    | .builtin .len => match c.argTypes[0]?, c.args[0]? with
      | some t, some x => evalK a x fun v => lenVK X s t v k
      | _, _ => false
    | .builtin .min => evalsK a c.args.toList fun l => optV (match l with
      | v :: rest => minmaxA (fun x y => decide (y < x)) v rest
      | _ => none) k
    | .builtin .max => evalsK a c.args.toList fun l => optV (match l with
      | v :: rest => minmaxA (fun x y => decide (y > x)) v rest
      | _ => none) k
    | _ => false
  | _ => false
theorem map_mk (l : Array Operand) (f : Operand → Value) : l.map f = ⟨l.toList.map f⟩ := by
  apply Array.toList_inj.1; simp
theorem stillK_eq (X s a op k) : stillK X s a op k = optE (stillA X s.look a.eval op) k := by
  cases op with
  | move x => exact evalK_eq _ _ _
  | assign x => exact evalK_eq _ _ _
  | pick c x y =>
    simp only [stillK, evalK_eq, stillA]
    cases a.eval c with
    | bool t => cases t <;> rfl
    | _ => rfl
  | build t parts => simp only [stillK, partsK_eq, optV_eq, stillA]
  | load t x =>
    simp only [stillK, evalK_eq, stillA]
    cases a.eval x with
    | pointer ad => cases ad with
      | none => rfl
      | some ad => exact loadK_eq _ _ _ _ _
    | _ => rfl
  | nilCheck x => simp only [stillK, evalK_eq, stillA]
  | binOp op t x y y' =>
    simp only [stillK, evalK_eq, stillA, binK_eq]
    cases (bothNil (a.eval x) (a.eval y) && !(isConstO x || isConstO y)) <;> rfl
  | unOp op t x => simp only [stillK, evalK_eq, stillA, optV_eq]
  | convert c d x => simp only [stillK, evalK_eq, stillA, optV_eq]
  | makeInterface t x =>
    simp only [stillK, evalK_eq, stillA]
    cases X.ty t with
    | none => rfl
    | some i =>
      rcases i with ⟨desc, size, bytes, zero, agg, methods, cmp⟩
      cases desc <;> rfl
  | makeFunc fn first captured =>
    simp only [stillK, evalsK_eq, stillA, map_mk]
    cases fn <;> rfl
  | slice t x lo hi mx => simp only [stillK, evalK_eq, evalOK_eq, stillA, sliceK_eq]
  | fieldAddr c x f => simp only [stillK, evalK_eq, stillA, fieldAddrK_eq]
  | field t x f => simp only [stillK, evalK_eq, stillA, optV_eq]
  | indexAddr t x i => simp only [stillK, evalK_eq, stillA, indexAddrK_eq]
  | index t x i => simp only [stillK, evalK_eq, stillA, optV_eq]
  | lookup t x y ok => simp only [stillK, evalK_eq, stillA, optV_eq]
  | extract t i =>
    simp only [stillK, evalK_eq, stillA]
    cases a.eval t with
    | tuple vs => rcases vs with ⟨vs⟩; simp only [nthK_eq, List.getElem?_toArray]
    | _ => rfl
  | entry it => simp only [stillK, evalK_eq, stillA, optV_eq]
  | typeAssert x t t' ok => simp only [stillK, evalK_eq, stillA, optV_eq]
  | call c =>
    simp only [stillK, stillA]
    cases c.callee with
    | value f => rfl
    | invoke r m => rfl
    | builtin b =>
      cases b with
      | len =>
        simp only
        cases c.argTypes[0]? <;> cases c.args[0]? <;> first | rfl | simp only [evalK_eq, lenVK_eq]
      | min =>
        simp only [evalsK_eq, optV_eq]
        cases c.args.toList.map a.eval <;> rfl
      | max =>
        simp only [evalsK_eq, optV_eq]
        cases c.args.toList.map a.eval <;> rfl
      | _ => rfl
  | _ => rfl
end Go.Dust
end
end
