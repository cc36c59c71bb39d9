/- UQ UC UD -/
import Derived.Test.YtelmjodchophjaaGreatDoorI
set_option linter.unusedVariables false
set_option linter.unusedSimpArgs false
section
/- Objects, slices that grow, strings, loops over functions that may return. -/
namespace Go.Dust
open Go.Proofs
set_option maxRecDepth 100000
set_option maxHeartbeats 1000000
set_option linter.unusedSimpArgs false
set_option linter.unusedVariables false
def Obj (s : St) (b : Nat) (L : List Value) : Prop := ∃ e, Cells s b e L
namespace Obj
variable {F : List Nat} {s s' : St} {b i : Nat} {L : List Value} {v : Value}
theorem keep (h : Obj s b L) (k : Keeps F s s') (hb : b ∉ F) : Obj s' b L := let ⟨e, h⟩ := h; ⟨e, h.keep k hb⟩
theorem load (h : Obj s b L) (hi : L[i]? = some v) : load1 s.look ⟨b, i, none⟩ = some v := let ⟨_, h⟩ := h; h.load hi
theorem same (h : Obj s b L) (hs : Ok s) (k : Keeps F s s') (hb : b ∉ F) : sameObj s s' b = true := let ⟨_, h⟩ := h; h.same hs k hb
theorem lt (h : Obj s b L) (hs : Ok s) : b < s.next := let ⟨_, h⟩ := h; h.lt hs
theorem store1 (h : Obj s b L) (hs : Ok s) (hi : i < L.length) (h1 : one1 v = true) : ∃ s', storeN s ⟨b, i, none⟩ [v] = some s' ∧ Obj s' b (L.set i v) ∧ Keeps [b] s s' := by
  obtain ⟨e, h⟩ := h
  obtain ⟨s', h1, h2, h3⟩ := h.store1 hs hi h1
  exact ⟨s', h1, ⟨e, h2⟩, h3⟩
theorem sl {n c m : Nat} (h : Obj s b L) (hn : L.length = n * m) : Sl s m (.slice (some ⟨b, 0, none⟩) n c) L := by
  obtain ⟨e, h⟩ := h
  have := Sl.of_cells (n := n) (m := m) (off := 0) (c := c) h (by omega)
  rwa [List.drop_zero, List.take_of_length_le (by omega)] at this
end Obj
theorem new_obj {s : St} (hs : Ok s) {L : List Value} {n e : Nat} (hn : L.length = n) : ∃ s1, (s.new fun v => .cells (PT.ofList L) [] n e false false v) = s1 ∧ Keeps [] s s1 ∧ Obj s1 s.next L ∧ s1.next = s.next + 2 := by
  subst hn
  exact ⟨_, rfl, (Keeps.refl hs).new (.inr (Nat.le_refl _)), ⟨_, Cells.of_new⟩, rfl⟩
theorem Obj.loadN {s : St} {b i k : Nat} {L : List Value} (h : Obj s b L) (hi : i + k ≤ L.length) : loadN s.look ⟨b, i, none⟩ k = some ((L.drop i).take k) := let ⟨_, h⟩ := h; h.loadN hi
theorem Obj.storeAll {s : St} {b : Nat} {L vs : List Value} (h : Obj s b L) (hs : Ok s) (hi : vs.length = L.length) (h1 : vs.all one1 = true) : ∃ s', storeN s ⟨b, 0, none⟩ vs = some s' ∧ Obj s' b vs ∧ Keeps [b] s s' := by
  obtain ⟨e, h⟩ := h
  obtain ⟨s', h1, h2, h3⟩ := h.store hs (i := 0) (vs := vs) (by omega) h1
  have : splice L 0 vs = vs := by
    unfold splice
    rw [List.take_zero, List.nil_append, Nat.zero_add, hi, List.drop_length, List.append_nil]
  rw [this] at h2
  exact ⟨s', h1, ⟨e, h2⟩, h3⟩
theorem tmod_wrap {x : Int} (h : -9223372036854775808 ≤ x ∧ x ≤ 9223372036854775807) (k : Int) (hk : 0 < k) : IntKind.i64.wrap (x.tdiv k) = x.tdiv k := by
  rcases Int.lt_or_le x 0 with h0 | h0
  · have h1 := Int.neg_tdiv (a := -x) (b := k)
    rw [Int.neg_neg] at h1
    have h2 : 0 ≤ (-x).tdiv k := Int.tdiv_nonneg (by omega) (by omega)
    have h3 : (-x).tdiv k ≤ -x := Int.tdiv_le_self _ (by omega)
    exact wrapI (by omega) (by omega)
  · have h2 : 0 ≤ x.tdiv k := Int.tdiv_nonneg h0 (by omega)
    have h3 : x.tdiv k ≤ x := Int.tdiv_le_self _ h0
    exact wrapI (by omega) (by omega)
/-- 'append(x, y...)' for an x that is ours. -/
theorem append_buf {X : Env} {s : St} {t e N B n c k : Nat} {z x : Value} {a : Option Addr} {L new : List Value} (hd : ((X.ty t).map fun i => i.desc) = some (.slice e)) (he : ((X.ty e).map fun i => (i.bytes, i.size, i.zero)) = some (B, N, some z)) (hz : z.cells.size = N)
    (hs : Ok s) (hN : 0 < N) (hb : Buf s e N (.slice a n c) L) (hx : lenA x = some k) (hf : firstA s.look N k x = some new) (hl : new.length = k * N) (h1 : new.all one1 = true) (hm : n + k < 1000000000) (hB : B ≤ 1000) :
    ∃ v s', appendA X s #[t, t] [.slice a n c, x] = some (v, s') ∧ Buf s' e N v (L ++ new) ∧ Keeps (nameOf (.slice a n c)) s s' ∧ (∀ b ∈ nameOf v, b ∈ nameOf (.slice a n c) ∨ s.next ≤ b) ∧ (∃ a' c', v = .slice a' (n + k) c') := by
  obtain ⟨v, s', h2, h3⟩ := hb.append hs hN hl h1
  refine ⟨v, s', ?_, h3⟩
  cases hi : X.ty t with
  | none => rw [hi] at hd; cases hd
  | some i =>
    cases hj : X.ty e with
    | none => rw [hj] at he; cases he
    | some j =>
      rw [hi] at hd
      rw [hj] at he
      obtain ⟨d, sz, bs, zz, ag, ms, cm⟩ := i
      obtain ⟨d', sz', bs', zz', ag', ms', cm'⟩ := j
      simp only [Option.map_some, Option.some.injEq, Prod.mk.injEq] at hd he
      subst hd
      obtain ⟨rfl, rfl, rfl⟩ := he
      simp only [appendA, hi, hj, hx, hf]
      have hmul : (2 * (n + k) + 1000) * bs' ≤ 2 ^ 47 := by
        have : (2 * (n + k) + 1000) * bs' ≤ (2 * (n + k) + 1000) * 1000 := Nat.mul_le_mul_left _ hB
        omega
      rw [if_pos ⟨hl, rfl, hz, by omega, hmul, h1⟩]
      exact h2
theorem first_one {H : Look} {b N : Nat} {new : List Value} {c : Nat} (hN : 0 < N) (h : loadN H ⟨b, 0, none⟩ N = some new) : firstA H N 1 (.slice (some ⟨b, 0, none⟩) 1 c) = some new := by
  simp only [firstA]
  rw [if_neg (by omega), Nat.one_mul]
  exact h
/-- The record of a loop over a function, between two rounds. -/
def LoopAt (s : St) (l : Nat) (a : ACt) (ps : Array Tmp) (sa bd : Code) : Prop := ∃ ver, s.heap.get l = some (.loop .ready none a.tmps a.nt ps sa bd ver)
theorem LoopAt.keep {s s' : St} {l : Nat} {a : ACt} {ps : Array Tmp} {sa bd : Code} {F : List Nat} (h : LoopAt s l a ps sa bd) (k : Keeps F s s') (hl : l ∉ F) : LoopAt s' l a ps sa bd := by
  obtain ⟨v, h⟩ := h
  exact ⟨v, k.old _ _ h hl⟩
/-! ### Strings -/
theorem lenS (H : Look) (S : List UInt8) : lenOfA X H 9 (str S) = some (int (S.length : Int)) := by kernel_rfl
theorem bytes_get (S : List UInt8) (n : Nat) : (⟨⟨S⟩⟩ : ByteArray)[n]? = S[n]? := by
  by_cases h : n < S.length
  · rw [List.getElem?_eq_getElem h]
    exact getElem?_pos (⟨⟨S⟩⟩ : ByteArray) n h
  · rw [List.getElem?_eq_none (by omega)]
    exact getElem?_neg (⟨⟨S⟩⟩ : ByteArray) n h
theorem index_str {S : List UInt8} {n : Nat} {x : UInt8} (h : S[n]? = some x) : indexA X 9 (str S) (int (n : Int)) = some (u8v x.toNat) := by
  have h1 : indexA X 9 (.string ⟨⟨S⟩⟩) (.int .i64 (n : Int)) = (if (0 : Int) ≤ (n : Int) then match (⟨⟨S⟩⟩ : ByteArray)[(n : Int).toNat]? with
      | some b => some (.int .u8 b.toNat)
      | none => none
    else none) := by kernel_rfl
  unfold str
  rw [h1, if_pos (Int.natCast_nonneg n), Int.toNat_natCast, bytes_get, h]
theorem extract_str (S : List UInt8) (l h : Nat) : (⟨⟨S⟩⟩ : ByteArray).extract l h = ⟨⟨(S.take h).drop l⟩⟩ := by
  apply ByteArray.ext
  rw [ByteArray.data_extract]
  simp [List.drop_take, List.extract_eq_take_drop]
theorem slice_str {H : Look} {S : List UInt8} {l h : Nat} (hlh : l ≤ h) (hh : h ≤ S.length) : sliceA X H 9 (str S) (some (int (l : Int))) (some (int (h : Int))) none = some (str ((S.take h).drop l)) := by
  have h1 : sliceA X H 9 (.string ⟨⟨S⟩⟩) (some (.int .i64 (l : Int))) (some (.int .i64 (h : Int))) none = (match bounds2 (⟨⟨S⟩⟩ : ByteArray).size (⟨⟨S⟩⟩ : ByteArray).size (some (l : Int)) (some (h : Int)) with
      | some (l, h) => if l ≤ h then some (.string ((⟨⟨S⟩⟩ : ByteArray).extract l h)) else none
      | none => none) := by kernel_rfl
  unfold str
  have hb : bounds2 (⟨⟨S⟩⟩ : ByteArray).size (⟨⟨S⟩⟩ : ByteArray).size (some (l : Int)) (some (h : Int)) = some (l, h) := bounds2_nat (.inr rfl) (.inr rfl) hlh hh
  rw [h1, hb]
  simp only [if_pos hlh, extract_str]
theorem slice_to {H : Look} {S : List UInt8} {h : Nat} (hh : h ≤ S.length) : sliceA X H 9 (str S) none (some (int (h : Int))) none = some (str (S.take h)) := by
  have h1 : sliceA X H 9 (.string ⟨⟨S⟩⟩) none (some (.int .i64 (h : Int))) none = (match bounds2 (⟨⟨S⟩⟩ : ByteArray).size (⟨⟨S⟩⟩ : ByteArray).size none (some (h : Int)) with
      | some (l, h) => if l ≤ h then some (.string ((⟨⟨S⟩⟩ : ByteArray).extract l h)) else none
      | none => none) := by kernel_rfl
  unfold str
  have hb : bounds2 (⟨⟨S⟩⟩ : ByteArray).size (⟨⟨S⟩⟩ : ByteArray).size none (some (h : Int)) = some (0, h) := bounds2_nat (.inl ⟨rfl, rfl⟩) (.inr rfl) (Nat.zero_le _) hh
  rw [h1, hb]
  simp only [if_pos (Nat.zero_le h), extract_str, List.drop_zero]
theorem slice_from {H : Look} {S : List UInt8} {l : Nat} (hl : l ≤ S.length) : sliceA X H 9 (str S) (some (int (l : Int))) none none = some (str (S.drop l)) := by
  have h1 : sliceA X H 9 (.string ⟨⟨S⟩⟩) (some (.int .i64 (l : Int))) none none = (match bounds2 (⟨⟨S⟩⟩ : ByteArray).size (⟨⟨S⟩⟩ : ByteArray).size (some (l : Int)) none with
      | some (l, h) => if l ≤ h then some (.string ((⟨⟨S⟩⟩ : ByteArray).extract l h)) else none
      | none => none) := by kernel_rfl
  unfold str
  have hb : bounds2 (⟨⟨S⟩⟩ : ByteArray).size (⟨⟨S⟩⟩ : ByteArray).size (some (l : Int)) none = some (l, S.length) := bounds2_nat (.inr rfl) (.inl ⟨rfl, rfl⟩) hl (Nat.le_refl _)
  rw [h1, hb]
  simp only [if_pos hl, extract_str, List.take_length]
theorem eq_str (H : Look) (t : TypeId) (a b : List UInt8) : binop X H .eql t (str a) (str b) = some (.bool (a == b)) := by
  show some (Value.bool (ByteArray.toList ⟨⟨a⟩⟩ == ByteArray.toList ⟨⟨b⟩⟩)) = _
  rw [ByteArray.toList_eq, ByteArray.toList_eq]
theorem ne_str (H : Look) (t : TypeId) (a b : List UInt8) : binop X H .neq t (str a) (str b) = some (.bool (!(a == b))) := by
  show some (Value.bool (!(ByteArray.toList ⟨⟨a⟩⟩ == ByteArray.toList ⟨⟨b⟩⟩))) = _
  rw [ByteArray.toList_eq, ByteArray.toList_eq]
theorem cat_str {H : Look} {t : TypeId} {a b : List UInt8} (h : a.length + b.length ≤ 9223372036854775807) : binop X H .add t (str a) (str b) = some (str (a ++ b)) := str_cat X H t a b h
theorem bn_s (x : List UInt8) (y : Value) : bothNil (str x) y = false := rfl
theorem cells_s (x : List UInt8) : (str x).cells = #[str x] := rfl
theorem str_one (x : List UInt8) : one1 (str x) = true := rfl
theorem strs_one (L : List (List UInt8)) : (L.map str).all one1 = true := by
  rw [List.all_eq_true]
  intro x hx
  obtain ⟨y, _, rfl⟩ := List.mem_map.1 hx
  rfl
/-- A slice of strings that can be read. -/
abbrev Strs (s : St) (v : Value) (L : List (List UInt8)) : Prop := Sl s 1 v (L.map str)
theorem Strs.len {s : St} {a : Option Addr} {n c : Nat} {L : List (List UInt8)} (h : Strs s (.slice a n c) L) : L.length = n := by
  have := Sl.len h
  rw [List.length_map] at this; omega
theorem Strs.get {s : St} {b off n c : Nat} {L : List (List UInt8)} (h : Strs s (.slice (some ⟨b, off, none⟩) n c) L) {i : Nat} {x : List UInt8} (hx : L[i]? = some x) : load1 s.look ⟨b, off + i, none⟩ = some (str x) := by
  refine Sl.load h ?_
  rw [List.getElem?_map, hx]; rfl
/-! ### Loops over functions -/
/-- The record of a loop over a function of which a round has returned. -/
def DoneAt (s : St) (l : Nat) : Prop := ∃ t nt ps sa bd ver, s.heap.get l = some (.loop .done (some .ret) t nt ps sa bd ver)
theorem okC_rf2 {q : Bool} {X : Env} {K : Orc} {r : Option Nat} {g : Operand} {ps : Array Tmp} {sa bd : Code} {a : ACt} {s : St} {Φ : AExit → ACt → St → Prop} {f : FuncId} {first captured : Array Value} (hg : a.eval g = .func (.func f) first captured) (hlive : liveRound r s = true)
    (h : okF q X K f (first.toList ++ [.func (.yield s.next) #[] #[]] ++ captured.toList) (s.new fun v => .loop .ready none a.tmps a.nt ps sa bd v) fun _ s' => ∃ st p t nt ps' sa' bd' ver, s'.heap.get s.next = some (.loop st p t nt ps' sa' bd' ver) ∧ st ≠ .busy ∧
      ((p = none ∧ Φ .normal a (s'.put s.next fun v => .loop .exhausted p t nt ps' sa' bd' v)) ∨ (p = some .ret ∧ Φ .ret a (s'.put s.next fun v => .loop .exhausted p t nt ps' sa' bd' v)))) : okC q X K r (.rangeFunc g ps sa bd) a s Φ := by
  obtain ⟨n, hn⟩ := h
  refine ⟨n + 1, ?_⟩
  rw [codeO, hg]
  simp only [hlive, if_true]
  rw [Res.AllQ_bind]
  refine hn.mono fun p hq => ?_
  obtain ⟨v, s'⟩ := p
  obtain ⟨st, p, t, nt, ps', sa', bd', ver, h1, h2, h3⟩ := hq
  simp only at h1 ⊢
  rw [h1]
  simp only
  rw [if_neg h2]
  rcases h3 with ⟨rfl, h3⟩ | ⟨rfl, h3⟩
  · exact h3
  · exact h3
theorem okR_of2 {q : Bool} {X : Env} {K : Orc} {l : Nat} {args : List Value} {s : St} {Φ : Value → St → Prop} {pend : Option Code} {t : PT Value} {nt : Nat} {ps : Array Tmp} {sa bd : Code} {ver : Nat} (hl : s.heap.get l = some (.loop .ready pend t nt ps sa bd ver)) (hn : args.length = ps.size)
    (h : okC q X K (some l) sa { tmps := putArgs t (ps.toList.zip args), nt := nt } s fun e a s => e = .normal ∧ ∃ pend t nt ps sa bd' ver, s.heap.get l = some (.loop .ready pend t nt ps sa bd' ver) ∧
      okC q X K (some l) bd a (s.put l fun v => .loop .busy pend t nt ps sa bd' v) fun e _ s => ∃ st pend t nt ps sa bd ver, s.heap.get l = some (.loop st pend t nt ps sa bd ver) ∧
        ((e = .normal ∧ Φ (.bool true) (s.put l fun v => .loop .ready none t nt ps sa bd v)) ∨ (e = .ret ∧ Φ (.bool false) (s.put l fun v => .loop .done (some .ret) t nt ps sa bd v)))) :
    okR q X K l args s Φ := by
  obtain ⟨n, hn'⟩ := h
  obtain ⟨m, hm⟩ := Res.AllQ_uniform (Q := fun m (p : AExit × ACt × St) => p.1 = .normal ∧ ∃ pend t nt ps sa bd' ver, p.2.2.heap.get l = some (.loop .ready pend t nt ps sa bd' ver) ∧
      (codeO X K m (some l) bd p.2.1 (p.2.2.put l fun v => .loop .busy pend t nt ps sa bd' v)).AllQ q fun p => ∃ st pend t nt ps sa bd ver, p.2.2.heap.get l = some (.loop st pend t nt ps sa bd ver) ∧
        ((p.1 = .normal ∧ Φ (.bool true) (p.2.2.put l fun v => .loop .ready none t nt ps sa bd v)) ∨ (p.1 = .ret ∧ Φ (.bool false) (p.2.2.put l fun v => .loop .done (some .ret) t nt ps sa bd v))))
    (fun m p hp => by
      obtain ⟨h1, a1, a2, a3, a4, a5, a6, a7, h2, h3⟩ := hp
      exact ⟨h1, a1, a2, a3, a4, a5, a6, a7, h2, code_up (Nat.le_succ m) h3⟩)
    (hn'.mono fun p hp => by
      obtain ⟨h1, a1, a2, a3, a4, a5, a6, a7, h2, k, h3⟩ := hp
      exact ⟨k, h1, a1, a2, a3, a4, a5, a6, a7, h2, h3⟩)
  refine ⟨max n m + 1, ?_⟩
  rw [roundO, hl]
  simp only
  rw [if_pos hn, Res.AllQ_bind]
  refine (code_up (Nat.le_max_left n m) hm).mono fun p hp => ?_
  obtain ⟨e, a, s'⟩ := p
  obtain ⟨h1, a1, a2, a3, a4, a5, a6, a7, h2, h3⟩ := hp
  simp only at h1 h2 h3
  subst h1
  simp only [h2]
  rw [Res.AllQ_bind]
  refine (code_up (Nat.le_max_right n m) h3).mono fun p hp => ?_
  obtain ⟨e, a, s''⟩ := p
  obtain ⟨b1, b2, b3, b4, b5, b6, b7, b8, h4, h5⟩ := hp
  simp only at h4 h5
  rcases h5 with ⟨h1, h5⟩ | ⟨h1, h5⟩
  · subst h1
    simp only [h4]
    exact h5
  · subst h1
    simp only [h4]
    exact h5
/-- A loop over a function that has an invariant LA between its rounds, and DA once one has returned. -/
theorem okC_rfJ {q : Bool} {X : Env} {K : Orc} {r : Option Nat} {g : Operand} {ps : Array Tmp} {sa bd : Code} {a : ACt} {s : St} {Φ : AExit → ACt → St → Prop} {f : FuncId} {first captured : Array Value} (hs : Ok s) (hg : a.eval g = .func (.func f) first captured) (hlive : liveRound r s = true)
    (h : ∀ (LA DA : St → Prop) s1, (∀ F s' s'', LA s' → Keeps F s' s'' → s.next ∉ F → LA s'') → (∀ F s' s'', DA s' → Keeps F s' s'' → s.next ∉ F → DA s'') → Keeps [] s s1 → s.next < s1.next → LA s1 →
      (∀ q' s' args Ψ, Ok s' → LA s' → args.length = ps.size →
        okC q' X K (some s.next) sa { tmps := putArgs a.tmps (ps.toList.zip args), nt := a.nt } s' (fun e a1 s2 => e = .normal ∧ ∃ F, Keeps F s' s2 ∧ s.next ∉ F ∧
          ∀ s3, Keeps [s.next] s2 s3 → okC q' X K (some s.next) bd a1 s3 (fun e _ s4 => (∃ F, Keeps F s3 s4 ∧ s.next ∉ F) ∧ ((e = .normal ∧ ∀ s5, Keeps [s.next] s4 s5 → LA s5 → Ψ (.bool true) s5) ∨ (e = .ret ∧ ∀ s5, Keeps [s.next] s4 s5 → DA s5 → Ψ (.bool false) s5)))) →
        okCallV q' X K s' (.func (.yield s.next) #[] #[]) args Ψ) →
      okF q X K f (first.toList ++ [.func (.yield s.next) #[] #[]] ++ captured.toList) s1 fun _ s' => Ok s' ∧ ((LA s' ∧ ∀ s'', Keeps [s.next] s' s'' → Φ .normal a s'') ∨ (DA s' ∧ ∀ s'', Keeps [s.next] s' s'' → Φ .ret a s''))) : okC q X K r (.rangeFunc g ps sa bd) a s Φ := by
  refine okC_rf2 hg hlive ?_
  have k1 : Keeps [] s (s.new fun v => .loop .ready none a.tmps a.nt ps sa bd v) := (Keeps.refl hs).new (.inr (Nat.le_refl _))
  have hl : LoopAt (s.new fun v => .loop .ready none a.tmps a.nt ps sa bd v) s.next a ps sa bd := ⟨s.clk, by simp only [St.new, St.put, PT.get_set, if_true]⟩
  have hx := h (fun s' => LoopAt s' s.next a ps sa bd) (fun s' => DoneAt s' s.next) _ (fun F s' s'' h k hF => h.keep k hF) (fun F s' s'' h k hF => let ⟨a1, a2, a3, a4, a5, a6, h⟩ := h; ⟨a1, a2, a3, a4, a5, a6, k.old _ _ h hF⟩) k1 (by show s.next < s.next + 2; omega) hl ?_
  · refine hx.mono fun v s' h => ?_
    obtain ⟨hok, h | h⟩ := h
    · obtain ⟨⟨ver, h1⟩, h2⟩ := h
      exact ⟨_, _, _, _, _, _, _, _, h1, by simp, .inl ⟨rfl, h2 _ (.put_at hok h1 (.inr (Nat.le_refl _)) (List.mem_singleton.2 rfl))⟩⟩
    · obtain ⟨⟨t, nt, ps', sa', bd', ver, h1⟩, h2⟩ := h
      exact ⟨_, _, _, _, _, _, _, _, h1, by simp, .inr ⟨rfl, h2 _ (.put_at hok h1 (.inr (Nat.le_refl _)) (List.mem_singleton.2 rfl))⟩⟩
  · rintro q' s' args Ψ hs' ⟨ver, hl'⟩ hn hc
    rw [cv_yield]
    refine okR_of2 hl' (by simpa using hn) ?_
    refine hc.mono ?_
    rintro e a1 s2 ⟨rfl, F, k2, hF, hb⟩
    have h2 := k2.old _ _ hl' hF
    refine ⟨rfl, _, _, _, _, _, _, _, h2, ?_⟩
    refine (hb _ (.put_at k2.ok h2 (.inr (Nat.le_refl _)) (List.mem_singleton.2 rfl))).mono ?_
    rintro e a4 s4 ⟨⟨G, k4, hG⟩, h5⟩
    have h4 := k4.old s.next _ (by simp only [St.put, PT.get_set, if_true]; rfl) hG
    refine ⟨_, _, _, _, _, _, _, _, h4, ?_⟩
    rcases h5 with ⟨rfl, h5⟩ | ⟨rfl, h5⟩
    · exact .inl ⟨rfl, h5 _ (.put_at k4.ok h4 (.inr (Nat.le_refl _)) (List.mem_singleton.2 rfl)) ⟨s4.clk, by simp only [St.put, PT.get_set, if_true]⟩⟩
    · exact .inr ⟨rfl, h5 _ (.put_at k4.ok h4 (.inr (Nat.le_refl _)) (List.mem_singleton.2 rfl)) ⟨_, _, _, _, _, s4.clk, by simp only [St.put, PT.get_set, if_true]; rfl⟩⟩
end Go.Dust
end
section
/- The reference's Words. -/
namespace Go.Dust
open Go.Proofs
set_option maxRecDepth 100000
set_option maxHeartbeats 4000000
set_option linter.unusedSimpArgs false
set_option linter.unusedVariables false
theorem bin8 (H : Look) (t : TypeId) (x y : Int) : binop X H .eql t (.int .u8 x) (.int .u8 y) = some (.bool (x == y)) := rfl
theorem bs_str (nm : Nat) (x : List UInt8) : bsA X nm 45 1 [(0, str x)] = some (.slice (some ⟨nm, 0, none⟩) 1 1, fun v => .cells (PT.ofList [str x]) [] 1 9 false false v) := bs_45_1_0 nm ⟨⟨x⟩⟩
/-- A string behind a slice of strings. -/
theorem push_str {s : St} (hs : Ok s) {a : Option Addr} {n c : Nat} {L : List (List UInt8)} (B : Buf s 9 1 (.slice a n c) (L.map str)) (x : List UInt8) {b : Nat} (O : Obj s b [str x]) (hn : n < 1000000) :
    ∃ a' c' s', appendA X s #[45, 45] [.slice a n c, .slice (some ⟨b, 0, none⟩) 1 1] = some (.slice a' (n + 1) c', s') ∧ Buf s' 9 1 (.slice a' (n + 1) c') ((L ++ [x]).map str) ∧ Keeps (nameOf (.slice a n c)) s s' ∧ (∀ y ∈ nameOf (.slice a' (n + 1) c'), y ∈ nameOf (.slice a n c) ∨ s.next ≤ y) := by
  obtain ⟨v, s', e, b1, k1, m1, a', c', rfl⟩ := append_buf (X := X) (t := 45) (e := 9) (N := 1) (B := 16) (z := str []) (x := .slice (some ⟨b, 0, none⟩) 1 1) (k := 1) (new := [str x]) (by kernel_rfl) (by kernel_rfl) rfl hs (by omega) B rfl (first_one (by omega) (O.loadN (i := 0) (k := 1) (Nat.le_refl _))) rfl rfl (by omega) (by omega)
  exact ⟨a', c', s', e, by rw [List.map_append]; exact b1, k1, m1⟩
section
variable {q : Bool} {s : St} {Φ : Value → St → Prop}
theorem tf_30 : type_of% (And.intro @RC <| And.intro @RO <| And.intro @RD <| And.intro @RV <| And.intro @RB <| And.intro @RG <| And.intro @bs_45_0_ <| @bs_45_1_0) := And.intro @RC <| And.intro @RO <| And.intro @RD <| And.intro @RV <| And.intro @RB <| And.intro @RG <| And.intro @bs_45_0_ <| @bs_45_1_0
theorem words_ok {S : List UInt8} {y : UInt8} (hs : Ok s) (hS : S.length ≤ 100000) (hΦ : ∀ a c s', Strs s' (.slice a (cut y S).length c) (cut y S) → Keeps [] s s' → (∀ b ∈ nameOf (.slice a (cut y S).length c), s.next ≤ b) → Φ (.slice a (cut y S).length c) s') : okF q X KT 30 [str S, u8v y.toNat] s Φ := by
  refine okF_body rfl fn_30 rfl (rs := [.tmp 4]) rfl (N := 36) rfl rfl ?_
  refine okC_seq_g fun Ψ0 hΨ0 hΨ0' => ?_
  simp only [tf_30, ↓reduceIte, Nat.reduceEqDiff, reduceCtorEq, Int.reduceEq, Nat.reduceMul, Nat.reduceAdd, Nat.reduceBEq, Int.reduceBEq, noteOk, List.mem_cons, List.not_mem_nil, true_or, or_true, or_false, true_and, and_true, Nat.reduceLT, Nat.reduceLeDiff, List.contains_cons, List.contains_nil]
  refine hΨ0 _ _ ?_
  refine okC_seq_g fun Ψ1 hΨ1 hΨ1' => ?_
  obtain ⟨s1, e1, k1, c1, n1⟩ := new_obj hs (L := []) (n := 0) (e := 9) rfl
  simp only [tf_30, ↓reduceIte, Nat.reduceEqDiff, reduceCtorEq, Int.reduceEq, Nat.reduceMul, Nat.reduceAdd, Nat.reduceBEq, Int.reduceBEq, noteOk, List.mem_cons, List.not_mem_nil, true_or, or_true, or_false, true_and, and_true, Nat.reduceLT, Nat.reduceLeDiff, List.contains_cons, List.contains_nil]
  rw [e1]
  try simp only [tf_30, ↓reduceIte, Nat.reduceEqDiff, reduceCtorEq, Int.reduceEq, Nat.reduceMul, Nat.reduceAdd, Nat.reduceBEq, Int.reduceBEq, noteOk, List.mem_cons, List.not_mem_nil, true_or, or_true, or_false, true_and, and_true, Nat.reduceLT, Nat.reduceLeDiff, List.contains_cons, List.contains_nil]
  refine hΨ1 _ _ ?_
  refine okC_seq_g fun Ψ2 hΨ2 hΨ2' => ?_
  simp only [tf_30, ↓reduceIte, Nat.reduceEqDiff, reduceCtorEq, Int.reduceEq, Nat.reduceMul, Nat.reduceAdd, Nat.reduceBEq, Int.reduceBEq, noteOk, List.mem_cons, List.not_mem_nil, true_or, or_true, or_false, true_and, and_true, Nat.reduceLT, Nat.reduceLeDiff, List.contains_cons, List.contains_nil]
  refine hΨ2 _ _ ?_
  refine okC_seq_g fun Ψ3 hΨ3 hΨ3' => ?_
  refine okC_seq_g fun Ψ4 hΨ4 hΨ4' => ?_
  simp only [tf_30, ↓reduceIte, Nat.reduceEqDiff, reduceCtorEq, Int.reduceEq, Nat.reduceMul, Nat.reduceAdd, Nat.reduceBEq, Int.reduceBEq, noteOk, List.mem_cons, List.not_mem_nil, true_or, or_true, or_false, true_and, and_true, Nat.reduceLT, Nat.reduceLeDiff, List.contains_cons, List.contains_nil]
  refine hΨ4 _ _ ?_
  refine okC_block_g fun Ψ5 hΨ5 hΨ5e hΨ5' => ?_
  refine okC_cnt (n := S.length + 1) 9 [5, 6, 7] [5, 6] (fun j vs s' => ∃ (a : Option Addr) (c last : Nat) (L : List (List UInt8)), vs = [.slice a L.length c, int last] ∧ last ≤ j ∧ Buf s' 9 1 (.slice a L.length c) (L.map str) ∧ (∀ b ∈ nameOf (.slice a L.length c), s.next ≤ b) ∧ Keeps [] s s' ∧ L.length ≤ j ∧
    (j ≤ S.length → L ++ cutFrom y ((S.take j).drop last) (S.drop j) = cut y S) ∧ (j = S.length + 1 → L = cut y S)) rfl (by omega) ?_ ?_ ?_ ?_ ?_
  · simp only [tf_30, ↓reduceIte, Nat.reduceEqDiff, reduceCtorEq, Int.reduceEq, Nat.reduceMul, Nat.reduceAdd, Nat.reduceBEq, Int.reduceBEq, noteOk, List.mem_cons, List.not_mem_nil, true_or, or_true, or_false, true_and, and_true, Nat.reduceLT, Nat.reduceLeDiff, List.contains_cons, List.contains_nil]
  · refine ⟨some ⟨s.next, 0, none⟩, 0, 0, [], ?_, Nat.le_refl _, ?_, ?_, k1, Nat.le_refl _, fun _ => rfl, fun h => by omega⟩
    · simp only [tf_30, ↓reduceIte, Nat.reduceEqDiff, reduceCtorEq, Int.reduceEq, Nat.reduceMul, Nat.reduceAdd, Nat.reduceBEq, Int.reduceBEq, noteOk, List.mem_cons, List.not_mem_nil, true_or, or_true, or_false, true_and, and_true, Nat.reduceLT, Nat.reduceLeDiff, List.contains_cons, List.contains_nil]
      rfl
    · obtain ⟨e', c1⟩ := c1
      rw [← e1]
      exact .own Cells.of_new (by simp) (Nat.le_refl _) rfl fun i hi => absurd hi (Nat.not_lt_zero _)
    · intro b hb
      rw [List.mem_singleton.1 (show b ∈ [s.next] from hb)]
      exact Nat.le_refl _
  · rintro j a' s' hj hA hc ⟨a, c, last, L, h4, hr⟩ Ψ w
    simp only [tf_30, ↓reduceIte, Nat.reduceEqDiff, reduceCtorEq, Int.reduceEq, Nat.reduceMul, Nat.reduceAdd, Nat.reduceBEq, Int.reduceBEq, noteOk, List.mem_cons, List.not_mem_nil, true_or, or_true, or_false, true_and, and_true, Nat.reduceLT, Nat.reduceLeDiff, List.contains_cons, List.contains_nil, hA.get, hc, lenS]
    refine w _ _ ?_ ?_ ?_ ⟨a, c, last, L, ?_, hr⟩
    · simp only [tf_30, ↓reduceIte, Nat.reduceEqDiff, reduceCtorEq, Int.reduceEq, Nat.reduceMul, Nat.reduceAdd, Nat.reduceBEq, Int.reduceBEq, noteOk, List.mem_cons, List.not_mem_nil, true_or, or_true, or_false, true_and, and_true, Nat.reduceLT, Nat.reduceLeDiff, List.contains_cons, List.contains_nil]
      rw [show decide ((j : Int) ≤ (S.length : Int)) = decide (j < S.length + 1) from decide_eq_decide.2 (by omega)]
    · simp only [tf_30, ↓reduceIte, Nat.reduceEqDiff, reduceCtorEq, Int.reduceEq, Nat.reduceMul, Nat.reduceAdd, Nat.reduceBEq, Int.reduceBEq, noteOk, List.mem_cons, List.not_mem_nil, true_or, or_true, or_false, true_and, and_true, Nat.reduceLT, Nat.reduceLeDiff, List.contains_cons, List.contains_nil, agr_put, hA]
    · simp only [tf_30, ↓reduceIte, Nat.reduceEqDiff, reduceCtorEq, Int.reduceEq, Nat.reduceMul, Nat.reduceAdd, Nat.reduceBEq, Int.reduceBEq, noteOk, List.mem_cons, List.not_mem_nil, true_or, or_true, or_false, true_and, and_true, Nat.reduceLT, Nat.reduceLeDiff, List.contains_cons, List.contains_nil, hc]
    · simp only [tf_30, ↓reduceIte, Nat.reduceEqDiff, reduceCtorEq, Int.reduceEq, Nat.reduceMul, Nat.reduceAdd, Nat.reduceBEq, Int.reduceBEq, noteOk, List.mem_cons, List.not_mem_nil, true_or, or_true, or_false, true_and, and_true, Nat.reduceLT, Nat.reduceLeDiff, List.contains_cons, List.contains_nil]
      exact h4
  · rintro j a' s' hj hA hc ⟨a, c, last, L, h4, hlast, B, hnm, hk, hlen, hc1, hc2⟩ Ψ w w3
    simp only [List.map_cons, List.map_nil, List.cons.injEq, and_true] at h4
    obtain ⟨h5, h6⟩ := h4
    have hjS : j ≤ S.length := by omega
    have hcut := hc1 hjS
    have hsl : ∀ H, sliceA X H 9 (str S) (some (int (last : Int))) (some (int (j : Int))) none = some (str ((S.take j).drop last)) := fun H => slice_str hlast hjS
    obtain ⟨s2, e2, k2, c2, n2⟩ := new_obj hk.ok (L := [str ((S.take j).drop last)]) (n := 1) (e := 9) rfl
    obtain ⟨a3, c3, s3, e3, B3, k3, m3⟩ := push_str k2.ok (B.keep k2 (by simp)) ((S.take j).drop last) c2 (by omega)
    have hw : IntKind.i64.wrap ((j : Int) + 1) = ((j + 1 : Nat) : Int) := inc_wrap (n := S.length + 1) (by omega) (by omega)
    have hnx := hk.next
    have n2' := k2.next
    have hk3 : Keeps [] s s3 := (hk.trans k2).step k3 fun b hb => .inr (hs.fresh b (hnm b hb))
    have hnm3 : ∀ b ∈ nameOf (.slice a3 (L.length + 1) c3), s.next ≤ b := fun b hb => (m3 b hb).elim (hnm b) fun h => by omega
    have put : ∀ T : List (List UInt8), L ++ [(S.take j).drop last] = T → (j + 1 ≤ S.length → T ++ cutFrom y [] (S.drop (j + 1)) = cut y S) → (j + 1 = S.length + 1 → T = cut y S) → ∃ (a : Option Addr) (c last' : Nat) (L' : List (List UInt8)), [Value.slice a3 (L.length + 1) c3, int ((j + 1 : Nat) : Int)] = [.slice a L'.length c, int last'] ∧ last' ≤ j + 1 ∧ Buf s3 9 1 (.slice a L'.length c) (L'.map str) ∧ (∀ b ∈ nameOf (.slice a L'.length c), s.next ≤ b) ∧ Keeps [] s s3 ∧ L'.length ≤ j + 1 ∧
        (j + 1 ≤ S.length → L' ++ cutFrom y ((S.take (j + 1)).drop last') (S.drop (j + 1)) = cut y S) ∧ (j + 1 = S.length + 1 → L' = cut y S) := by
      intro T hT h1 h2
      have hl : T.length = L.length + 1 := by rw [← hT]; simp
      refine ⟨a3, c3, j + 1, T, by rw [hl], Nat.le_refl _, by rw [hl, ← hT]; exact B3, by rw [hl]; exact hnm3, hk3, by omega, fun h => ?_, h2⟩
      rw [show (S.take (j + 1)).drop (j + 1) = [] from List.drop_eq_nil_of_le (by rw [List.length_take]; omega)]
      exact h1 h
    refine okC_seq_g fun Ψ6 hΨ6 hΨ6' => ?_
    refine okC_region_g [(4, 19)] (by kernel_rfl) fun O hO ΨR hR => ?_
    have y4 : ∀ a, yieldedA O a 4 = boolOf (a.getT 19) := hO (4, 19) (by simp)
    by_cases hj' : j = S.length
    · have e0 : ((j : Int) == (S.length : Int)) = true := by simp [hj']
      simp only [tf_30, ↓reduceIte, Nat.reduceEqDiff, reduceCtorEq, Int.reduceEq, Nat.reduceMul, Nat.reduceAdd, Nat.reduceBEq, Int.reduceBEq, noteOk, List.mem_cons, List.not_mem_nil, true_or, or_true, or_false, true_and, and_true, Nat.reduceLT, Nat.reduceLeDiff, List.contains_cons, List.contains_nil, hA.get, hc, lenS, e0, y4]
      refine hR _ _ (hΨ6 _ _ ?_)
      simp only [okC_cnd, RV, RG, ↓reduceIte, Nat.reduceEqDiff, reduceCtorEq, Int.reduceEq, Nat.reduceMul, Nat.reduceAdd, Nat.reduceBEq, Int.reduceBEq, noteOk, List.mem_cons, List.not_mem_nil, true_or, or_true, or_false, true_and, and_true, Nat.reduceLT, Nat.reduceLeDiff, List.contains_cons, List.contains_nil]
      refine okC_seq_g fun Ψ7 hΨ7 hΨ7' => ?_
      simp only [tf_30, ↓reduceIte, Nat.reduceEqDiff, reduceCtorEq, Int.reduceEq, Nat.reduceMul, Nat.reduceAdd, Nat.reduceBEq, Int.reduceBEq, noteOk, List.mem_cons, List.not_mem_nil, true_or, or_true, or_false, true_and, and_true, Nat.reduceLT, Nat.reduceLeDiff, List.contains_cons, List.contains_nil, hA.get, hc, h5, h6, hsl, bs_str]
      rw [e2]
      refine o_appx ?_ e3 ?_
      · simp only [tf_30, ↓reduceIte, Nat.reduceEqDiff, reduceCtorEq, Int.reduceEq, Nat.reduceMul, Nat.reduceAdd, Nat.reduceBEq, Int.reduceBEq, noteOk, List.mem_cons, List.not_mem_nil, true_or, or_true, or_false, true_and, and_true, Nat.reduceLT, Nat.reduceLeDiff, List.contains_cons, List.contains_nil, h5]
      simp only [tf_30, ↓reduceIte, Nat.reduceEqDiff, reduceCtorEq, Int.reduceEq, Nat.reduceMul, Nat.reduceAdd, Nat.reduceBEq, Int.reduceBEq, noteOk, List.mem_cons, List.not_mem_nil, true_or, or_true, or_false, true_and, and_true, Nat.reduceLT, Nat.reduceLeDiff, List.contains_cons, List.contains_nil]
      refine hΨ7 _ _ ?_
      simp only [tf_30, ↓reduceIte, Nat.reduceEqDiff, reduceCtorEq, Int.reduceEq, Nat.reduceMul, Nat.reduceAdd, Nat.reduceBEq, Int.reduceBEq, noteOk, List.mem_cons, List.not_mem_nil, true_or, or_true, or_false, true_and, and_true, Nat.reduceLT, Nat.reduceLeDiff, List.contains_cons, List.contains_nil, hc, hw]
      refine (w _ _ ?_ ?_ ?_).1
      · simp only [tf_30, ↓reduceIte, Nat.reduceEqDiff, reduceCtorEq, Int.reduceEq, Nat.reduceMul, Nat.reduceAdd, Nat.reduceBEq, Int.reduceBEq, noteOk, List.mem_cons, List.not_mem_nil, true_or, or_true, or_false, true_and, and_true, Nat.reduceLT, Nat.reduceLeDiff, List.contains_cons, List.contains_nil, agr_put, hA]
      · simp only [tf_30, ↓reduceIte, Nat.reduceEqDiff, reduceCtorEq, Int.reduceEq, Nat.reduceMul, Nat.reduceAdd, Nat.reduceBEq, Int.reduceBEq, noteOk, List.mem_cons, List.not_mem_nil, true_or, or_true, or_false, true_and, and_true, Nat.reduceLT, Nat.reduceLeDiff, List.contains_cons, List.contains_nil, hc]
      · obtain ⟨a4, c4, l4, L4, q1, q2⟩ := put _ rfl (fun h => by omega) fun _ => by
          rw [hj', List.drop_length] at hcut
          rw [← hcut, hj']
          rfl
        refine ⟨a4, c4, l4, L4, ?_, q2⟩
        simp only [tf_30, ↓reduceIte, Nat.reduceEqDiff, reduceCtorEq, Int.reduceEq, Nat.reduceMul, Nat.reduceAdd, Nat.reduceBEq, Int.reduceBEq, noteOk, List.mem_cons, List.not_mem_nil, true_or, or_true, or_false, true_and, and_true, Nat.reduceLT, Nat.reduceLeDiff, List.contains_cons, List.contains_nil]
        exact q1
    · have e0 : ((j : Int) == (S.length : Int)) = false := by simp; omega
      obtain ⟨x, hx⟩ : ∃ x, S[j]? = some x := ⟨_, List.getElem?_eq_getElem (by omega)⟩
      have hix := index_str hx
      have hdrop : S.drop j = x :: S.drop (j + 1) := by
        rw [List.drop_eq_getElem_cons (by omega)]
        rw [List.getElem?_eq_getElem (by omega)] at hx
        rw [Option.some.inj hx]
      rw [hdrop, cutFrom] at hcut
      by_cases hxy : x = y
      · have e1 : ((x.toNat : Int) == (y.toNat : Int)) = true := by simp [hxy]
        rw [if_pos hxy] at hcut
        simp only [tf_30, ↓reduceIte, Nat.reduceEqDiff, reduceCtorEq, Int.reduceEq, Nat.reduceMul, Nat.reduceAdd, Nat.reduceBEq, Int.reduceBEq, noteOk, List.mem_cons, List.not_mem_nil, true_or, or_true, or_false, true_and, and_true, Nat.reduceLT, Nat.reduceLeDiff, List.contains_cons, List.contains_nil, hA.get, hc, lenS, e0, y4, hix, e1, bin8]
        refine hR _ _ (hΨ6 _ _ ?_)
        simp only [okC_cnd, RV, RG, ↓reduceIte, Nat.reduceEqDiff, reduceCtorEq, Int.reduceEq, Nat.reduceMul, Nat.reduceAdd, Nat.reduceBEq, Int.reduceBEq, noteOk, List.mem_cons, List.not_mem_nil, true_or, or_true, or_false, true_and, and_true, Nat.reduceLT, Nat.reduceLeDiff, List.contains_cons, List.contains_nil]
        refine okC_seq_g fun Ψ7 hΨ7 hΨ7' => ?_
        simp only [tf_30, ↓reduceIte, Nat.reduceEqDiff, reduceCtorEq, Int.reduceEq, Nat.reduceMul, Nat.reduceAdd, Nat.reduceBEq, Int.reduceBEq, noteOk, List.mem_cons, List.not_mem_nil, true_or, or_true, or_false, true_and, and_true, Nat.reduceLT, Nat.reduceLeDiff, List.contains_cons, List.contains_nil, hA.get, hc, h5, h6, hsl, bs_str]
        rw [e2]
        refine o_appx ?_ e3 ?_
        · simp only [tf_30, ↓reduceIte, Nat.reduceEqDiff, reduceCtorEq, Int.reduceEq, Nat.reduceMul, Nat.reduceAdd, Nat.reduceBEq, Int.reduceBEq, noteOk, List.mem_cons, List.not_mem_nil, true_or, or_true, or_false, true_and, and_true, Nat.reduceLT, Nat.reduceLeDiff, List.contains_cons, List.contains_nil, h5]
        simp only [tf_30, ↓reduceIte, Nat.reduceEqDiff, reduceCtorEq, Int.reduceEq, Nat.reduceMul, Nat.reduceAdd, Nat.reduceBEq, Int.reduceBEq, noteOk, List.mem_cons, List.not_mem_nil, true_or, or_true, or_false, true_and, and_true, Nat.reduceLT, Nat.reduceLeDiff, List.contains_cons, List.contains_nil]
        refine hΨ7 _ _ ?_
        simp only [tf_30, ↓reduceIte, Nat.reduceEqDiff, reduceCtorEq, Int.reduceEq, Nat.reduceMul, Nat.reduceAdd, Nat.reduceBEq, Int.reduceBEq, noteOk, List.mem_cons, List.not_mem_nil, true_or, or_true, or_false, true_and, and_true, Nat.reduceLT, Nat.reduceLeDiff, List.contains_cons, List.contains_nil, hc, hw]
        refine (w _ _ ?_ ?_ ?_).1
        · simp only [tf_30, ↓reduceIte, Nat.reduceEqDiff, reduceCtorEq, Int.reduceEq, Nat.reduceMul, Nat.reduceAdd, Nat.reduceBEq, Int.reduceBEq, noteOk, List.mem_cons, List.not_mem_nil, true_or, or_true, or_false, true_and, and_true, Nat.reduceLT, Nat.reduceLeDiff, List.contains_cons, List.contains_nil, agr_put, hA]
        · simp only [tf_30, ↓reduceIte, Nat.reduceEqDiff, reduceCtorEq, Int.reduceEq, Nat.reduceMul, Nat.reduceAdd, Nat.reduceBEq, Int.reduceBEq, noteOk, List.mem_cons, List.not_mem_nil, true_or, or_true, or_false, true_and, and_true, Nat.reduceLT, Nat.reduceLeDiff, List.contains_cons, List.contains_nil, hc]
        · obtain ⟨a4, c4, l4, L4, q1, q2⟩ := put _ rfl (fun h => by rw [← hcut]; simp) fun h => by omega
          refine ⟨a4, c4, l4, L4, ?_, q2⟩
          simp only [tf_30, ↓reduceIte, Nat.reduceEqDiff, reduceCtorEq, Int.reduceEq, Nat.reduceMul, Nat.reduceAdd, Nat.reduceBEq, Int.reduceBEq, noteOk, List.mem_cons, List.not_mem_nil, true_or, or_true, or_false, true_and, and_true, Nat.reduceLT, Nat.reduceLeDiff, List.contains_cons, List.contains_nil]
          exact q1
      · have e1 : ((x.toNat : Int) == (y.toNat : Int)) = false := by
          simp only [beq_eq_false_iff_ne, ne_eq]
          intro h
          exact hxy (UInt8.toNat_inj.1 (by omega))
        rw [if_neg hxy] at hcut
        simp only [tf_30, ↓reduceIte, Nat.reduceEqDiff, reduceCtorEq, Int.reduceEq, Nat.reduceMul, Nat.reduceAdd, Nat.reduceBEq, Int.reduceBEq, noteOk, List.mem_cons, List.not_mem_nil, true_or, or_true, or_false, true_and, and_true, Nat.reduceLT, Nat.reduceLeDiff, List.contains_cons, List.contains_nil, hA.get, hc, lenS, e0, y4, hix, e1, bin8]
        refine hR _ _ (hΨ6 _ _ ?_)
        simp only [tf_30, ↓reduceIte, Nat.reduceEqDiff, reduceCtorEq, Int.reduceEq, Nat.reduceMul, Nat.reduceAdd, Nat.reduceBEq, Int.reduceBEq, noteOk, List.mem_cons, List.not_mem_nil, true_or, or_true, or_false, true_and, and_true, Nat.reduceLT, Nat.reduceLeDiff, List.contains_cons, List.contains_nil]
        refine (w _ _ ?_ ?_ ⟨a, c, last, L, ?_, by omega, B, hnm, hk, by omega, fun h => ?_, fun h => by omega⟩).1
        · simp only [tf_30, ↓reduceIte, Nat.reduceEqDiff, reduceCtorEq, Int.reduceEq, Nat.reduceMul, Nat.reduceAdd, Nat.reduceBEq, Int.reduceBEq, noteOk, List.mem_cons, List.not_mem_nil, true_or, or_true, or_false, true_and, and_true, Nat.reduceLT, Nat.reduceLeDiff, List.contains_cons, List.contains_nil, agr_put, hA]
        · simp only [tf_30, ↓reduceIte, Nat.reduceEqDiff, reduceCtorEq, Int.reduceEq, Nat.reduceMul, Nat.reduceAdd, Nat.reduceBEq, Int.reduceBEq, noteOk, List.mem_cons, List.not_mem_nil, true_or, or_true, or_false, true_and, and_true, Nat.reduceLT, Nat.reduceLeDiff, List.contains_cons, List.contains_nil, hc]
        · simp only [tf_30, ↓reduceIte, Nat.reduceEqDiff, reduceCtorEq, Int.reduceEq, Nat.reduceMul, Nat.reduceAdd, Nat.reduceBEq, Int.reduceBEq, noteOk, List.mem_cons, List.not_mem_nil, true_or, or_true, or_false, true_and, and_true, Nat.reduceLT, Nat.reduceLeDiff, List.contains_cons, List.contains_nil, h5, h6]
        · rw [← hcut]
          congr 2
          have : S.take (j + 1) = S.take j ++ [x] := by rw [List.take_add_one, hx]; rfl
          rw [this, List.drop_append_of_le_length (by rw [List.length_take]; omega)]
  · rintro a' s' hA ⟨a, c, last, L, h4, hlast, B, hnm, hk, hlen, hc1, hc2⟩
    simp only [List.map_cons, List.map_nil, List.cons.injEq, and_true] at h4
    obtain rfl := hc2 rfl
    refine hΨ5e _ _ (hΨ3 _ _ ?_)
    refine okC_seq_g fun Ψ8 hΨ8 hΨ8' => ?_
    simp only [tf_30, ↓reduceIte, Nat.reduceEqDiff, reduceCtorEq, Int.reduceEq, Nat.reduceMul, Nat.reduceAdd, Nat.reduceBEq, Int.reduceBEq, noteOk, List.mem_cons, List.not_mem_nil, true_or, or_true, or_false, true_and, and_true, Nat.reduceLT, Nat.reduceLeDiff, List.contains_cons, List.contains_nil, h4.1]
    refine hΨ8 _ _ ?_
    simp only [tf_30, ↓reduceIte, Nat.reduceEqDiff, reduceCtorEq, Int.reduceEq, Nat.reduceMul, Nat.reduceAdd, Nat.reduceBEq, Int.reduceBEq, noteOk, List.mem_cons, List.not_mem_nil, true_or, or_true, or_false, true_and, and_true, Nat.reduceLT, Nat.reduceLeDiff, List.contains_cons, List.contains_nil]
    exact hΦ _ _ _ B.sl hk hnm
end
end Go.Dust
end
section
/- The reference's names, Decimal, Number. -/
namespace Go.Dust
open Go.Proofs
set_option maxRecDepth 100000
set_option maxHeartbeats 4000000
set_option linter.unusedSimpArgs false
set_option linter.unusedVariables false
theorem td_pos {n : Int} (h : 0 ≤ n) : n.tdiv 10 = n / 10 ∧ n.tmod 10 = n % 10 := ⟨Int.tdiv_eq_ediv_of_nonneg h, Int.tmod_eq_emod_of_nonneg h⟩
theorem td_neg {n : Int} (h : n < 0) : n.tdiv 10 = -((-n) / 10) ∧ n.tmod 10 = -((-n) % 10) := by
  have h1 := Int.neg_tdiv (a := -n) (b := 10)
  have h2 := Int.neg_tmod (-n) 10
  rw [Int.neg_neg] at h1 h2
  rw [h1, h2, (td_pos (n := -n) (by omega)).1, (td_pos (n := -n) (by omega)).2]
  exact ⟨rfl, rfl⟩
theorem itoa_neg1 {n : Int} (h0 : n < 0) (hd : n.tdiv 10 = 0) : Lib.itoa n = 45 :: Lib.itoa (-n) := by
  unfold Lib.itoa
  rw [if_pos h0, if_neg (by omega), show n.natAbs = (-n).toNat from by omega]
theorem itoa_neg2 {n : Int} (h0 : n < 0) (hd : ¬ n.tdiv 10 = 0) : Lib.itoa n = Lib.itoa (n.tdiv 10) ++ Lib.itoa (-(n.tmod 10)) := by
  obtain ⟨t1, t2⟩ := td_neg h0
  rw [t1] at hd
  rw [t1, t2]
  have e1 : -((-n) / 10) = -((n.natAbs / 10 : Nat) : Int) := by omega
  have e2 : - -((-n) % 10) = ((n.natAbs % 10 : Nat) : Int) := by omega
  have h10 : ¬ n.natAbs < 10 := by omega
  rw [e1, e2]
  unfold Lib.itoa
  rw [if_pos h0, if_pos (by omega), if_neg (by omega), Lib.decDigits, dif_neg h10, Int.toNat_natCast, Int.natAbs_neg, Int.natAbs_natCast, Lib.decDigits_one (i := n.natAbs % 10) (by omega)]
  rfl
theorem itoa_pos2 {n : Int} (h0 : 10 ≤ n) : Lib.itoa n = Lib.itoa (n.tdiv 10) ++ Lib.itoa (n.tmod 10) := by
  obtain ⟨t1, t2⟩ := td_pos (n := n) (by omega)
  rw [t1, t2]
  have e1 : n / 10 = ((n.toNat / 10 : Nat) : Int) := by omega
  have e2 : n % 10 = ((n.toNat % 10 : Nat) : Int) := by omega
  have h10 : ¬ n.toNat < 10 := by omega
  rw [e1, e2]
  unfold Lib.itoa
  rw [if_neg (by omega), if_neg (by omega), if_neg (by omega), Lib.decDigits, dif_neg h10, Int.toNat_natCast, Int.toNat_natCast, Lib.decDigits_one (i := n.toNat % 10) (by omega)]
theorem k_dash : Value.string ⟨#[45]⟩ = str [45] := rfl
theorem k_sp : Value.string ⟨#[32]⟩ = str [32] := rfl
theorem k_nl : Value.string ⟨#[10]⟩ = str [10] := rfl
theorem k_no : Value.string ⟨#[]⟩ = str [] := rfl
theorem digit_at (H : Look) : ∀ k : Nat, k < 10 → sliceA X H 9 (.string ⟨#[48, 49, 50, 51, 52, 53, 54, 55, 56, 57]⟩) (some (.int .i64 (k : Int))) (some (.int .i64 ((k + 1 : Nat) : Int))) none = some (str [UInt8.ofNat (48 + k)])
  | 0, _ | 1, _ | 2, _ | 3, _ | 4, _ | 5, _ | 6, _ | 7, _ | 8, _ | 9, _ => by kernel_rfl
section
variable {q : Bool}
theorem tf_14 : type_of% (And.intro @RC <| And.intro @RO <| And.intro @RD <| And.intro @RV <| And.intro @RB <| @RG) := And.intro @RC <| And.intro @RO <| And.intro @RD <| And.intro @RV <| And.intro @RB <| @RG
theorem names_ok {s : St} {Φ : Value → St → Prop} (hs : Ok s) (hΦ : ∀ s', Keeps [] s s' → s'.next = s.next + 2 → Obj s' s.next (nm12.map str) → Φ (.slice (some ⟨s.next, 0, none⟩) 12 12) s') : okF q X KT 14 [] s Φ := by
  refine okF_body rfl fn_14 rfl (rs := [.tmp 0]) rfl (N := 2) rfl rfl ?_
  refine okC_seq_g fun Ψ0 hΨ0 hΨ0' => ?_
  simp only [tf_14, ↓reduceIte, Nat.reduceEqDiff, reduceCtorEq, Int.reduceEq, Nat.reduceMul, Nat.reduceAdd, Nat.reduceBEq, Int.reduceBEq, noteOk, List.mem_cons, List.not_mem_nil, true_or, or_true, or_false, true_and, and_true]
  refine hΨ0 _ _ ?_
  refine okC_seq_g fun Ψ1 hΨ1 hΨ1' => ?_
  obtain ⟨s1, e1, k1, c1, n1⟩ := new_obj hs (L := nm12.map str) (n := 12) (e := 9) rfl
  simp only [okC_region, List.toList_toArray]
  rw [okO_alloc (show kindOf (.buildSlice ..) = .alloc from rfl)]
  refine ⟨.slice (some ⟨s.next, 0, none⟩) 12 12, fun v => .cells (PT.ofList (nm12.map str)) [] 12 9 false false v, by kernel_rfl, ?_⟩
  rw [e1]
  simp only [tf_14, ↓reduceIte, Nat.reduceEqDiff, reduceCtorEq, Int.reduceEq, Nat.reduceMul, Nat.reduceAdd, Nat.reduceBEq, Int.reduceBEq, noteOk, List.mem_cons, List.not_mem_nil, true_or, or_true, or_false, true_and, and_true]
  refine hΨ1 _ _ ?_
  simp only [tf_14, ↓reduceIte, Nat.reduceEqDiff, reduceCtorEq, Int.reduceEq, Nat.reduceMul, Nat.reduceAdd, Nat.reduceBEq, Int.reduceBEq, noteOk, List.mem_cons, List.not_mem_nil, true_or, or_true, or_false, true_and, and_true]
  exact hΦ s1 k1 n1 c1
theorem tf_15 : type_of% (And.intro @RC <| And.intro @RO <| And.intro @RD <| And.intro @RV <| And.intro @RB <| @RG) := And.intro @RC <| And.intro @RO <| And.intro @RD <| And.intro @RV <| And.intro @RB <| @RG
theorem dec_ok : ∀ (m : Nat) (n : Int) {s : St} {Φ : Value → St → Prop}, 2 * n.natAbs + (if n < 0 then 1 else 0) < m → in64 n → Φ (str (Lib.itoa n)) s → okF q X KT 15 [int n] s Φ := by
  intro m
  induction m with
  | zero => intro n s Φ h; omega
  | succ m ih =>
    rintro n s Φ hm ⟨h1, h2⟩ hΦ
    have hb : -922337203685477580 ≤ n.tdiv 10 ∧ n.tdiv 10 ≤ 922337203685477580 ∧ -9 ≤ n.tmod 10 ∧ n.tmod 10 ≤ 9 ∧ (n < 0 → n.tmod 10 ≤ 0 ∧ n.tdiv 10 ≤ 0 ∧ 10 * (-(n.tdiv 10)) ≤ -n ∧ n.tmod 10 = n - 10 * n.tdiv 10) ∧ (0 ≤ n → 0 ≤ n.tmod 10 ∧ 0 ≤ n.tdiv 10 ∧ 10 * n.tdiv 10 ≤ n ∧ n.tmod 10 = n - 10 * n.tdiv 10) := by
      rcases Int.lt_or_le n 0 with h | h
      · obtain ⟨t1, t2⟩ := td_neg h
        rw [t1, t2]; omega
      · obtain ⟨t1, t2⟩ := td_pos h
        rw [t1, t2]; omega
    have wd : IntKind.i64.wrap (n.tdiv 10) = n.tdiv 10 := wrapI (by omega) (by omega)
    have l1 := itoa_len h1 h2
    have z10 : ((10 : Int) = 0) = False := by simp
    refine okF_body rfl fn_15 rfl (rs := [.tmp 2]) rfl (N := 33) rfl rfl ?_
    refine okC_seq_g fun Ψ0 hΨ0 hΨ0' => ?_
    simp only [tf_15, ↓reduceIte, Nat.reduceEqDiff, reduceCtorEq, Int.reduceEq, Nat.reduceMul, Nat.reduceAdd, Nat.reduceBEq, Int.reduceBEq, noteOk, List.mem_cons, List.not_mem_nil, true_or, or_true, or_false, true_and, and_true]
    refine hΨ0 _ _ ?_
    refine okC_seq_g fun Ψ1 hΨ1 hΨ1' => ?_
    refine okC_seq_g fun Ψ2 hΨ2 hΨ2' => ?_
    by_cases h0 : n < 0
    · simp only [tf_15, ↓reduceIte, Nat.reduceEqDiff, reduceCtorEq, Int.reduceEq, Nat.reduceMul, Nat.reduceAdd, Nat.reduceBEq, Int.reduceBEq, noteOk, List.mem_cons, List.not_mem_nil, true_or, or_true, or_false, true_and, and_true, h0, decide_true]
      refine hΨ2 _ _ ?_
      simp only [okC_cnd, RV, RG, ↓reduceIte, Nat.reduceEqDiff, reduceCtorEq, Int.reduceEq, Nat.reduceMul, Nat.reduceAdd, Nat.reduceBEq, Int.reduceBEq, noteOk, List.mem_cons, List.not_mem_nil, true_or, or_true, or_false, true_and, and_true]
      refine okC_seq_g fun Ψ3 hΨ3 hΨ3' => ?_
      refine okC_seq_g fun Ψ4 hΨ4 hΨ4' => ?_
      by_cases hd : n.tdiv 10 = 0
      · have e0 : (n.tdiv 10 == 0) = true := by simp [hd]
        simp only [tf_15, ↓reduceIte, Nat.reduceEqDiff, reduceCtorEq, Int.reduceEq, Nat.reduceMul, Nat.reduceAdd, Nat.reduceBEq, Int.reduceBEq, noteOk, List.mem_cons, List.not_mem_nil, true_or, or_true, or_false, true_and, and_true, wd, e0, z10]
        refine hΨ4 _ _ ?_
        simp only [okC_cnd, RV, RG, ↓reduceIte, Nat.reduceEqDiff, reduceCtorEq, Int.reduceEq, Nat.reduceMul, Nat.reduceAdd, Nat.reduceBEq, Int.reduceBEq, noteOk, List.mem_cons, List.not_mem_nil, true_or, or_true, or_false, true_and, and_true]
        refine okC_seq_g fun Ψ5 hΨ5 hΨ5' => ?_
        have wn : IntKind.i64.wrap (0 - n) = -n := by rw [wrapI (by omega) (by omega)]; omega
        simp only [tf_15, ↓reduceIte, Nat.reduceEqDiff, reduceCtorEq, Int.reduceEq, Nat.reduceMul, Nat.reduceAdd, Nat.reduceBEq, Int.reduceBEq, noteOk, List.mem_cons, List.not_mem_nil, true_or, or_true, or_false, true_and, and_true, wn]
        have l2 := itoa_len (n := -n) (by omega) (by omega)
        refine okO_callx ?_ (ih (-n) (by rw [if_pos h0] at hm; rw [if_neg (by omega)]; omega) ⟨by omega, by omega⟩ ?_)
        · simp only [tf_15, ↓reduceIte, Nat.reduceEqDiff, reduceCtorEq, Int.reduceEq, Nat.reduceMul, Nat.reduceAdd, Nat.reduceBEq, Int.reduceBEq, noteOk, List.mem_cons, List.not_mem_nil, true_or, or_true, or_false, true_and, and_true, wn]
        simp only [tf_15, ↓reduceIte, Nat.reduceEqDiff, reduceCtorEq, Int.reduceEq, Nat.reduceMul, Nat.reduceAdd, Nat.reduceBEq, Int.reduceBEq, noteOk, List.mem_cons, List.not_mem_nil, true_or, or_true, or_false, true_and, and_true, k_dash, bn_s, cat_str (a := [45]) (b := Lib.itoa (-n)) (by simp; omega)]
        refine hΨ5 _ _ ?_
        simp only [tf_15, ↓reduceIte, Nat.reduceEqDiff, reduceCtorEq, Int.reduceEq, Nat.reduceMul, Nat.reduceAdd, Nat.reduceBEq, Int.reduceBEq, noteOk, List.mem_cons, List.not_mem_nil, true_or, or_true, or_false, true_and, and_true]
        refine hΨ3' _ _ _ (by simp) (hΨ1' _ _ _ (by simp) ?_)
        rw [itoa_neg1 h0 hd] at hΦ
        simp only [tf_15, ↓reduceIte, Nat.reduceEqDiff, reduceCtorEq, Int.reduceEq, Nat.reduceMul, Nat.reduceAdd, Nat.reduceBEq, Int.reduceBEq, noteOk, List.mem_cons, List.not_mem_nil, true_or, or_true, or_false, true_and, and_true]
        exact hΦ
      · have e0 : (n.tdiv 10 == 0) = false := by simp [hd]
        simp only [tf_15, ↓reduceIte, Nat.reduceEqDiff, reduceCtorEq, Int.reduceEq, Nat.reduceMul, Nat.reduceAdd, Nat.reduceBEq, Int.reduceBEq, noteOk, List.mem_cons, List.not_mem_nil, true_or, or_true, or_false, true_and, and_true, wd, e0, z10]
        refine hΨ4 _ _ ?_
        simp only [tf_15, ↓reduceIte, Nat.reduceEqDiff, reduceCtorEq, Int.reduceEq, Nat.reduceMul, Nat.reduceAdd, Nat.reduceBEq, Int.reduceBEq, noteOk, List.mem_cons, List.not_mem_nil, true_or, or_true, or_false, true_and, and_true]
        refine hΨ3 _ _ ?_
        refine okC_seq_g fun Ψ5 hΨ5 hΨ5' => ?_
        simp only [tf_15, ↓reduceIte, Nat.reduceEqDiff, reduceCtorEq, Int.reduceEq, Nat.reduceMul, Nat.reduceAdd, Nat.reduceBEq, Int.reduceBEq, noteOk, List.mem_cons, List.not_mem_nil, true_or, or_true, or_false, true_and, and_true, wd, z10]
        have l2 := itoa_len (n := n.tdiv 10) (by omega) (by omega)
        have l3 := itoa_len (n := -(n.tmod 10)) (by omega) (by omega)
        have wn : IntKind.i64.wrap (0 - n.tmod 10) = -(n.tmod 10) := by rw [wrapI (by omega) (by omega)]; omega
        refine okO_callx ?_ (ih (n.tdiv 10) (by rw [if_pos h0] at hm; split <;> omega) ⟨by omega, by omega⟩ ?_)
        · simp only [tf_15, ↓reduceIte, Nat.reduceEqDiff, reduceCtorEq, Int.reduceEq, Nat.reduceMul, Nat.reduceAdd, Nat.reduceBEq, Int.reduceBEq, noteOk, List.mem_cons, List.not_mem_nil, true_or, or_true, or_false, true_and, and_true, wd, z10]
        simp only [tf_15, ↓reduceIte, Nat.reduceEqDiff, reduceCtorEq, Int.reduceEq, Nat.reduceMul, Nat.reduceAdd, Nat.reduceBEq, Int.reduceBEq, noteOk, List.mem_cons, List.not_mem_nil, true_or, or_true, or_false, true_and, and_true, wn, z10]
        refine okO_callx ?_ (ih (-(n.tmod 10)) (by rw [if_pos h0] at hm; rw [if_neg (by omega)]; omega) ⟨by omega, by omega⟩ ?_)
        · simp only [tf_15, ↓reduceIte, Nat.reduceEqDiff, reduceCtorEq, Int.reduceEq, Nat.reduceMul, Nat.reduceAdd, Nat.reduceBEq, Int.reduceBEq, noteOk, List.mem_cons, List.not_mem_nil, true_or, or_true, or_false, true_and, and_true, wn, z10]
        simp only [tf_15, ↓reduceIte, Nat.reduceEqDiff, reduceCtorEq, Int.reduceEq, Nat.reduceMul, Nat.reduceAdd, Nat.reduceBEq, Int.reduceBEq, noteOk, List.mem_cons, List.not_mem_nil, true_or, or_true, or_false, true_and, and_true, bn_s, cat_str (a := Lib.itoa (n.tdiv 10)) (b := Lib.itoa (-(n.tmod 10))) (by omega)]
        refine hΨ5 _ _ ?_
        simp only [tf_15, ↓reduceIte, Nat.reduceEqDiff, reduceCtorEq, Int.reduceEq, Nat.reduceMul, Nat.reduceAdd, Nat.reduceBEq, Int.reduceBEq, noteOk, List.mem_cons, List.not_mem_nil, true_or, or_true, or_false, true_and, and_true]
        refine hΨ1' _ _ _ (by simp) ?_
        rw [itoa_neg2 h0 hd] at hΦ
        simp only [tf_15, ↓reduceIte, Nat.reduceEqDiff, reduceCtorEq, Int.reduceEq, Nat.reduceMul, Nat.reduceAdd, Nat.reduceBEq, Int.reduceBEq, noteOk, List.mem_cons, List.not_mem_nil, true_or, or_true, or_false, true_and, and_true]
        exact hΦ
    · simp only [tf_15, ↓reduceIte, Nat.reduceEqDiff, reduceCtorEq, Int.reduceEq, Nat.reduceMul, Nat.reduceAdd, Nat.reduceBEq, Int.reduceBEq, noteOk, List.mem_cons, List.not_mem_nil, true_or, or_true, or_false, true_and, and_true, h0, decide_false]
      refine hΨ2 _ _ ?_
      simp only [tf_15, ↓reduceIte, Nat.reduceEqDiff, reduceCtorEq, Int.reduceEq, Nat.reduceMul, Nat.reduceAdd, Nat.reduceBEq, Int.reduceBEq, noteOk, List.mem_cons, List.not_mem_nil, true_or, or_true, or_false, true_and, and_true]
      refine hΨ1 _ _ ?_
      refine okC_seq_g fun Ψ3 hΨ3 hΨ3' => ?_
      refine okC_seq_g fun Ψ4 hΨ4 hΨ4' => ?_
      by_cases hd : n < 10
      · simp only [tf_15, ↓reduceIte, Nat.reduceEqDiff, reduceCtorEq, Int.reduceEq, Nat.reduceMul, Nat.reduceAdd, Nat.reduceBEq, Int.reduceBEq, noteOk, List.mem_cons, List.not_mem_nil, true_or, or_true, or_false, true_and, and_true, hd, decide_true]
        refine hΨ4 _ _ ?_
        simp only [okC_cnd, RV, RG, ↓reduceIte, Nat.reduceEqDiff, reduceCtorEq, Int.reduceEq, Nat.reduceMul, Nat.reduceAdd, Nat.reduceBEq, Int.reduceBEq, noteOk, List.mem_cons, List.not_mem_nil, true_or, or_true, or_false, true_and, and_true]
        refine okC_seq_g fun Ψ5 hΨ5 hΨ5' => ?_
        obtain ⟨k, rfl⟩ : ∃ k : Nat, n = k := ⟨n.toNat, by omega⟩
        have wn : IntKind.i64.wrap ((k : Int) + 1) = ((k + 1 : Nat) : Int) := by rw [wrapI (by omega) (by omega)]; rfl
        simp only [tf_15, ↓reduceIte, Nat.reduceEqDiff, reduceCtorEq, Int.reduceEq, Nat.reduceMul, Nat.reduceAdd, Nat.reduceBEq, Int.reduceBEq, noteOk, List.mem_cons, List.not_mem_nil, true_or, or_true, or_false, true_and, and_true, wn, digit_at s.look k (by omega)]
        refine hΨ5 _ _ ?_
        simp only [tf_15, ↓reduceIte, Nat.reduceEqDiff, reduceCtorEq, Int.reduceEq, Nat.reduceMul, Nat.reduceAdd, Nat.reduceBEq, Int.reduceBEq, noteOk, List.mem_cons, List.not_mem_nil, true_or, or_true, or_false, true_and, and_true]
        refine hΨ3' _ _ _ (by simp) ?_
        have e : Lib.itoa (k : Int) = [UInt8.ofNat (48 + k)] := by
          unfold Lib.itoa
          rw [if_neg (by omega), Int.toNat_natCast, Lib.decDigits_one (by omega)]
        rw [e] at hΦ
        simp only [tf_15, ↓reduceIte, Nat.reduceEqDiff, reduceCtorEq, Int.reduceEq, Nat.reduceMul, Nat.reduceAdd, Nat.reduceBEq, Int.reduceBEq, noteOk, List.mem_cons, List.not_mem_nil, true_or, or_true, or_false, true_and, and_true]
        exact hΦ
      · simp only [tf_15, ↓reduceIte, Nat.reduceEqDiff, reduceCtorEq, Int.reduceEq, Nat.reduceMul, Nat.reduceAdd, Nat.reduceBEq, Int.reduceBEq, noteOk, List.mem_cons, List.not_mem_nil, true_or, or_true, or_false, true_and, and_true, hd, decide_false]
        refine hΨ4 _ _ ?_
        simp only [tf_15, ↓reduceIte, Nat.reduceEqDiff, reduceCtorEq, Int.reduceEq, Nat.reduceMul, Nat.reduceAdd, Nat.reduceBEq, Int.reduceBEq, noteOk, List.mem_cons, List.not_mem_nil, true_or, or_true, or_false, true_and, and_true]
        refine hΨ3 _ _ ?_
        refine okC_seq_g fun Ψ5 hΨ5 hΨ5' => ?_
        simp only [tf_15, ↓reduceIte, Nat.reduceEqDiff, reduceCtorEq, Int.reduceEq, Nat.reduceMul, Nat.reduceAdd, Nat.reduceBEq, Int.reduceBEq, noteOk, List.mem_cons, List.not_mem_nil, true_or, or_true, or_false, true_and, and_true, wd, z10]
        have l2 := itoa_len (n := n.tdiv 10) (by omega) (by omega)
        have l3 := itoa_len (n := n.tmod 10) (by omega) (by omega)
        refine okO_callx ?_ (ih (n.tdiv 10) (by rw [if_neg h0] at hm; split <;> omega) ⟨by omega, by omega⟩ ?_)
        · simp only [tf_15, ↓reduceIte, Nat.reduceEqDiff, reduceCtorEq, Int.reduceEq, Nat.reduceMul, Nat.reduceAdd, Nat.reduceBEq, Int.reduceBEq, noteOk, List.mem_cons, List.not_mem_nil, true_or, or_true, or_false, true_and, and_true, wd, z10]
        simp only [tf_15, ↓reduceIte, Nat.reduceEqDiff, reduceCtorEq, Int.reduceEq, Nat.reduceMul, Nat.reduceAdd, Nat.reduceBEq, Int.reduceBEq, noteOk, List.mem_cons, List.not_mem_nil, true_or, or_true, or_false, true_and, and_true, z10]
        refine okO_callx ?_ (ih (n.tmod 10) (by rw [if_neg h0] at hm; split <;> omega) ⟨by omega, by omega⟩ ?_)
        · simp only [tf_15, ↓reduceIte, Nat.reduceEqDiff, reduceCtorEq, Int.reduceEq, Nat.reduceMul, Nat.reduceAdd, Nat.reduceBEq, Int.reduceBEq, noteOk, List.mem_cons, List.not_mem_nil, true_or, or_true, or_false, true_and, and_true, z10]
        simp only [tf_15, ↓reduceIte, Nat.reduceEqDiff, reduceCtorEq, Int.reduceEq, Nat.reduceMul, Nat.reduceAdd, Nat.reduceBEq, Int.reduceBEq, noteOk, List.mem_cons, List.not_mem_nil, true_or, or_true, or_false, true_and, and_true, bn_s, cat_str (a := Lib.itoa (n.tdiv 10)) (b := Lib.itoa (n.tmod 10)) (by omega)]
        refine hΨ5 _ _ ?_
        simp only [tf_15, ↓reduceIte, Nat.reduceEqDiff, reduceCtorEq, Int.reduceEq, Nat.reduceMul, Nat.reduceAdd, Nat.reduceBEq, Int.reduceBEq, noteOk, List.mem_cons, List.not_mem_nil, true_or, or_true, or_false, true_and, and_true]
        rw [itoa_pos2 (by omega)] at hΦ
        exact hΦ
theorem dec_is {n : Int} {s : St} {Φ : Value → St → Prop} (h : in64 n) (hΦ : Φ (str (Lib.itoa n)) s) : okF q X KT 15 [int n] s Φ := dec_ok _ n (Nat.lt_succ_self _) h hΦ
end
end Go.Dust
end
