/- UE UF UG -/
import Derived.Test.YtelmjodchophjaaGreatDoorJ
set_option linter.unusedVariables false
set_option linter.unusedSimpArgs false
section
/- The reference's Number: a number in decimal, just as0 it is written. -/
namespace Go.Dust
open Go.Proofs
set_option maxRecDepth 100000
set_option maxHeartbeats 4000000
set_option linter.unusedSimpArgs false
set_option linter.unusedVariables false
theorem bsub8 (H : Look) (t : TypeId) (x y : Int) : binop X H .sub t (.int .u8 x) (.int .u8 y) = some (.int .u8 (IntKind.u8.wrap (x - y))) := rfl
theorem blss8 (H : Look) (t : TypeId) (x y : Int) : binop X H .lss t (.int .u8 x) (.int .u8 y) = some (.bool (decide (x < y))) := rfl
theorem bgtr8 (H : Look) (t : TypeId) (x y : Int) : binop X H .gtr t (.int .u8 x) (.int .u8 y) = some (.bool (decide (x > y))) := rfl
theorem boU : boolOf undef = none := rfl
theorem wrap8 {n : Int} (h1 : 0 ≤ n) (h2 : n < 256) : IntKind.u8.wrap n = n := by
  unfold IntKind.wrap
  simp [IntKind.bits, IntKind.signed]
  omega
theorem dval_lt : ∀ (l : List UInt8), (∀ c ∈ l, 48 ≤ c.toNat ∧ c.toNat ≤ 57) → dval l < 10 ^ l.length := by
  intro l
  induction h : l.length generalizing l with
  | zero => intro _; rw [List.length_eq_zero_iff.1 h]; decide
  | succ n ih =>
    intro hd
    have hne : l ≠ [] := fun e => by rw [e] at h; cases h
    rw [← List.dropLast_concat_getLast hne, dval_snoc, Nat.pow_succ]
    have h1 := ih l.dropLast (by simp [h]) fun c hc => hd c (List.dropLast_subset l hc)
    have h2 := hd _ (List.getLast_mem hne)
    omega
/-- The digits of what is written. -/
def digs (S : List UInt8) : List UInt8 := match S with
  | 45 :: r => r
  | l => l
theorem digs_minus (r : List UInt8) : digs (45 :: r) = r := rfl
theorem digs_else {S : List UInt8} (h : ∀ r, S ≠ 45 :: r) : digs S = S := by
  unfold digs
  split
  · exact absurd rfl (h _)
  · rfl
theorem canon {n : Int} (h : in64 n) : digs (Lib.itoa n) = Lib.decDigits n.natAbs ∧ ((Lib.itoa n).length = (digs (Lib.itoa n)).length + (if n < 0 then 1 else 0)) := by
  by_cases h0 : n < 0
  · have e : Lib.itoa n = 45 :: Lib.decDigits n.natAbs := by unfold Lib.itoa; rw [if_pos h0]
    rw [e, digs_minus, if_pos h0]
    exact ⟨rfl, rfl⟩
  · have e : Lib.itoa n = Lib.decDigits n.natAbs := by unfold Lib.itoa; rw [if_neg h0]; congr 1; omega
    have hd : digs (Lib.itoa n) = Lib.itoa n := digs_else fun r hr => by
      have := dec_digit n.natAbs 45 (by rw [← e, hr]; simp)
      have e : (45 : UInt8).toNat = 45 := rfl
      omega
    rw [hd, if_neg h0]
    exact ⟨e, rfl⟩
theorem dval_take {D : List UInt8} {j : Nat} {x : UInt8} (hx : D[j]? = some x) : dval (D.take (j + 1)) = 10 * dval (D.take j) + (x.toNat - 48) := by
  rw [List.take_add_one, hx]
  exact dval_snoc _ _
theorem dval_le (D : List UInt8) (j : Nat) : dval (D.take j) ≤ dval D := by
  have := dval_mono (D.take j) (D.drop j)
  rwa [List.take_append_drop] at this
section
variable {q : Bool} {s : St} {Φ : Value → St → Prop}
theorem tf_31 : type_of% (And.intro @RC <| And.intro @RO <| And.intro @RD <| And.intro @RV <| And.intro @RB <| And.intro @RG <| @cv_5_3) := And.intro @RC <| And.intro @RO <| And.intro @RD <| And.intro @RV <| And.intro @RB <| And.intro @RG <| @cv_5_3
theorem num_ok {S : List UInt8} (hs : Ok s) (hS : S.length ≤ 100000) (h1 : ∀ n, in64 n → S = Lib.itoa n → Φ (.tuple #[int n, .bool true]) s) (h2 : (∀ n, in64 n → S ≠ Lib.itoa n) → ∀ m, Φ (.tuple #[int m, .bool false]) s) : okF q X KT 31 [str S] s Φ := by
  obtain ⟨D, hD⟩ : ∃ D, D = digs S := ⟨_, rfl⟩
  obtain ⟨g, hg⟩ : ∃ g, g = S.length - D.length := ⟨_, rfl⟩
  have hDS : D.length ≤ S.length ∧ g ≤ 1 ∧ S.length = D.length + g := by
    rw [hg, hD]
    unfold digs
    split
    · simp
    · simp
  have hcan : ∀ n, in64 n → S = Lib.itoa n → D = Lib.decDigits n.natAbs ∧ (g = 1 ↔ n < 0) := fun n hn e => by
    have := canon hn
    rw [← e, ← hD] at this
    refine ⟨this.1, ?_⟩
    have h3 := this.2
    split at h3 <;> omega
  have z10 : ((10 : Int) = 0) = False := by simp
  refine okF_body rfl fn_31 rfl (rs := [.tmp 2, .tmp 3]) rfl (N := 89) rfl rfl ?_
  refine okC_seq_g fun Ψ0 hΨ0 hΨ0' => ?_
  simp only [tf_31, ↓reduceIte, Nat.reduceEqDiff, reduceCtorEq, Int.reduceEq, Nat.reduceMul, Nat.reduceAdd, Nat.reduceBEq, Int.reduceBEq, noteOk, List.mem_cons, List.not_mem_nil, true_or, or_true, or_false, true_and, and_true, Nat.reduceLT, Nat.reduceLeDiff, List.contains_cons, List.contains_nil]
  refine hΨ0 _ _ ?_
  refine okC_seq_g fun Ψ1 hΨ1 hΨ1' => ?_
  simp only [tf_31, ↓reduceIte, Nat.reduceEqDiff, reduceCtorEq, Int.reduceEq, Nat.reduceMul, Nat.reduceAdd, Nat.reduceBEq, Int.reduceBEq, noteOk, List.mem_cons, List.not_mem_nil, true_or, or_true, or_false, true_and, and_true, Nat.reduceLT, Nat.reduceLeDiff, List.contains_cons, List.contains_nil]
  refine hΨ1 _ _ ?_
  refine okC_seq_g fun Ψ2 hΨ2 hΨ2' => ?_
  refine okC_seq_g fun Ψ3 hΨ3 hΨ3' => ?_
  have main : ∀ a', a'.getT 0 = str S → a'.getT 4 = str D → Ψ2 .normal a' s := by
    intro a1 r0 r4
    refine hΨ2 _ _ ?_
    refine okC_seq_g fun Ψ4 hΨ4 hΨ4' => ?_
    refine okC_seq_g fun Ψ5 hΨ5 hΨ5' => ?_
    have bad : (∀ n, in64 n → S ≠ Lib.itoa n) → ∀ a2, a2.getT 2 = int 0 → a2.getT 3 = .bool false → Ψ4 .ret a2 s := by
      intro hn a2 q2 q3
      refine hΨ4' _ _ _ (by simp) ?_
      simp only [tf_31, ↓reduceIte, Nat.reduceEqDiff, reduceCtorEq, Int.reduceEq, Nat.reduceMul, Nat.reduceAdd, Nat.reduceBEq, Int.reduceBEq, noteOk, List.mem_cons, List.not_mem_nil, true_or, or_true, or_false, true_and, and_true, Nat.reduceLT, Nat.reduceLeDiff, List.contains_cons, List.contains_nil, q2, q3]
      exact h2 hn 0
    have neD : ∀ n, in64 n → S = Lib.itoa n → 0 < D.length ∧ D.length ≤ 19 := fun n hn e => by
      have h1 := (hcan n hn e).1
      have h3 := dec_ne n.natAbs
      rw [← h1] at h3
      refine ⟨List.length_pos_iff.2 h3, ?_⟩
      obtain ⟨q1, q2⟩ := hn
      have q3 : n.natAbs < 10 ^ 19 := by
        have : (10 : Nat) ^ 19 = 10000000000000000000 := by decide
        omega
      rcases decDigits_len 19 n.natAbs q3 with h | h
      · rw [h1]; exact h
      · cases h
    refine okC_region_g [(3, 22)] (by kernel_rfl) fun O hO ΨR hR => ?_
    have y3 : ∀ a, yieldedA O a 3 = boolOf (a.getT 22) := hO (3, 22) (by simp)
    by_cases hD0 : D.length = 0
    · have e0 : ((D.length : Int) == 0) = true := by simp [hD0]
      simp only [tf_31, ↓reduceIte, Nat.reduceEqDiff, reduceCtorEq, Int.reduceEq, Nat.reduceMul, Nat.reduceAdd, Nat.reduceBEq, Int.reduceBEq, noteOk, List.mem_cons, List.not_mem_nil, true_or, or_true, or_false, true_and, and_true, Nat.reduceLT, Nat.reduceLeDiff, List.contains_cons, List.contains_nil, r4, lenS, e0, y3]
      refine hR _ _ (hΨ5 _ _ ?_)
      simp only [okC_cnd, RV, RG, ↓reduceIte, Nat.reduceEqDiff, reduceCtorEq, Int.reduceEq, Nat.reduceMul, Nat.reduceAdd, Nat.reduceBEq, Int.reduceBEq, noteOk, List.mem_cons, List.not_mem_nil, true_or, or_true, or_false, true_and, and_true, Nat.reduceLT, Nat.reduceLeDiff, List.contains_cons, List.contains_nil]
      refine okC_seq_g fun Ψ6 hΨ6 hΨ6' => ?_
      simp only [tf_31, ↓reduceIte, Nat.reduceEqDiff, reduceCtorEq, Int.reduceEq, Nat.reduceMul, Nat.reduceAdd, Nat.reduceBEq, Int.reduceBEq, noteOk, List.mem_cons, List.not_mem_nil, true_or, or_true, or_false, true_and, and_true, Nat.reduceLT, Nat.reduceLeDiff, List.contains_cons, List.contains_nil]
      refine hΨ6 _ _ ?_
      simp only [tf_31, ↓reduceIte, Nat.reduceEqDiff, reduceCtorEq, Int.reduceEq, Nat.reduceMul, Nat.reduceAdd, Nat.reduceBEq, Int.reduceBEq, noteOk, List.mem_cons, List.not_mem_nil, true_or, or_true, or_false, true_and, and_true, Nat.reduceLT, Nat.reduceLeDiff, List.contains_cons, List.contains_nil]
      refine bad (fun n hn e => by have := neD n hn e; omega) _ ?_ ?_
      · simp only [tf_31, ↓reduceIte, Nat.reduceEqDiff, reduceCtorEq, Int.reduceEq, Nat.reduceMul, Nat.reduceAdd, Nat.reduceBEq, Int.reduceBEq, noteOk, List.mem_cons, List.not_mem_nil, true_or, or_true, or_false, true_and, and_true, Nat.reduceLT, Nat.reduceLeDiff, List.contains_cons, List.contains_nil]
      · simp only [tf_31, ↓reduceIte, Nat.reduceEqDiff, reduceCtorEq, Int.reduceEq, Nat.reduceMul, Nat.reduceAdd, Nat.reduceBEq, Int.reduceBEq, noteOk, List.mem_cons, List.not_mem_nil, true_or, or_true, or_false, true_and, and_true, Nat.reduceLT, Nat.reduceLeDiff, List.contains_cons, List.contains_nil]
    have e0 : ((D.length : Int) == 0) = false := beq_eq_false_iff_ne.2 (by omega)
    by_cases hD19 : 19 < D.length
    · have e1 : decide ((D.length : Int) > 19) = true := decide_eq_true (by omega)
      simp only [tf_31, ↓reduceIte, Nat.reduceEqDiff, reduceCtorEq, Int.reduceEq, Nat.reduceMul, Nat.reduceAdd, Nat.reduceBEq, Int.reduceBEq, noteOk, List.mem_cons, List.not_mem_nil, true_or, or_true, or_false, true_and, and_true, Nat.reduceLT, Nat.reduceLeDiff, List.contains_cons, List.contains_nil, r4, lenS, e0, y3, e1]
      refine hR _ _ (hΨ5 _ _ ?_)
      simp only [okC_cnd, RV, RG, ↓reduceIte, Nat.reduceEqDiff, reduceCtorEq, Int.reduceEq, Nat.reduceMul, Nat.reduceAdd, Nat.reduceBEq, Int.reduceBEq, noteOk, List.mem_cons, List.not_mem_nil, true_or, or_true, or_false, true_and, and_true, Nat.reduceLT, Nat.reduceLeDiff, List.contains_cons, List.contains_nil]
      refine okC_seq_g fun Ψ6 hΨ6 hΨ6' => ?_
      simp only [tf_31, ↓reduceIte, Nat.reduceEqDiff, reduceCtorEq, Int.reduceEq, Nat.reduceMul, Nat.reduceAdd, Nat.reduceBEq, Int.reduceBEq, noteOk, List.mem_cons, List.not_mem_nil, true_or, or_true, or_false, true_and, and_true, Nat.reduceLT, Nat.reduceLeDiff, List.contains_cons, List.contains_nil]
      refine hΨ6 _ _ ?_
      simp only [tf_31, ↓reduceIte, Nat.reduceEqDiff, reduceCtorEq, Int.reduceEq, Nat.reduceMul, Nat.reduceAdd, Nat.reduceBEq, Int.reduceBEq, noteOk, List.mem_cons, List.not_mem_nil, true_or, or_true, or_false, true_and, and_true, Nat.reduceLT, Nat.reduceLeDiff, List.contains_cons, List.contains_nil]
      refine bad (fun n hn e => by have := neD n hn e; omega) _ ?_ ?_
      · simp only [tf_31, ↓reduceIte, Nat.reduceEqDiff, reduceCtorEq, Int.reduceEq, Nat.reduceMul, Nat.reduceAdd, Nat.reduceBEq, Int.reduceBEq, noteOk, List.mem_cons, List.not_mem_nil, true_or, or_true, or_false, true_and, and_true, Nat.reduceLT, Nat.reduceLeDiff, List.contains_cons, List.contains_nil]
      · simp only [tf_31, ↓reduceIte, Nat.reduceEqDiff, reduceCtorEq, Int.reduceEq, Nat.reduceMul, Nat.reduceAdd, Nat.reduceBEq, Int.reduceBEq, noteOk, List.mem_cons, List.not_mem_nil, true_or, or_true, or_false, true_and, and_true, Nat.reduceLT, Nat.reduceLeDiff, List.contains_cons, List.contains_nil]
    have e1 : decide ((D.length : Int) > 19) = false := decide_eq_false (by omega)
    simp only [tf_31, ↓reduceIte, Nat.reduceEqDiff, reduceCtorEq, Int.reduceEq, Nat.reduceMul, Nat.reduceAdd, Nat.reduceBEq, Int.reduceBEq, noteOk, List.mem_cons, List.not_mem_nil, true_or, or_true, or_false, true_and, and_true, Nat.reduceLT, Nat.reduceLeDiff, List.contains_cons, List.contains_nil, r4, lenS, e0, y3, e1]
    refine hR _ _ (hΨ5 _ _ ?_)
    simp only [tf_31, ↓reduceIte, Nat.reduceEqDiff, reduceCtorEq, Int.reduceEq, Nat.reduceMul, Nat.reduceAdd, Nat.reduceBEq, Int.reduceBEq, noteOk, List.mem_cons, List.not_mem_nil, true_or, or_true, or_false, true_and, and_true, Nat.reduceLT, Nat.reduceLeDiff, List.contains_cons, List.contains_nil]
    refine hΨ4 _ _ ?_
    refine okC_seq_g fun Ψ6 hΨ6 hΨ6' => ?_
    simp only [tf_31, ↓reduceIte, Nat.reduceEqDiff, reduceCtorEq, Int.reduceEq, Nat.reduceMul, Nat.reduceAdd, Nat.reduceBEq, Int.reduceBEq, noteOk, List.mem_cons, List.not_mem_nil, true_or, or_true, or_false, true_and, and_true, Nat.reduceLT, Nat.reduceLeDiff, List.contains_cons, List.contains_nil]
    refine hΨ6 _ _ ?_
    refine okC_seq_g fun Ψ7 hΨ7 hΨ7' => ?_
    refine okC_seq_g fun Ψ8 hΨ8 hΨ8' => ?_
    simp only [tf_31, ↓reduceIte, Nat.reduceEqDiff, reduceCtorEq, Int.reduceEq, Nat.reduceMul, Nat.reduceAdd, Nat.reduceBEq, Int.reduceBEq, noteOk, List.mem_cons, List.not_mem_nil, true_or, or_true, or_false, true_and, and_true, Nat.reduceLT, Nat.reduceLeDiff, List.contains_cons, List.contains_nil]
    refine hΨ8 _ _ ?_
    refine okC_block_g fun Ψ9 hΨ9 hΨ9e hΨ9' => ?_
    refine okC_cnt (n := D.length) 27 [2, 3, 5, 6, 7] [5] (fun j vs s' => s' = s ∧ ∃ val : Nat, vs = [int (-(val : Int))] ∧ val = dval (D.take j) ∧ (∀ c ∈ D.take j, 48 ≤ c.toNat ∧ c.toNat ≤ 57) ∧ (val ≤ 9223372036854775807 ∨ (g = 1 ∧ val = 9223372036854775808 ∧ 19 ≤ j))) rfl (by omega) ?_ ?_ ?_ ?_ ?_
    · simp only [tf_31, ↓reduceIte, Nat.reduceEqDiff, reduceCtorEq, Int.reduceEq, Nat.reduceMul, Nat.reduceAdd, Nat.reduceBEq, Int.reduceBEq, noteOk, List.mem_cons, List.not_mem_nil, true_or, or_true, or_false, true_and, and_true, Nat.reduceLT, Nat.reduceLeDiff, List.contains_cons, List.contains_nil]
    · refine ⟨rfl, 0, ?_, rfl, fun c hc => by simp at hc, .inl (by omega)⟩
      simp only [tf_31, ↓reduceIte, Nat.reduceEqDiff, reduceCtorEq, Int.reduceEq, Nat.reduceMul, Nat.reduceAdd, Nat.reduceBEq, Int.reduceBEq, noteOk, List.mem_cons, List.not_mem_nil, true_or, or_true, or_false, true_and, and_true, Nat.reduceLT, Nat.reduceLeDiff, List.contains_cons, List.contains_nil]
      rfl
    · rintro j a' s' hj hA hc hr Ψ w
      simp only [tf_31, ↓reduceIte, Nat.reduceEqDiff, reduceCtorEq, Int.reduceEq, Nat.reduceMul, Nat.reduceAdd, Nat.reduceBEq, Int.reduceBEq, noteOk, List.mem_cons, List.not_mem_nil, true_or, or_true, or_false, true_and, and_true, Nat.reduceLT, Nat.reduceLeDiff, List.contains_cons, List.contains_nil, hA.get, hc, lenS, r4]
      refine w _ _ ?_ ?_ ?_ ?_
      · simp only [tf_31, ↓reduceIte, Nat.reduceEqDiff, reduceCtorEq, Int.reduceEq, Nat.reduceMul, Nat.reduceAdd, Nat.reduceBEq, Int.reduceBEq, noteOk, List.mem_cons, List.not_mem_nil, true_or, or_true, or_false, true_and, and_true, Nat.reduceLT, Nat.reduceLeDiff, List.contains_cons, List.contains_nil, Int.ofNat_lt]
      · simp only [tf_31, ↓reduceIte, Nat.reduceEqDiff, reduceCtorEq, Int.reduceEq, Nat.reduceMul, Nat.reduceAdd, Nat.reduceBEq, Int.reduceBEq, noteOk, List.mem_cons, List.not_mem_nil, true_or, or_true, or_false, true_and, and_true, Nat.reduceLT, Nat.reduceLeDiff, List.contains_cons, List.contains_nil, agr_put, hA]
      · simp only [tf_31, ↓reduceIte, Nat.reduceEqDiff, reduceCtorEq, Int.reduceEq, Nat.reduceMul, Nat.reduceAdd, Nat.reduceBEq, Int.reduceBEq, noteOk, List.mem_cons, List.not_mem_nil, true_or, or_true, or_false, true_and, and_true, Nat.reduceLT, Nat.reduceLeDiff, List.contains_cons, List.contains_nil, hc]
      · simp only [tf_31, ↓reduceIte, Nat.reduceEqDiff, reduceCtorEq, Int.reduceEq, Nat.reduceMul, Nat.reduceAdd, Nat.reduceBEq, Int.reduceBEq, noteOk, List.mem_cons, List.not_mem_nil, true_or, or_true, or_false, true_and, and_true, Nat.reduceLT, Nat.reduceLeDiff, List.contains_cons, List.contains_nil]
        exact hr
    · rintro j a' s' hj hA hc ⟨rfl, val, h5, hv, hdg, hval⟩ Ψ w w3
      simp only [List.map_cons, List.map_nil, List.cons.injEq, and_true] at h5
      obtain ⟨x, hx⟩ : ∃ x, D[j]? = some x := ⟨_, List.getElem?_eq_getElem hj⟩
      have hix := index_str hx
      have hx256 := x.toNat_lt
      have hvl : val < 1000000000000000000 := by
        have h := dval_lt (D.take j) hdg
        rw [← hv, List.length_take] at h
        have : 10 ^ (min j D.length) ≤ 10 ^ 18 := Nat.pow_le_pow_right (by omega) (by omega)
        omega
      have cn : ∀ n, in64 n → S = Lib.itoa n → 48 ≤ x.toNat ∧ x.toNat ≤ 57 ∧ 10 * val + (x.toNat - 48) ≤ n.natAbs ∧ (g = 1 ↔ n < 0) := fun n hn e => by
        obtain ⟨h3, h4⟩ := hcan n hn e
        have h5 := dec_digit n.natAbs x (by rw [← h3]; exact List.mem_of_getElem? hx)
        have h6 := dval_le D (j + 1)
        rw [dval_take hx, ← hv] at h6
        rw [show dval D = n.natAbs by rw [h3]; exact dval_dec _] at h6
        exact ⟨h5.1, h5.2, h6, h4⟩
      have bad2 : (∀ n, in64 n → S ≠ Lib.itoa n) → ∀ a2, a2.getT 2 = int 0 → a2.getT 3 = .bool false → Ψ .ret a2 s' := by
        intro hn a2 q2 q3
        refine w3 _ _ _ (by simp) (by simp) (hΨ9' _ _ _ (by simp) (by simp) (hΨ7' _ _ _ (by simp) ?_))
        simp only [tf_31, ↓reduceIte, Nat.reduceEqDiff, reduceCtorEq, Int.reduceEq, Nat.reduceMul, Nat.reduceAdd, Nat.reduceBEq, Int.reduceBEq, noteOk, List.mem_cons, List.not_mem_nil, true_or, or_true, or_false, true_and, and_true, Nat.reduceLT, Nat.reduceLeDiff, List.contains_cons, List.contains_nil, q2, q3]
        exact h2 hn 0
      obtain ⟨d, hd⟩ : ∃ d, IntKind.i64.wrap (IntKind.u8.wrap ((x.toNat : Int) - 48)) = d := ⟨_, rfl⟩
      refine okC_seq_g fun Ψ10 hΨ10 hΨ10' => ?_
      simp only [tf_31, ↓reduceIte, Nat.reduceEqDiff, reduceCtorEq, Int.reduceEq, Nat.reduceMul, Nat.reduceAdd, Nat.reduceBEq, Int.reduceBEq, noteOk, List.mem_cons, List.not_mem_nil, true_or, or_true, or_false, true_and, and_true, Nat.reduceLT, Nat.reduceLeDiff, List.contains_cons, List.contains_nil, hA.get, r4, hc, hix, bsub8, hd]
      refine hΨ10 _ _ ?_
      refine okC_seq_g fun Ψ11 hΨ11 hΨ11' => ?_
      refine okC_seq_g fun Ψ12 hΨ12 hΨ12' => ?_
      refine okC_region_g [(4, 42), (10, 48), (17, 55), (23, 61), (28, 66)] (by kernel_rfl) fun O hO ΨR hR => ?_
      have y4 : ∀ a, yieldedA O a 4 = boolOf (a.getT 42) := hO (4, 42) (by simp)
      have y10 : ∀ a, yieldedA O a 10 = boolOf (a.getT 48) := hO (10, 48) (by simp)
      have y17 : ∀ a, yieldedA O a 17 = boolOf (a.getT 55) := hO (17, 55) (by simp)
      have y23 : ∀ a, yieldedA O a 23 = boolOf (a.getT 61) := hO (23, 61) (by simp)
      have y28 : ∀ a, yieldedA O a 28 = boolOf (a.getT 66) := hO (28, 66) (by simp)
      by_cases c1 : (x.toNat : Int) < 48
      · simp only [tf_31, ↓reduceIte, Nat.reduceEqDiff, reduceCtorEq, Int.reduceEq, Nat.reduceMul, Nat.reduceAdd, Nat.reduceBEq, Int.reduceBEq, noteOk, List.mem_cons, List.not_mem_nil, true_or, or_true, or_false, true_and, and_true, Nat.reduceLT, Nat.reduceLeDiff, List.contains_cons, List.contains_nil, hA.get, r4, hc, hix, blss8, c1, decide_true, y4, y10, y17, y23, y28, boU]
        refine hR _ _ (hΨ12 _ _ ?_)
        simp only [okC_cnd, RV, RG, ↓reduceIte, Nat.reduceEqDiff, reduceCtorEq, Int.reduceEq, Nat.reduceMul, Nat.reduceAdd, Nat.reduceBEq, Int.reduceBEq, noteOk, List.mem_cons, List.not_mem_nil, true_or, or_true, or_false, true_and, and_true, Nat.reduceLT, Nat.reduceLeDiff, List.contains_cons, List.contains_nil]
        refine okC_seq_g fun Ψ13 hΨ13 hΨ13' => ?_
        simp only [tf_31, ↓reduceIte, Nat.reduceEqDiff, reduceCtorEq, Int.reduceEq, Nat.reduceMul, Nat.reduceAdd, Nat.reduceBEq, Int.reduceBEq, noteOk, List.mem_cons, List.not_mem_nil, true_or, or_true, or_false, true_and, and_true, Nat.reduceLT, Nat.reduceLeDiff, List.contains_cons, List.contains_nil]
        refine hΨ13 _ _ ?_
        simp only [tf_31, ↓reduceIte, Nat.reduceEqDiff, reduceCtorEq, Int.reduceEq, Nat.reduceMul, Nat.reduceAdd, Nat.reduceBEq, Int.reduceBEq, noteOk, List.mem_cons, List.not_mem_nil, true_or, or_true, or_false, true_and, and_true, Nat.reduceLT, Nat.reduceLeDiff, List.contains_cons, List.contains_nil]
        refine hΨ11' _ _ _ (by simp) ?_
        refine bad2 (fun n hn e => by have := cn n hn e; omega) _ ?_ ?_
        · simp only [tf_31, ↓reduceIte, Nat.reduceEqDiff, reduceCtorEq, Int.reduceEq, Nat.reduceMul, Nat.reduceAdd, Nat.reduceBEq, Int.reduceBEq, noteOk, List.mem_cons, List.not_mem_nil, true_or, or_true, or_false, true_and, and_true, Nat.reduceLT, Nat.reduceLeDiff, List.contains_cons, List.contains_nil]
        · simp only [tf_31, ↓reduceIte, Nat.reduceEqDiff, reduceCtorEq, Int.reduceEq, Nat.reduceMul, Nat.reduceAdd, Nat.reduceBEq, Int.reduceBEq, noteOk, List.mem_cons, List.not_mem_nil, true_or, or_true, or_false, true_and, and_true, Nat.reduceLT, Nat.reduceLeDiff, List.contains_cons, List.contains_nil]
      by_cases c2 : (x.toNat : Int) > 57
      · simp only [tf_31, ↓reduceIte, Nat.reduceEqDiff, reduceCtorEq, Int.reduceEq, Nat.reduceMul, Nat.reduceAdd, Nat.reduceBEq, Int.reduceBEq, noteOk, List.mem_cons, List.not_mem_nil, true_or, or_true, or_false, true_and, and_true, Nat.reduceLT, Nat.reduceLeDiff, List.contains_cons, List.contains_nil, hA.get, r4, hc, hix, blss8, bgtr8, c1, c2, decide_true, decide_false, y4, y10, y17, y23, y28, boU]
        refine hR _ _ (hΨ12 _ _ ?_)
        simp only [okC_cnd, RV, RG, ↓reduceIte, Nat.reduceEqDiff, reduceCtorEq, Int.reduceEq, Nat.reduceMul, Nat.reduceAdd, Nat.reduceBEq, Int.reduceBEq, noteOk, List.mem_cons, List.not_mem_nil, true_or, or_true, or_false, true_and, and_true, Nat.reduceLT, Nat.reduceLeDiff, List.contains_cons, List.contains_nil]
        refine okC_seq_g fun Ψ13 hΨ13 hΨ13' => ?_
        simp only [tf_31, ↓reduceIte, Nat.reduceEqDiff, reduceCtorEq, Int.reduceEq, Nat.reduceMul, Nat.reduceAdd, Nat.reduceBEq, Int.reduceBEq, noteOk, List.mem_cons, List.not_mem_nil, true_or, or_true, or_false, true_and, and_true, Nat.reduceLT, Nat.reduceLeDiff, List.contains_cons, List.contains_nil]
        refine hΨ13 _ _ ?_
        simp only [tf_31, ↓reduceIte, Nat.reduceEqDiff, reduceCtorEq, Int.reduceEq, Nat.reduceMul, Nat.reduceAdd, Nat.reduceBEq, Int.reduceBEq, noteOk, List.mem_cons, List.not_mem_nil, true_or, or_true, or_false, true_and, and_true, Nat.reduceLT, Nat.reduceLeDiff, List.contains_cons, List.contains_nil]
        refine hΨ11' _ _ _ (by simp) ?_
        refine bad2 (fun n hn e => by have := cn n hn e; omega) _ ?_ ?_
        · simp only [tf_31, ↓reduceIte, Nat.reduceEqDiff, reduceCtorEq, Int.reduceEq, Nat.reduceMul, Nat.reduceAdd, Nat.reduceBEq, Int.reduceBEq, noteOk, List.mem_cons, List.not_mem_nil, true_or, or_true, or_false, true_and, and_true, Nat.reduceLT, Nat.reduceLeDiff, List.contains_cons, List.contains_nil]
        · simp only [tf_31, ↓reduceIte, Nat.reduceEqDiff, reduceCtorEq, Int.reduceEq, Nat.reduceMul, Nat.reduceAdd, Nat.reduceBEq, Int.reduceBEq, noteOk, List.mem_cons, List.not_mem_nil, true_or, or_true, or_false, true_and, and_true, Nat.reduceLT, Nat.reduceLeDiff, List.contains_cons, List.contains_nil]
      have hd' : d = (x.toNat : Int) - 48 := by rw [← hd, wrap8 (by omega) (by omega), wrapI (by omega) (by omega)]
      have hneg : IntKind.i64.wrap (0 - -(val : Int)) = (val : Int) := by rw [wrapI (by omega) (by omega)]; omega
      have hsub : IntKind.i64.wrap (9223372036854775807 - d) = 9223372036854775807 - d := wrapI (by omega) (by omega)
      have hquo : IntKind.i64.wrap ((9223372036854775807 - d).tdiv 10) = (9223372036854775807 - d) / 10 := by rw [Int.tdiv_eq_ediv_of_nonneg (by omega), wrapI (by omega) (by omega)]
      have htk : (D.take (j + 1)) = D.take j ++ [x] := by rw [List.take_add_one, hx]; rfl
      have hv' : 10 * val + (x.toNat - 48) = dval (D.take (j + 1)) := by rw [dval_take hx, ← hv]
      have hdg' : ∀ c ∈ D.take (j + 1), 48 ≤ c.toNat ∧ c.toNat ≤ 57 := fun c hc => by
        rw [htk] at hc
        rcases List.mem_append.1 hc with h | h
        · exact hdg c h
        · rw [List.mem_singleton.1 h]; omega
      by_cases c3 : (val : Int) > (9223372036854775807 - d) / 10
      · have c3' : 10 * val + (x.toNat - 48) > 9223372036854775807 := by omega
        by_cases hex : g = 1 ∧ val = 922337203685477580 ∧ d = 8
        · obtain ⟨g1, v1, d1⟩ := hex
          have hmul : IntKind.i64.wrap (10 * -(val : Int)) = 10 * -(val : Int) := wrapI (by omega) (by omega)
          have j18 : 18 ≤ j := by
            have h := dval_lt (D.take j) hdg
            rw [← hv, List.length_take] at h
            rcases Nat.lt_or_ge j 18 with h8 | h8
            · have : 10 ^ (min j D.length) ≤ 10 ^ 17 := Nat.pow_le_pow_right (by omega) (by omega)
              omega
            · exact h8
          have e57 : decide ((S.length : Int) > (D.length : Int)) = true := decide_eq_true (by omega)
          have e63 : ((val : Int) == 922337203685477580) = true := by simp; omega
          have e68 : (d == 8) = true := by simp [d1]
          have hsb : IntKind.i64.wrap (10 * -(val : Int) - d) = -((10 * val + (x.toNat - 48) : Nat) : Int) := by rw [wrapI (by omega) (by omega)]; omega
          simp only [tf_31, ↓reduceIte, Nat.reduceEqDiff, reduceCtorEq, Int.reduceEq, Nat.reduceMul, Nat.reduceAdd, Nat.reduceBEq, Int.reduceBEq, noteOk, List.mem_cons, List.not_mem_nil, true_or, or_true, or_false, true_and, and_true, Nat.reduceLT, Nat.reduceLeDiff, List.contains_cons, List.contains_nil, hA.get, r0, r4, hc, h5, hix, blss8, bgtr8, c1, c2, decide_true, decide_false, y4, y10, y17, y23, y28, hneg, hsub, hquo, z10, c3, lenS, e57, e63, e68]
          refine hR _ _ (hΨ12 _ _ ?_)
          simp only [tf_31, ↓reduceIte, Nat.reduceEqDiff, reduceCtorEq, Int.reduceEq, Nat.reduceMul, Nat.reduceAdd, Nat.reduceBEq, Int.reduceBEq, noteOk, List.mem_cons, List.not_mem_nil, true_or, or_true, or_false, true_and, and_true, Nat.reduceLT, Nat.reduceLeDiff, List.contains_cons, List.contains_nil]
          refine hΨ11 _ _ ?_
          simp only [tf_31, ↓reduceIte, Nat.reduceEqDiff, reduceCtorEq, Int.reduceEq, Nat.reduceMul, Nat.reduceAdd, Nat.reduceBEq, Int.reduceBEq, noteOk, List.mem_cons, List.not_mem_nil, true_or, or_true, or_false, true_and, and_true, Nat.reduceLT, Nat.reduceLeDiff, List.contains_cons, List.contains_nil, h5, hmul, hsb]
          refine (w _ _ ?_ ?_ ⟨rfl, _, ?_, hv', hdg', ?_⟩).1
          · simp only [tf_31, ↓reduceIte, Nat.reduceEqDiff, reduceCtorEq, Int.reduceEq, Nat.reduceMul, Nat.reduceAdd, Nat.reduceBEq, Int.reduceBEq, noteOk, List.mem_cons, List.not_mem_nil, true_or, or_true, or_false, true_and, and_true, Nat.reduceLT, Nat.reduceLeDiff, List.contains_cons, List.contains_nil, agr_put, hA]
          · simp only [tf_31, ↓reduceIte, Nat.reduceEqDiff, reduceCtorEq, Int.reduceEq, Nat.reduceMul, Nat.reduceAdd, Nat.reduceBEq, Int.reduceBEq, noteOk, List.mem_cons, List.not_mem_nil, true_or, or_true, or_false, true_and, and_true, Nat.reduceLT, Nat.reduceLeDiff, List.contains_cons, List.contains_nil, hc]
          · simp only [tf_31, ↓reduceIte, Nat.reduceEqDiff, reduceCtorEq, Int.reduceEq, Nat.reduceMul, Nat.reduceAdd, Nat.reduceBEq, Int.reduceBEq, noteOk, List.mem_cons, List.not_mem_nil, true_or, or_true, or_false, true_and, and_true, Nat.reduceLT, Nat.reduceLeDiff, List.contains_cons, List.contains_nil]
          · exact .inr ⟨g1, by omega, by omega⟩
        · have no : ∀ n, in64 n → S ≠ Lib.itoa n := by
            rintro n hn e
            obtain ⟨k1, k2, k3, k4⟩ := cn n hn e
            obtain ⟨b1, b2⟩ := hn
            refine hex ⟨k4.2 (by omega), by omega, by omega⟩
          have fin : ∀ a2, a2.getT 72 = .bool true → Ψ12 .normal a2 s' := by
            intro a2 q72
            refine hΨ12 _ _ ?_
            simp only [okC_cnd, RV, RG, ↓reduceIte, Nat.reduceEqDiff, reduceCtorEq, Int.reduceEq, Nat.reduceMul, Nat.reduceAdd, Nat.reduceBEq, Int.reduceBEq, noteOk, List.mem_cons, List.not_mem_nil, true_or, or_true, or_false, true_and, and_true, Nat.reduceLT, Nat.reduceLeDiff, List.contains_cons, List.contains_nil, q72]
            refine okC_seq_g fun Ψ13 hΨ13 hΨ13' => ?_
            simp only [tf_31, ↓reduceIte, Nat.reduceEqDiff, reduceCtorEq, Int.reduceEq, Nat.reduceMul, Nat.reduceAdd, Nat.reduceBEq, Int.reduceBEq, noteOk, List.mem_cons, List.not_mem_nil, true_or, or_true, or_false, true_and, and_true, Nat.reduceLT, Nat.reduceLeDiff, List.contains_cons, List.contains_nil]
            refine hΨ13 _ _ ?_
            simp only [tf_31, ↓reduceIte, Nat.reduceEqDiff, reduceCtorEq, Int.reduceEq, Nat.reduceMul, Nat.reduceAdd, Nat.reduceBEq, Int.reduceBEq, noteOk, List.mem_cons, List.not_mem_nil, true_or, or_true, or_false, true_and, and_true, Nat.reduceLT, Nat.reduceLeDiff, List.contains_cons, List.contains_nil]
            refine hΨ11' _ _ _ (by simp) ?_
            refine bad2 no _ ?_ ?_
            · simp only [tf_31, ↓reduceIte, Nat.reduceEqDiff, reduceCtorEq, Int.reduceEq, Nat.reduceMul, Nat.reduceAdd, Nat.reduceBEq, Int.reduceBEq, noteOk, List.mem_cons, List.not_mem_nil, true_or, or_true, or_false, true_and, and_true, Nat.reduceLT, Nat.reduceLeDiff, List.contains_cons, List.contains_nil]
            · simp only [tf_31, ↓reduceIte, Nat.reduceEqDiff, reduceCtorEq, Int.reduceEq, Nat.reduceMul, Nat.reduceAdd, Nat.reduceBEq, Int.reduceBEq, noteOk, List.mem_cons, List.not_mem_nil, true_or, or_true, or_false, true_and, and_true, Nat.reduceLT, Nat.reduceLeDiff, List.contains_cons, List.contains_nil]
          by_cases g1 : g = 1
          · have e57 : decide ((S.length : Int) > (D.length : Int)) = true := decide_eq_true (by omega)
            by_cases v1 : val = 922337203685477580
            · have e63 : ((val : Int) == 922337203685477580) = true := by simp; omega
              have e68 : (d == 8) = false := by simp; exact fun h => hex ⟨g1, v1, h⟩
              simp only [tf_31, ↓reduceIte, Nat.reduceEqDiff, reduceCtorEq, Int.reduceEq, Nat.reduceMul, Nat.reduceAdd, Nat.reduceBEq, Int.reduceBEq, noteOk, List.mem_cons, List.not_mem_nil, true_or, or_true, or_false, true_and, and_true, Nat.reduceLT, Nat.reduceLeDiff, List.contains_cons, List.contains_nil, hA.get, r0, r4, hc, h5, hix, blss8, bgtr8, c1, c2, decide_true, decide_false, y4, y10, y17, y23, y28, hneg, hsub, hquo, z10, c3, lenS, e57, e63, e68]
              refine hR _ _ (fin _ ?_)
              simp only [tf_31, ↓reduceIte, Nat.reduceEqDiff, reduceCtorEq, Int.reduceEq, Nat.reduceMul, Nat.reduceAdd, Nat.reduceBEq, Int.reduceBEq, noteOk, List.mem_cons, List.not_mem_nil, true_or, or_true, or_false, true_and, and_true, Nat.reduceLT, Nat.reduceLeDiff, List.contains_cons, List.contains_nil]
            · have e63 : ((val : Int) == 922337203685477580) = false := by simp; omega
              simp only [tf_31, ↓reduceIte, Nat.reduceEqDiff, reduceCtorEq, Int.reduceEq, Nat.reduceMul, Nat.reduceAdd, Nat.reduceBEq, Int.reduceBEq, noteOk, List.mem_cons, List.not_mem_nil, true_or, or_true, or_false, true_and, and_true, Nat.reduceLT, Nat.reduceLeDiff, List.contains_cons, List.contains_nil, hA.get, r0, r4, hc, h5, hix, blss8, bgtr8, c1, c2, decide_true, decide_false, y4, y10, y17, y23, y28, hneg, hsub, hquo, z10, c3, lenS, e57, e63, boU]
              refine hR _ _ (fin _ ?_)
              simp only [tf_31, ↓reduceIte, Nat.reduceEqDiff, reduceCtorEq, Int.reduceEq, Nat.reduceMul, Nat.reduceAdd, Nat.reduceBEq, Int.reduceBEq, noteOk, List.mem_cons, List.not_mem_nil, true_or, or_true, or_false, true_and, and_true, Nat.reduceLT, Nat.reduceLeDiff, List.contains_cons, List.contains_nil]
          · have e57 : decide ((S.length : Int) > (D.length : Int)) = false := decide_eq_false (by omega)
            simp only [tf_31, ↓reduceIte, Nat.reduceEqDiff, reduceCtorEq, Int.reduceEq, Nat.reduceMul, Nat.reduceAdd, Nat.reduceBEq, Int.reduceBEq, noteOk, List.mem_cons, List.not_mem_nil, true_or, or_true, or_false, true_and, and_true, Nat.reduceLT, Nat.reduceLeDiff, List.contains_cons, List.contains_nil, hA.get, r0, r4, hc, h5, hix, blss8, bgtr8, c1, c2, decide_true, decide_false, y4, y10, y17, y23, y28, hneg, hsub, hquo, z10, c3, lenS, e57, boU]
            refine hR _ _ (fin _ ?_)
            simp only [tf_31, ↓reduceIte, Nat.reduceEqDiff, reduceCtorEq, Int.reduceEq, Nat.reduceMul, Nat.reduceAdd, Nat.reduceBEq, Int.reduceBEq, noteOk, List.mem_cons, List.not_mem_nil, true_or, or_true, or_false, true_and, and_true, Nat.reduceLT, Nat.reduceLeDiff, List.contains_cons, List.contains_nil]
      · have hmul : IntKind.i64.wrap (10 * -(val : Int)) = 10 * -(val : Int) := wrapI (by omega) (by omega)
        have hsb : IntKind.i64.wrap (10 * -(val : Int) - d) = -((10 * val + (x.toNat - 48) : Nat) : Int) := by rw [wrapI (by omega) (by omega)]; omega
        simp only [tf_31, ↓reduceIte, Nat.reduceEqDiff, reduceCtorEq, Int.reduceEq, Nat.reduceMul, Nat.reduceAdd, Nat.reduceBEq, Int.reduceBEq, noteOk, List.mem_cons, List.not_mem_nil, true_or, or_true, or_false, true_and, and_true, Nat.reduceLT, Nat.reduceLeDiff, List.contains_cons, List.contains_nil, hA.get, r0, r4, hc, h5, hix, blss8, bgtr8, c1, c2, decide_true, decide_false, y4, y10, y17, y23, y28, hneg, hsub, hquo, z10, c3, boU]
        refine hR _ _ (hΨ12 _ _ ?_)
        simp only [tf_31, ↓reduceIte, Nat.reduceEqDiff, reduceCtorEq, Int.reduceEq, Nat.reduceMul, Nat.reduceAdd, Nat.reduceBEq, Int.reduceBEq, noteOk, List.mem_cons, List.not_mem_nil, true_or, or_true, or_false, true_and, and_true, Nat.reduceLT, Nat.reduceLeDiff, List.contains_cons, List.contains_nil]
        refine hΨ11 _ _ ?_
        simp only [tf_31, ↓reduceIte, Nat.reduceEqDiff, reduceCtorEq, Int.reduceEq, Nat.reduceMul, Nat.reduceAdd, Nat.reduceBEq, Int.reduceBEq, noteOk, List.mem_cons, List.not_mem_nil, true_or, or_true, or_false, true_and, and_true, Nat.reduceLT, Nat.reduceLeDiff, List.contains_cons, List.contains_nil, h5, hmul, hsb]
        refine (w _ _ ?_ ?_ ⟨rfl, _, ?_, hv', hdg', ?_⟩).1
        · simp only [tf_31, ↓reduceIte, Nat.reduceEqDiff, reduceCtorEq, Int.reduceEq, Nat.reduceMul, Nat.reduceAdd, Nat.reduceBEq, Int.reduceBEq, noteOk, List.mem_cons, List.not_mem_nil, true_or, or_true, or_false, true_and, and_true, Nat.reduceLT, Nat.reduceLeDiff, List.contains_cons, List.contains_nil, agr_put, hA]
        · simp only [tf_31, ↓reduceIte, Nat.reduceEqDiff, reduceCtorEq, Int.reduceEq, Nat.reduceMul, Nat.reduceAdd, Nat.reduceBEq, Int.reduceBEq, noteOk, List.mem_cons, List.not_mem_nil, true_or, or_true, or_false, true_and, and_true, Nat.reduceLT, Nat.reduceLeDiff, List.contains_cons, List.contains_nil, hc]
        · simp only [tf_31, ↓reduceIte, Nat.reduceEqDiff, reduceCtorEq, Int.reduceEq, Nat.reduceMul, Nat.reduceAdd, Nat.reduceBEq, Int.reduceBEq, noteOk, List.mem_cons, List.not_mem_nil, true_or, or_true, or_false, true_and, and_true, Nat.reduceLT, Nat.reduceLeDiff, List.contains_cons, List.contains_nil]
        · exact .inl (by omega)
    · rintro a' s' hA ⟨rfl, val, h5, hv, hdg, hval⟩
      simp only [List.map_cons, List.map_nil, List.cons.injEq, and_true] at h5
      rw [List.take_length] at hv hdg
      refine hΨ9e _ _ (hΨ7 _ _ ?_)
      obtain ⟨n, hn⟩ : ∃ n : Int, n = if g = 1 then -(val : Int) else val := ⟨_, rfl⟩
      have hn64 : in64 n := by
        rw [hn]
        split
        · exact ⟨by omega, by omega⟩
        · exact ⟨by omega, by omega⟩
      have uniq : ∀ m, in64 m → S = Lib.itoa m → m = n := fun m hm e => by
        obtain ⟨h3, h4⟩ := hcan m hm e
        have h6 : dval D = m.natAbs := by rw [h3]; exact dval_dec _
        rw [hn]
        split
        · rename_i h7
          have := h4.1 h7
          omega
        · rename_i h7
          have : ¬ m < 0 := fun h => h7 (h4.2 h)
          omega
      refine okC_seq_g fun Ψ14 hΨ14 hΨ14' => ?_
      refine okC_seq_g fun Ψ15 hΨ15 hΨ15' => ?_
      have fin : ∀ a2, a2.getT 5 = int n → a2.getT 0 = str S → Ψ14 .normal a2 s' := by
        intro a2 q5 q0
        refine hΨ14 _ _ ?_
        refine okC_seq_g fun Ψ16 hΨ16 hΨ16' => ?_
        simp only [tf_31, ↓reduceIte, Nat.reduceEqDiff, reduceCtorEq, Int.reduceEq, Nat.reduceMul, Nat.reduceAdd, Nat.reduceBEq, Int.reduceBEq, noteOk, List.mem_cons, List.not_mem_nil, true_or, or_true, or_false, true_and, and_true, Nat.reduceLT, Nat.reduceLeDiff, List.contains_cons, List.contains_nil, q5]
        refine okO_callx ?_ (dec_is hn64 ?_)
        · simp only [tf_31, ↓reduceIte, Nat.reduceEqDiff, reduceCtorEq, Int.reduceEq, Nat.reduceMul, Nat.reduceAdd, Nat.reduceBEq, Int.reduceBEq, noteOk, List.mem_cons, List.not_mem_nil, true_or, or_true, or_false, true_and, and_true, Nat.reduceLT, Nat.reduceLeDiff, List.contains_cons, List.contains_nil, q5]
        simp only [tf_31, ↓reduceIte, Nat.reduceEqDiff, reduceCtorEq, Int.reduceEq, Nat.reduceMul, Nat.reduceAdd, Nat.reduceBEq, Int.reduceBEq, noteOk, List.mem_cons, List.not_mem_nil, true_or, or_true, or_false, true_and, and_true, Nat.reduceLT, Nat.reduceLeDiff, List.contains_cons, List.contains_nil, q0, q5, eq_str, bn_s]
        refine hΨ16 _ _ ?_
        simp only [tf_31, ↓reduceIte, Nat.reduceEqDiff, reduceCtorEq, Int.reduceEq, Nat.reduceMul, Nat.reduceAdd, Nat.reduceBEq, Int.reduceBEq, noteOk, List.mem_cons, List.not_mem_nil, true_or, or_true, or_false, true_and, and_true, Nat.reduceLT, Nat.reduceLeDiff, List.contains_cons, List.contains_nil]
        by_cases e : S = Lib.itoa n
        · rw [show (Lib.itoa n == S) = true by simp [← e]]
          exact h1 n hn64 e
        · rw [show (Lib.itoa n == S) = false by simp; exact fun h => e h.symm]
          exact h2 (fun m hm hS => e (by rw [← uniq m hm hS]; exact hS)) n
      by_cases g1 : g = 1
      · have e0 : ((S.length : Int) == (D.length : Int)) = false := by simp; omega
        simp only [tf_31, ↓reduceIte, Nat.reduceEqDiff, reduceCtorEq, Int.reduceEq, Nat.reduceMul, Nat.reduceAdd, Nat.reduceBEq, Int.reduceBEq, noteOk, List.mem_cons, List.not_mem_nil, true_or, or_true, or_false, true_and, and_true, Nat.reduceLT, Nat.reduceLeDiff, List.contains_cons, List.contains_nil, hA.get, r0, r4, lenS, e0]
        refine hΨ15 _ _ ?_
        simp only [tf_31, ↓reduceIte, Nat.reduceEqDiff, reduceCtorEq, Int.reduceEq, Nat.reduceMul, Nat.reduceAdd, Nat.reduceBEq, Int.reduceBEq, noteOk, List.mem_cons, List.not_mem_nil, true_or, or_true, or_false, true_and, and_true, Nat.reduceLT, Nat.reduceLeDiff, List.contains_cons, List.contains_nil]
        refine fin _ ?_ ?_
        · simp only [tf_31, ↓reduceIte, Nat.reduceEqDiff, reduceCtorEq, Int.reduceEq, Nat.reduceMul, Nat.reduceAdd, Nat.reduceBEq, Int.reduceBEq, noteOk, List.mem_cons, List.not_mem_nil, true_or, or_true, or_false, true_and, and_true, Nat.reduceLT, Nat.reduceLeDiff, List.contains_cons, List.contains_nil, h5]
          rw [hn, if_pos g1]
        · simp only [tf_31, ↓reduceIte, Nat.reduceEqDiff, reduceCtorEq, Int.reduceEq, Nat.reduceMul, Nat.reduceAdd, Nat.reduceBEq, Int.reduceBEq, noteOk, List.mem_cons, List.not_mem_nil, true_or, or_true, or_false, true_and, and_true, Nat.reduceLT, Nat.reduceLeDiff, List.contains_cons, List.contains_nil, hA.get, r0]
      · have e0 : ((S.length : Int) == (D.length : Int)) = true := by simp; omega
        have w0 : val ≤ 9223372036854775807 := by omega
        have hneg : IntKind.i64.wrap (0 - -(val : Int)) = (val : Int) := by rw [wrapI (by omega) (by omega)]; omega
        simp only [tf_31, ↓reduceIte, Nat.reduceEqDiff, reduceCtorEq, Int.reduceEq, Nat.reduceMul, Nat.reduceAdd, Nat.reduceBEq, Int.reduceBEq, noteOk, List.mem_cons, List.not_mem_nil, true_or, or_true, or_false, true_and, and_true, Nat.reduceLT, Nat.reduceLeDiff, List.contains_cons, List.contains_nil, hA.get, r0, r4, lenS, e0]
        refine hΨ15 _ _ ?_
        simp only [okC_cnd, RV, RG, ↓reduceIte, Nat.reduceEqDiff, reduceCtorEq, Int.reduceEq, Nat.reduceMul, Nat.reduceAdd, Nat.reduceBEq, Int.reduceBEq, noteOk, List.mem_cons, List.not_mem_nil, true_or, or_true, or_false, true_and, and_true, Nat.reduceLT, Nat.reduceLeDiff, List.contains_cons, List.contains_nil]
        simp only [tf_31, ↓reduceIte, Nat.reduceEqDiff, reduceCtorEq, Int.reduceEq, Nat.reduceMul, Nat.reduceAdd, Nat.reduceBEq, Int.reduceBEq, noteOk, List.mem_cons, List.not_mem_nil, true_or, or_true, or_false, true_and, and_true, Nat.reduceLT, Nat.reduceLeDiff, List.contains_cons, List.contains_nil, h5, hneg]
        refine fin _ ?_ ?_
        · simp only [tf_31, ↓reduceIte, Nat.reduceEqDiff, reduceCtorEq, Int.reduceEq, Nat.reduceMul, Nat.reduceAdd, Nat.reduceBEq, Int.reduceBEq, noteOk, List.mem_cons, List.not_mem_nil, true_or, or_true, or_false, true_and, and_true, Nat.reduceLT, Nat.reduceLeDiff, List.contains_cons, List.contains_nil]
          rw [hn, if_neg g1]
        · simp only [tf_31, ↓reduceIte, Nat.reduceEqDiff, reduceCtorEq, Int.reduceEq, Nat.reduceMul, Nat.reduceAdd, Nat.reduceBEq, Int.reduceBEq, noteOk, List.mem_cons, List.not_mem_nil, true_or, or_true, or_false, true_and, and_true, Nat.reduceLT, Nat.reduceLeDiff, List.contains_cons, List.contains_nil, hA.get, r0]
  refine okC_region_g [(3, 12)] (by kernel_rfl) fun O hO ΨR hR => ?_
  have y3 : ∀ a, yieldedA O a 3 = boolOf (a.getT 12) := hO (3, 12) (by simp)
  by_cases hc : ∃ r, S = 45 :: r
  · obtain ⟨r, hr⟩ := hc
    have hx : S[0]? = some 45 := by rw [hr]; rfl
    have hix : indexA X 9 (str S) (int 0) = some (u8v 45) := index_str (n := 0) hx
    have e0 : decide ((S.length : Int) > 0) = true := decide_eq_true (by rw [hr]; simp)
    have hsl : ∀ H, sliceA X H 9 (str S) (some (int 1)) none none = some (str (S.drop 1)) := fun H => slice_from (l := 1) (by rw [hr]; simp)
    have hDd : S.drop 1 = D := by rw [hD, hr]; rfl
    simp only [tf_31, ↓reduceIte, Nat.reduceEqDiff, reduceCtorEq, Int.reduceEq, Nat.reduceMul, Nat.reduceAdd, Nat.reduceBEq, Int.reduceBEq, noteOk, List.mem_cons, List.not_mem_nil, true_or, or_true, or_false, true_and, and_true, Nat.reduceLT, Nat.reduceLeDiff, List.contains_cons, List.contains_nil, lenS, e0, y3, hix, bin8]
    refine hR _ _ (hΨ3 _ _ ?_)
    simp only [okC_cnd, RV, RG, ↓reduceIte, Nat.reduceEqDiff, reduceCtorEq, Int.reduceEq, Nat.reduceMul, Nat.reduceAdd, Nat.reduceBEq, Int.reduceBEq, noteOk, List.mem_cons, List.not_mem_nil, true_or, or_true, or_false, true_and, and_true, Nat.reduceLT, Nat.reduceLeDiff, List.contains_cons, List.contains_nil]
    simp only [tf_31, ↓reduceIte, Nat.reduceEqDiff, reduceCtorEq, Int.reduceEq, Nat.reduceMul, Nat.reduceAdd, Nat.reduceBEq, Int.reduceBEq, noteOk, List.mem_cons, List.not_mem_nil, true_or, or_true, or_false, true_and, and_true, Nat.reduceLT, Nat.reduceLeDiff, List.contains_cons, List.contains_nil, hsl, hDd]
    refine main _ ?_ ?_
    · simp only [tf_31, ↓reduceIte, Nat.reduceEqDiff, reduceCtorEq, Int.reduceEq, Nat.reduceMul, Nat.reduceAdd, Nat.reduceBEq, Int.reduceBEq, noteOk, List.mem_cons, List.not_mem_nil, true_or, or_true, or_false, true_and, and_true, Nat.reduceLT, Nat.reduceLeDiff, List.contains_cons, List.contains_nil]
    · simp only [tf_31, ↓reduceIte, Nat.reduceEqDiff, reduceCtorEq, Int.reduceEq, Nat.reduceMul, Nat.reduceAdd, Nat.reduceBEq, Int.reduceBEq, noteOk, List.mem_cons, List.not_mem_nil, true_or, or_true, or_false, true_and, and_true, Nat.reduceLT, Nat.reduceLeDiff, List.contains_cons, List.contains_nil]
  · have hDS' : D = S := by rw [hD]; exact digs_else fun r hr => hc ⟨r, hr⟩
    have fin : ∀ a', a'.getT 16 = .bool false → a'.getT 0 = str S → a'.getT 4 = str S → Ψ3 .normal a' s := by
      intro a' q16 q0 q4
      refine hΨ3 _ _ ?_
      simp only [okC_cnd, RV, RG, ↓reduceIte, Nat.reduceEqDiff, reduceCtorEq, Int.reduceEq, Nat.reduceMul, Nat.reduceAdd, Nat.reduceBEq, Int.reduceBEq, noteOk, List.mem_cons, List.not_mem_nil, true_or, or_true, or_false, true_and, and_true, Nat.reduceLT, Nat.reduceLeDiff, List.contains_cons, List.contains_nil, q16]
      simp only [tf_31, ↓reduceIte, Nat.reduceEqDiff, reduceCtorEq, Int.reduceEq, Nat.reduceMul, Nat.reduceAdd, Nat.reduceBEq, Int.reduceBEq, noteOk, List.mem_cons, List.not_mem_nil, true_or, or_true, or_false, true_and, and_true, Nat.reduceLT, Nat.reduceLeDiff, List.contains_cons, List.contains_nil]
      exact main _ q0 (by rw [hDS']; exact q4)
    by_cases hnil : S = []
    · have e0 : decide ((S.length : Int) > 0) = false := by rw [hnil]; rfl
      simp only [tf_31, ↓reduceIte, Nat.reduceEqDiff, reduceCtorEq, Int.reduceEq, Nat.reduceMul, Nat.reduceAdd, Nat.reduceBEq, Int.reduceBEq, noteOk, List.mem_cons, List.not_mem_nil, true_or, or_true, or_false, true_and, and_true, Nat.reduceLT, Nat.reduceLeDiff, List.contains_cons, List.contains_nil, lenS, e0, y3]
      refine hR _ _ (fin _ ?_ ?_ ?_)
      · simp only [tf_31, ↓reduceIte, Nat.reduceEqDiff, reduceCtorEq, Int.reduceEq, Nat.reduceMul, Nat.reduceAdd, Nat.reduceBEq, Int.reduceBEq, noteOk, List.mem_cons, List.not_mem_nil, true_or, or_true, or_false, true_and, and_true, Nat.reduceLT, Nat.reduceLeDiff, List.contains_cons, List.contains_nil]
      · simp only [tf_31, ↓reduceIte, Nat.reduceEqDiff, reduceCtorEq, Int.reduceEq, Nat.reduceMul, Nat.reduceAdd, Nat.reduceBEq, Int.reduceBEq, noteOk, List.mem_cons, List.not_mem_nil, true_or, or_true, or_false, true_and, and_true, Nat.reduceLT, Nat.reduceLeDiff, List.contains_cons, List.contains_nil]
      · simp only [tf_31, ↓reduceIte, Nat.reduceEqDiff, reduceCtorEq, Int.reduceEq, Nat.reduceMul, Nat.reduceAdd, Nat.reduceBEq, Int.reduceBEq, noteOk, List.mem_cons, List.not_mem_nil, true_or, or_true, or_false, true_and, and_true, Nat.reduceLT, Nat.reduceLeDiff, List.contains_cons, List.contains_nil]
    · have hl : 0 < S.length := List.length_pos_iff.2 hnil
      obtain ⟨c, hx⟩ : ∃ c, S[0]? = some c := ⟨_, List.getElem?_eq_getElem hl⟩
      have hix : indexA X 9 (str S) (int 0) = some (u8v c.toNat) := index_str (n := 0) hx
      have e0 : decide ((S.length : Int) > 0) = true := decide_eq_true (by omega)
      have e1 : ((c.toNat : Int) == 45) = false := by
        simp only [beq_eq_false_iff_ne, ne_eq]
        intro h
        cases S with
        | nil => cases hx
        | cons a r =>
          cases hx
          refine hc ⟨r, ?_⟩
          congr 1
          exact UInt8.toNat_inj.1 (show c.toNat = 45 by omega)
      simp only [tf_31, ↓reduceIte, Nat.reduceEqDiff, reduceCtorEq, Int.reduceEq, Nat.reduceMul, Nat.reduceAdd, Nat.reduceBEq, Int.reduceBEq, noteOk, List.mem_cons, List.not_mem_nil, true_or, or_true, or_false, true_and, and_true, Nat.reduceLT, Nat.reduceLeDiff, List.contains_cons, List.contains_nil, lenS, e0, y3, hix, bin8, e1]
      refine hR _ _ (fin _ ?_ ?_ ?_)
      · simp only [tf_31, ↓reduceIte, Nat.reduceEqDiff, reduceCtorEq, Int.reduceEq, Nat.reduceMul, Nat.reduceAdd, Nat.reduceBEq, Int.reduceBEq, noteOk, List.mem_cons, List.not_mem_nil, true_or, or_true, or_false, true_and, and_true, Nat.reduceLT, Nat.reduceLeDiff, List.contains_cons, List.contains_nil]
      · simp only [tf_31, ↓reduceIte, Nat.reduceEqDiff, reduceCtorEq, Int.reduceEq, Nat.reduceMul, Nat.reduceAdd, Nat.reduceBEq, Int.reduceBEq, noteOk, List.mem_cons, List.not_mem_nil, true_or, or_true, or_false, true_and, and_true, Nat.reduceLT, Nat.reduceLeDiff, List.contains_cons, List.contains_nil]
      · simp only [tf_31, ↓reduceIte, Nat.reduceEqDiff, reduceCtorEq, Int.reduceEq, Nat.reduceMul, Nat.reduceAdd, Nat.reduceBEq, Int.reduceBEq, noteOk, List.mem_cons, List.not_mem_nil, true_or, or_true, or_false, true_and, and_true, Nat.reduceLT, Nat.reduceLeDiff, List.contains_cons, List.contains_nil]
end
end Go.Dust
end
section
/- The reference's Text; the law's comparison of two lists. -/
namespace Go.Dust
open Go.Proofs
set_option maxRecDepth 100000
set_option maxHeartbeats 4000000
set_option linter.unusedSimpArgs false
set_option linter.unusedVariables false
theorem ftV_cells {s : St} {b off c : Nat} {L : List Ft} (h : Sl s 3 (.slice (some ⟨b, off, none⟩) L.length c) (L.flatMap ftV)) {j : Nat} (hj : j < L.length) :
    load1 s.look ⟨b, off + j * 3, none⟩ = some (int L[j].1) ∧ load1 s.look ⟨b, off + j * 3 + 1, none⟩ = some (int L[j].2.1) ∧ load1 s.look ⟨b, off + j * 3 + 2, none⟩ = some (int L[j].2.2) := by
  have hg := fun i (hi : i < 3) => ftV_get L j i hj hi
  refine ⟨?_, ?_, ?_⟩
  · exact h.load (i := j * 3) (hg 0 (by omega))
  · have := h.load (i := j * 3 + 1) (hg 1 (by omega))
    rwa [← Nat.add_assoc] at this
  · have := h.load (i := j * 3 + 2) (hg 2 (by omega))
    rwa [← Nat.add_assoc] at this
theorem c12 : ((12 : Nat) : Int) = 12 := rfl
section
variable {s : St} {Φ : Value → St → Prop}
theorem tf_6 : type_of% (And.intro @RC <| And.intro @RO <| And.intro @RD <| And.intro @RV <| And.intro @RB <| And.intro @RG <| And.intro @len_22 <| And.intro @ix_22 <| And.intro @fa_37_0 <| And.intro @ld_3 <| And.intro @len_45 <| And.intro @ix_45 <| And.intro @ld_9 <| And.intro @fa_37_1 <| @fa_37_2) := And.intro @RC <| And.intro @RO <| And.intro @RD <| And.intro @RV <| And.intro @RB <| And.intro @RG <| And.intro @len_22 <| And.intro @ix_22 <| And.intro @fa_37_0 <| And.intro @ld_3 <| And.intro @len_45 <| And.intro @ix_45 <| And.intro @ld_9 <| And.intro @fa_37_1 <| @fa_37_2
theorem rtext_ok {q : Bool} {a : Option Addr} {c : Nat} {L : List Ft} (hs : Ok s) (H : Sl s 3 (.slice a L.length c) (L.flatMap ftV)) (hn : L.length ≤ 100000) (hr : ∀ f ∈ L, in64 f.2.1 ∧ in64 f.2.2) (hΦ : ∀ s', Keeps [] s s' → Φ (textV L) s') : okF q X KT 6 [.slice a L.length c] s Φ := by
  refine okF_body rfl fn_6 rfl (rs := [.tmp 2, .tmp 3]) rfl (N := 56) rfl rfl ?_
  refine okC_seq_g fun Ψ0 hΨ0 hΨ0' => ?_
  simp only [tf_6, ↓reduceIte, Nat.reduceEqDiff, reduceCtorEq, Int.reduceEq, Nat.reduceMul, Nat.reduceAdd, Nat.reduceBEq, Int.reduceBEq, noteOk, List.mem_cons, List.not_mem_nil, true_or, or_true, or_false, true_and, and_true, Nat.reduceLT, Nat.reduceLeDiff, List.contains_cons, List.contains_nil]
  refine hΨ0 _ _ ?_
  refine okC_seq_g fun Ψ1 hΨ1 hΨ1' => ?_
  simp only [tf_6, ↓reduceIte, Nat.reduceEqDiff, reduceCtorEq, Int.reduceEq, Nat.reduceMul, Nat.reduceAdd, Nat.reduceBEq, Int.reduceBEq, noteOk, List.mem_cons, List.not_mem_nil, true_or, or_true, or_false, true_and, and_true, Nat.reduceLT, Nat.reduceLeDiff, List.contains_cons, List.contains_nil]
  refine hΨ1 _ _ ?_
  refine okC_seq_g fun Ψ2 hΨ2 hΨ2' => ?_
  refine okC_seq_g fun Ψ3 hΨ3 hΨ3' => ?_
  simp only [tf_6, ↓reduceIte, Nat.reduceEqDiff, reduceCtorEq, Int.reduceEq, Nat.reduceMul, Nat.reduceAdd, Nat.reduceBEq, Int.reduceBEq, noteOk, List.mem_cons, List.not_mem_nil, true_or, or_true, or_false, true_and, and_true, Nat.reduceLT, Nat.reduceLeDiff, List.contains_cons, List.contains_nil]
  refine hΨ3 _ _ ?_
  refine okC_block_g fun Ψ4 hΨ4 hΨ4e hΨ4' => ?_
  refine okC_cnt (n := L.length) 2 [2] [4] (fun j vs s' => vs = [str (ftText (L.take j))] ∧ Keeps [] s s' ∧ ∀ f ∈ L.take j, ftOk f) rfl (by omega) ?_ ?_ ?_ ?_ ?_
  · simp only [tf_6, ↓reduceIte, Nat.reduceEqDiff, reduceCtorEq, Int.reduceEq, Nat.reduceMul, Nat.reduceAdd, Nat.reduceBEq, Int.reduceBEq, noteOk, List.mem_cons, List.not_mem_nil, true_or, or_true, or_false, true_and, and_true, Nat.reduceLT, Nat.reduceLeDiff, List.contains_cons, List.contains_nil]
  · refine ⟨?_, .refl hs, fun f hf => by simp at hf⟩
    simp only [tf_6, ↓reduceIte, Nat.reduceEqDiff, reduceCtorEq, Int.reduceEq, Nat.reduceMul, Nat.reduceAdd, Nat.reduceBEq, Int.reduceBEq, noteOk, List.mem_cons, List.not_mem_nil, true_or, or_true, or_false, true_and, and_true, Nat.reduceLT, Nat.reduceLeDiff, List.contains_cons, List.contains_nil]
    rfl
  · rintro j a' s' hj hA hc hr Ψ w
    simp only [tf_6, ↓reduceIte, Nat.reduceEqDiff, reduceCtorEq, Int.reduceEq, Nat.reduceMul, Nat.reduceAdd, Nat.reduceBEq, Int.reduceBEq, noteOk, List.mem_cons, List.not_mem_nil, true_or, or_true, or_false, true_and, and_true, Nat.reduceLT, Nat.reduceLeDiff, List.contains_cons, List.contains_nil, hA.get, hc]
    refine w _ _ ?_ ?_ ?_ ?_
    · simp only [tf_6, ↓reduceIte, Nat.reduceEqDiff, reduceCtorEq, Int.reduceEq, Nat.reduceMul, Nat.reduceAdd, Nat.reduceBEq, Int.reduceBEq, noteOk, List.mem_cons, List.not_mem_nil, true_or, or_true, or_false, true_and, and_true, Nat.reduceLT, Nat.reduceLeDiff, List.contains_cons, List.contains_nil, Int.ofNat_lt]
    · simp only [tf_6, ↓reduceIte, Nat.reduceEqDiff, reduceCtorEq, Int.reduceEq, Nat.reduceMul, Nat.reduceAdd, Nat.reduceBEq, Int.reduceBEq, noteOk, List.mem_cons, List.not_mem_nil, true_or, or_true, or_false, true_and, and_true, Nat.reduceLT, Nat.reduceLeDiff, List.contains_cons, List.contains_nil, agr_put, hA]
    · simp only [tf_6, ↓reduceIte, Nat.reduceEqDiff, reduceCtorEq, Int.reduceEq, Nat.reduceMul, Nat.reduceAdd, Nat.reduceBEq, Int.reduceBEq, noteOk, List.mem_cons, List.not_mem_nil, true_or, or_true, or_false, true_and, and_true, Nat.reduceLT, Nat.reduceLeDiff, List.contains_cons, List.contains_nil, hc]
    · simp only [tf_6, ↓reduceIte, Nat.reduceEqDiff, reduceCtorEq, Int.reduceEq, Nat.reduceMul, Nat.reduceAdd, Nat.reduceBEq, Int.reduceBEq, noteOk, List.mem_cons, List.not_mem_nil, true_or, or_true, or_false, true_and, and_true, Nat.reduceLT, Nat.reduceLeDiff, List.contains_cons, List.contains_nil]
      exact hr
  · rintro j a' s' hj hA hc ⟨h4, hk, hok⟩ Ψ w w3
    simp only [List.map_cons, List.map_nil, List.cons.injEq, and_true] at h4
    obtain ⟨b, off, rfl⟩ := H.addr (by omega)
    obtain ⟨l0, l1, l2⟩ := ftV_cells (H.keep hk (by simp)) hj
    have hf : L[j] ∈ L := List.getElem_mem hj
    obtain ⟨r1, r2⟩ := hr _ hf
    have p1 : (0 : Int) ≤ (j : Int) := Int.natCast_nonneg _
    have p2 : (j : Int) < ((L.length : Nat) : Int) := by omega
    have bad : ¬ ftOk L[j] → ∀ a2 s2, Keeps [] s s2 → a2.getT 2 = str [] → a2.getT 3 = int 2 → Ψ .ret a2 s2 := by
      intro hno a2 s2 k2 q2 q3
      refine w3 _ _ _ (by simp) (by simp) (hΨ4' _ _ _ (by simp) (by simp) (hΨ2' _ _ _ (by simp) ?_))
      simp only [tf_6, ↓reduceIte, Nat.reduceEqDiff, reduceCtorEq, Int.reduceEq, Nat.reduceMul, Nat.reduceAdd, Nat.reduceBEq, Int.reduceBEq, noteOk, List.mem_cons, List.not_mem_nil, true_or, or_true, or_false, true_and, and_true, Nat.reduceLT, Nat.reduceLeDiff, List.contains_cons, List.contains_nil, q2, q3]
      have := hΦ s2 k2
      unfold textV at this
      rw [if_neg (fun h => hno (h _ hf))] at this
      exact this
    refine okC_seq_g fun Ψ5 hΨ5 hΨ5' => ?_
    refine okC_seq_g fun Ψ6 hΨ6 hΨ6' => ?_
    have ks := Keeps.skip (F := []) hk.ok 32
    refine okC_drawn_d [(11, 12)] [b] [(6, 18)] (by kernel_rfl) (by kernel_rfl) (by rfl) fun O hO ΨR hR => ?_
    have y6 : ∀ a, yieldedA O a 6 = boolOf (a.getT 18) := hO (6, 18) (by simp)
    obtain ⟨f, hfe⟩ : ∃ f, f = L[j] := ⟨_, rfl⟩
    rw [← hfe] at l0 l1 l2 bad r1 r2 hf
    obtain ⟨K, At, Ix⟩ := f
    have same : ∀ s2, Keeps [] (s'.skip 32) s2 → SameIn [b] (s'.skip 32) s2 := fun s2 k2 => sameIn_cons (same_of_load (s := s'.skip 32) l0 ks.ok k2 (by simp)) sameIn_nil
    by_cases h0 : K < 0
    · simp only [tf_6, ↓reduceIte, Nat.reduceEqDiff, reduceCtorEq, Int.reduceEq, Nat.reduceMul, Nat.reduceAdd, Nat.reduceBEq, Int.reduceBEq, noteOk, List.mem_cons, List.not_mem_nil, true_or, or_true, or_false, true_and, and_true, Nat.reduceLT, Nat.reduceLeDiff, List.contains_cons, List.contains_nil, hA.get, hc, p1, p2, l0, h0, and_self, addr_add, Int.toNat_natCast, decide_true, y6]
      refine hR _ _ (hΨ6 _ _ ?_)
      simp only [okC_cnd, RV, RG, ↓reduceIte, Nat.reduceEqDiff, reduceCtorEq, Int.reduceEq, Nat.reduceMul, Nat.reduceAdd, Nat.reduceBEq, Int.reduceBEq, noteOk, List.mem_cons, List.not_mem_nil, true_or, or_true, or_false, true_and, and_true, Nat.reduceLT, Nat.reduceLeDiff, List.contains_cons, List.contains_nil]
      refine okC_seq_g fun Ψ7 hΨ7 hΨ7' => ?_
      simp only [tf_6, ↓reduceIte, Nat.reduceEqDiff, reduceCtorEq, Int.reduceEq, Nat.reduceMul, Nat.reduceAdd, Nat.reduceBEq, Int.reduceBEq, noteOk, List.mem_cons, List.not_mem_nil, true_or, or_true, or_false, true_and, and_true, Nat.reduceLT, Nat.reduceLeDiff, List.contains_cons, List.contains_nil, k_no]
      refine hΨ7 _ _ ?_
      simp only [tf_6, ↓reduceIte, Nat.reduceEqDiff, reduceCtorEq, Int.reduceEq, Nat.reduceMul, Nat.reduceAdd, Nat.reduceBEq, Int.reduceBEq, noteOk, List.mem_cons, List.not_mem_nil, true_or, or_true, or_false, true_and, and_true, Nat.reduceLT, Nat.reduceLeDiff, List.contains_cons, List.contains_nil]
      refine hΨ5' _ _ _ (by simp) ?_
      refine bad (fun h => by have := h.1; simp only at this; omega) _ _ (hk.trans ks) ?_ ?_
      · simp only [tf_6, ↓reduceIte, Nat.reduceEqDiff, reduceCtorEq, Int.reduceEq, Nat.reduceMul, Nat.reduceAdd, Nat.reduceBEq, Int.reduceBEq, noteOk, List.mem_cons, List.not_mem_nil, true_or, or_true, or_false, true_and, and_true, Nat.reduceLT, Nat.reduceLeDiff, List.contains_cons, List.contains_nil]
      · simp only [tf_6, ↓reduceIte, Nat.reduceEqDiff, reduceCtorEq, Int.reduceEq, Nat.reduceMul, Nat.reduceAdd, Nat.reduceBEq, Int.reduceBEq, noteOk, List.mem_cons, List.not_mem_nil, true_or, or_true, or_false, true_and, and_true, Nat.reduceLT, Nat.reduceLeDiff, List.contains_cons, List.contains_nil]
    simp only [tf_6, ↓reduceIte, Nat.reduceEqDiff, reduceCtorEq, Int.reduceEq, Nat.reduceMul, Nat.reduceAdd, Nat.reduceBEq, Int.reduceBEq, noteOk, List.mem_cons, List.not_mem_nil, true_or, or_true, or_false, true_and, and_true, Nat.reduceLT, Nat.reduceLeDiff, List.contains_cons, List.contains_nil, hA.get, hc, p1, p2, l0, h0, and_self, addr_add, Int.toNat_natCast, decide_false, y6]
    refine okD_callx ?_ (names_ok ks.ok fun s2 k2 n2 c2 => ?_)
    · simp only [tf_6, ↓reduceIte, Nat.reduceEqDiff, reduceCtorEq, Int.reduceEq, Nat.reduceMul, Nat.reduceAdd, Nat.reduceBEq, Int.reduceBEq, noteOk, List.mem_cons, List.not_mem_nil, true_or, or_true, or_false, true_and, and_true, Nat.reduceLT, Nat.reduceLeDiff, List.contains_cons, List.contains_nil]
    have hk2 := (hk.trans ks).trans k2
    by_cases h12 : K ≥ 12
    · simp only [tf_6, ↓reduceIte, Nat.reduceEqDiff, reduceCtorEq, Int.reduceEq, Nat.reduceMul, Nat.reduceAdd, Nat.reduceBEq, Int.reduceBEq, noteOk, List.mem_cons, List.not_mem_nil, true_or, or_true, or_false, true_and, and_true, Nat.reduceLT, Nat.reduceLeDiff, List.contains_cons, List.contains_nil, c12, h12, decide_true, y6]
      refine ⟨same s2 k2, ?_⟩
      refine hR _ _ (hΨ6 _ _ ?_)
      simp only [okC_cnd, RV, RG, ↓reduceIte, Nat.reduceEqDiff, reduceCtorEq, Int.reduceEq, Nat.reduceMul, Nat.reduceAdd, Nat.reduceBEq, Int.reduceBEq, noteOk, List.mem_cons, List.not_mem_nil, true_or, or_true, or_false, true_and, and_true, Nat.reduceLT, Nat.reduceLeDiff, List.contains_cons, List.contains_nil]
      refine okC_seq_g fun Ψ7 hΨ7 hΨ7' => ?_
      simp only [tf_6, ↓reduceIte, Nat.reduceEqDiff, reduceCtorEq, Int.reduceEq, Nat.reduceMul, Nat.reduceAdd, Nat.reduceBEq, Int.reduceBEq, noteOk, List.mem_cons, List.not_mem_nil, true_or, or_true, or_false, true_and, and_true, Nat.reduceLT, Nat.reduceLeDiff, List.contains_cons, List.contains_nil, k_no]
      refine hΨ7 _ _ ?_
      simp only [tf_6, ↓reduceIte, Nat.reduceEqDiff, reduceCtorEq, Int.reduceEq, Nat.reduceMul, Nat.reduceAdd, Nat.reduceBEq, Int.reduceBEq, noteOk, List.mem_cons, List.not_mem_nil, true_or, or_true, or_false, true_and, and_true, Nat.reduceLT, Nat.reduceLeDiff, List.contains_cons, List.contains_nil]
      refine hΨ5' _ _ _ (by simp) ?_
      refine bad (fun h => by have := h.2; simp only at this; omega) _ _ hk2 ?_ ?_
      · simp only [tf_6, ↓reduceIte, Nat.reduceEqDiff, reduceCtorEq, Int.reduceEq, Nat.reduceMul, Nat.reduceAdd, Nat.reduceBEq, Int.reduceBEq, noteOk, List.mem_cons, List.not_mem_nil, true_or, or_true, or_false, true_and, and_true, Nat.reduceLT, Nat.reduceLeDiff, List.contains_cons, List.contains_nil]
      · simp only [tf_6, ↓reduceIte, Nat.reduceEqDiff, reduceCtorEq, Int.reduceEq, Nat.reduceMul, Nat.reduceAdd, Nat.reduceBEq, Int.reduceBEq, noteOk, List.mem_cons, List.not_mem_nil, true_or, or_true, or_false, true_and, and_true, Nat.reduceLT, Nat.reduceLeDiff, List.contains_cons, List.contains_nil]
    · simp only [tf_6, ↓reduceIte, Nat.reduceEqDiff, reduceCtorEq, Int.reduceEq, Nat.reduceMul, Nat.reduceAdd, Nat.reduceBEq, Int.reduceBEq, noteOk, List.mem_cons, List.not_mem_nil, true_or, or_true, or_false, true_and, and_true, Nat.reduceLT, Nat.reduceLeDiff, List.contains_cons, List.contains_nil, c12, h12, decide_false, y6]
      refine ⟨same s2 k2, ?_⟩
      refine hR _ _ (hΨ6 _ _ ?_)
      simp only [tf_6, ↓reduceIte, Nat.reduceEqDiff, reduceCtorEq, Int.reduceEq, Nat.reduceMul, Nat.reduceAdd, Nat.reduceBEq, Int.reduceBEq, noteOk, List.mem_cons, List.not_mem_nil, true_or, or_true, or_false, true_and, and_true, Nat.reduceLT, Nat.reduceLeDiff, List.contains_cons, List.contains_nil]
      refine hΨ5 _ _ ?_
      have hK0 : 0 ≤ K := by omega
      have hK12 : K < 12 := by omega
      obtain ⟨N, hN⟩ : ∃ N, N = nm12.getD K.toNat [] := ⟨_, rfl⟩
      have hNx : nm12[K.toNat]? = some N := by
        rw [hN, List.getD_eq_getElem?_getD, List.getElem?_eq_getElem (show K.toNat < nm12.length by show K.toNat < 12; omega)]; rfl
      have hNl : N.length ≤ 9 := by rw [hN]; exact nm12_le _
      have hAl : (Lib.itoa At).length ≤ 20 := itoa_len r1.1 r1.2
      have hIl : (Lib.itoa Ix).length ≤ 20 := itoa_len r2.1 r2.2
      have hTl := ftText_len (L := L.take j) fun f hf => hr f (List.mem_of_mem_take hf)
      rw [List.length_take] at hTl
      have ks2 : Keeps [] s2 (St.mk s2.heap (s2.next + 56) s2.clk) := Keeps.skip (F := []) hk2.ok 56
      refine okC_drawn_g [(6, 1), (14, 1), (6, 15), (8, 15), (22, 1), (22, 15), (6, 23), (8, 23)] [] (by kernel_rfl) (by kernel_rfl) fun O2 _ Ψ8 hΨ8 => ?_
      obtain ⟨S, hS⟩ : ∃ S, S = St.mk s2.heap (s2.next + 56) s2.clk := ⟨_, rfl⟩
      rw [← hS] at ks2
      have hix : indexAddrA X 22 (.slice (some ⟨b, off, none⟩) L.length c) (.int .i64 (j : Int)) = some (.pointer (some ⟨b, off + j * 3, none⟩)) := by
        rw [ix_22, if_pos ⟨p1, p2⟩, addr_add]; rfl
      have hix45 : ∀ m : Nat, indexAddrA X 45 (.slice (some ⟨m, 0, none⟩) 12 12) (.int .i64 K) = some (.pointer (some ⟨m, K.toNat, none⟩)) := by
        intro m
        rw [ix_45, if_pos ⟨hK0, hK12⟩, addr_add]
        simp
      have kS : Keeps [] s' S := (ks.trans k2).trans ks2
      have m0 := load_keep kS (a := ⟨b, off + j * 3, none⟩) (by simp) l0
      have r0 : a'.getT 0 = .slice (some ⟨b, off, none⟩) L.length c := by
        simp only [tf_6, ↓reduceIte, Nat.reduceEqDiff, reduceCtorEq, Int.reduceEq, Nat.reduceMul, Nat.reduceAdd, Nat.reduceBEq, Int.reduceBEq, noteOk, List.mem_cons, List.not_mem_nil, true_or, or_true, or_false, true_and, and_true, Nat.reduceLT, Nat.reduceLeDiff, List.contains_cons, List.contains_nil, hA.get]
      simp only [okC_seq, okC_region, okC_ret, okC_cond, okC_skip, okC_exit, okC_block, List.toList_toArray, okO_nil, okO_guard, o_move, o_assign, o_pick, o_load, o_binOp, o_unOp, o_convert, o_slice, o_indexAddr, o_nilCheck, o_fieldAddr, o_len, okO_call, eval_tmp, eval_const, reg_put, getT_args, List.getElem?_cons_zero, List.getElem?_cons_succ, Option.getD_some,
    Option.some.injEq, exists_eq_left', Nat.reduceEqDiff, if_true, if_false, reduceCtorEq, ↓reduceIte, bothNil, Bool.false_and, Bool.false_eq_true, nilCheckA, bin_add, bin_eql, bin_neq, bin_gtr, bin_geq, bin_lss, bin_leq, bin_sub, bin_mul, bin_quo, bin_rem, bin_shl, un_neg, un_not, Value.pointer.injEq, exists_and_left,
    res_tmp, res_nil, Option.map_some, Option.map_none, Value.bool.injEq, List.map_cons, List.map_nil, Int.reduceEq, Nat.reduceMul, List.size_toArray, List.length_cons, List.length_nil, Nat.reduceAdd, l_move, l_assign, l_load, l_binOp, l_nilCheck, l_fieldAddr, l_indexAddr, l_convert, l_pick, l_len, okL_call_iff, okL_nil_iff, look_mk, readsOf, r0, hc, h4]
      rw [← hS]
      refine names_ok ks2.ok fun T kT nT cT => ?_
      have kT' := kS.trans kT
      have m0' := load_keep kT' (a := ⟨b, off + j * 3, none⟩) (by simp) l0
      have m1 := load_keep kT' (a := ⟨b, off + j * 3 + 1, none⟩) (by simp) l1
      have m2 := load_keep kT' (a := ⟨b, off + j * 3 + 2, none⟩) (by simp) l2
      have hnm : load1 T.look ⟨S.next, K.toNat, none⟩ = some (str N) := cT.load (by rw [List.getElem?_map, hNx]; rfl)
      rw [show S.next = s2.next + 56 by rw [hS]] at hnm
      simp only [okC_seq, okC_region, okC_ret, okC_cond, okC_skip, okC_exit, okC_block, List.toList_toArray, okO_nil, okO_guard, o_move, o_assign, o_pick, o_load, o_binOp, o_unOp, o_convert, o_slice, o_indexAddr, o_nilCheck, o_fieldAddr, o_len, okO_call, eval_tmp, eval_const, reg_put, getT_args, List.getElem?_cons_zero, List.getElem?_cons_succ, Option.getD_some,
    Option.some.injEq, exists_eq_left', Nat.reduceEqDiff, if_true, if_false, reduceCtorEq, ↓reduceIte, bothNil, Bool.false_and, Bool.false_eq_true, nilCheckA, bin_add, bin_eql, bin_neq, bin_gtr, bin_geq, bin_lss, bin_leq, bin_sub, bin_mul, bin_quo, bin_rem, bin_shl, un_neg, un_not, Value.pointer.injEq, exists_and_left,
    res_tmp, res_nil, Option.map_some, Option.map_none, Value.bool.injEq, List.map_cons, List.map_nil, Int.reduceEq, Nat.reduceMul, List.size_toArray, List.length_cons, List.length_nil, Nat.reduceAdd, l_move, l_assign, l_load, l_binOp, l_nilCheck, l_fieldAddr, l_indexAddr, l_convert, l_pick, l_len, okL_call_iff, okL_nil_iff, look_mk, readsOf, r0, hc, hix, fa_37_0, fa_37_1, fa_37_2, ld_3, ld_9, m0', hix45, m1, hS]
      have ln : ∀ l : List UInt8, (l ++ [32]).length = l.length + 1 := fun l => by simp
      refine ⟨_, hnm, _, str_cat X T.look 9 _ [32] (by simp; omega), ?_⟩
      refine dec_is r1 ?_
      refine ⟨_, (if_neg (by simp [str])).trans (str_cat X T.look 9 _ _ (by simp only [List.length_append, List.length_cons, List.length_nil]; omega)), ?_⟩
      refine ⟨_, str_cat X T.look 9 _ [32] (by simp only [List.length_append, List.length_cons, List.length_nil]; omega), ?_⟩
      refine ⟨_, m2, ?_⟩
      refine dec_is r2 ?_
      refine ⟨_, (if_neg (by simp [str])).trans (str_cat X T.look 9 _ _ (by simp only [List.length_append, List.length_cons, List.length_nil]; omega)), ?_⟩
      refine ⟨_, str_cat X T.look 9 _ [10] (by simp only [List.length_append, List.length_cons, List.length_nil]; omega), ?_⟩
      refine ⟨_, (if_neg (by simp [str])).trans (str_cat X T.look 9 _ _ (by simp only [List.length_append, List.length_cons, List.length_nil]; omega)), ?_⟩
      have e1 : sameObj S T b = true := same_of_load (a := ⟨b, off + j * 3, none⟩) (load_keep kS (by simp) l0) ks2.ok kT (by simp)
      have e2 : sameObj T T b = true := same_of_load (a := ⟨b, off + j * 3, none⟩) m0' kT.ok (.refl (F := []) kT.ok) (by simp)
      have e3 : sameObj T T (s2.next + 56) = true := same_of_load (a := ⟨s2.next + 56, K.toNat, none⟩) hnm kT.ok (.refl (F := []) kT.ok) (by simp)
      rw [hS] at e1
      refine hΨ8 _ _ _ (logOk_step rfl rfl ?_ (logOk_step rfl rfl ?_ (logOk_step rfl rfl ?_ (logOk_step rfl rfl ?_ (logOk_step rfl rfl ?_ (logOk_step rfl rfl ?_ (logOk_step rfl rfl ?_ (logOk_step rfl rfl ?_ (logOk_nil _))))))))) ?_
      iterate 8
        · intro x hx
          simp only [nameOf, List.mem_singleton] at hx
          subst hx
          assumption
      refine (w _ _ ?_ ?_ ⟨?_, (hk.trans kT'), ?_⟩).1
      · simp only [tf_6, ↓reduceIte, Nat.reduceEqDiff, reduceCtorEq, Int.reduceEq, Nat.reduceMul, Nat.reduceAdd, Nat.reduceBEq, Int.reduceBEq, noteOk, List.mem_cons, List.not_mem_nil, true_or, or_true, or_false, true_and, and_true, Nat.reduceLT, Nat.reduceLeDiff, List.contains_cons, List.contains_nil, agr_put, hA]
      · simp only [tf_6, ↓reduceIte, Nat.reduceEqDiff, reduceCtorEq, Int.reduceEq, Nat.reduceMul, Nat.reduceAdd, Nat.reduceBEq, Int.reduceBEq, noteOk, List.mem_cons, List.not_mem_nil, true_or, or_true, or_false, true_and, and_true, Nat.reduceLT, Nat.reduceLeDiff, List.contains_cons, List.contains_nil, hc]
      · simp only [tf_6, ↓reduceIte, Nat.reduceEqDiff, reduceCtorEq, Int.reduceEq, Nat.reduceMul, Nat.reduceAdd, Nat.reduceBEq, Int.reduceBEq, noteOk, List.mem_cons, List.not_mem_nil, true_or, or_true, or_false, true_and, and_true, Nat.reduceLT, Nat.reduceLeDiff, List.contains_cons, List.contains_nil]
        have : L.take (j + 1) = L.take j ++ [(K, At, Ix)] := by rw [List.take_add_one, List.getElem?_eq_getElem hj, ← hfe]; rfl
        rw [this]
        unfold ftText
        rw [List.flatMap_append]
        simp [ftLine, hN]
      · intro f hf
        have : L.take (j + 1) = L.take j ++ [(K, At, Ix)] := by rw [List.take_add_one, List.getElem?_eq_getElem hj, ← hfe]; rfl
        rw [this] at hf
        rcases List.mem_append.1 hf with h | h
        · exact hok f h
        · rw [List.mem_singleton.1 h]; exact ⟨hK0, hK12⟩
  · rintro a' s' hA ⟨h4, hk, hok⟩
    simp only [List.map_cons, List.map_nil, List.cons.injEq, and_true] at h4
    refine hΨ4e _ _ (hΨ2 _ _ ?_)
    rw [List.take_length] at h4 hok
    refine okC_seq_g fun Ψ8 hΨ8 hΨ8' => ?_
    simp only [tf_6, ↓reduceIte, Nat.reduceEqDiff, reduceCtorEq, Int.reduceEq, Nat.reduceMul, Nat.reduceAdd, Nat.reduceBEq, Int.reduceBEq, noteOk, List.mem_cons, List.not_mem_nil, true_or, or_true, or_false, true_and, and_true, Nat.reduceLT, Nat.reduceLeDiff, List.contains_cons, List.contains_nil, h4]
    refine hΨ8 _ _ ?_
    simp only [tf_6, ↓reduceIte, Nat.reduceEqDiff, reduceCtorEq, Int.reduceEq, Nat.reduceMul, Nat.reduceAdd, Nat.reduceBEq, Int.reduceBEq, noteOk, List.mem_cons, List.not_mem_nil, true_or, or_true, or_false, true_and, and_true, Nat.reduceLT, Nat.reduceLeDiff, List.contains_cons, List.contains_nil]
    have := hΦ s' hk
    unfold textV at this
    rw [if_pos hok] at this
    exact this
end
end Go.Dust
end
section
/- The law's comparison of two equal lists. -/
namespace Go.Dust
open Go.Proofs
set_option maxRecDepth 100000
set_option maxHeartbeats 4000000
set_option linter.unusedSimpArgs false
set_option linter.unusedVariables false
theorem ftV_len (L : List Ft) : (L.flatMap ftV).length = L.length * 3 := by
  induction L with
  | nil => rfl
  | cons f M ih => rw [List.flatMap_cons, List.length_append, ih]; simp [ftV]; omega
theorem ftV_three (L : List Ft) {j : Nat} (hj : j < L.length) : ((L.flatMap ftV).drop (j * 3)).take 3 = ftV L[j] := by
  apply List.ext_getElem?
  intro i
  by_cases hi : i < 3
  · rw [List.getElem?_take_of_lt hi, List.getElem?_drop, ftV_get L j i hj hi]
  · rw [List.getElem?_eq_none (by rw [List.length_take]; omega), List.getElem?_eq_none (by simp [ftV]; omega)]
section
variable {q : Bool} {s : St} {Φ : Value → St → Prop}
theorem tf_9 : type_of% (And.intro @RC <| And.intro @RO <| And.intro @RD <| And.intro @RV <| And.intro @RB <| And.intro @RG <| And.intro @len_22 <| And.intro @ix_22 <| And.intro @ld_37 <| And.intro @eqS_37 <| @nee_37) := And.intro @RC <| And.intro @RO <| And.intro @RD <| And.intro @RV <| And.intro @RB <| And.intro @RG <| And.intro @len_22 <| And.intro @ix_22 <| And.intro @ld_37 <| And.intro @eqS_37 <| @nee_37
theorem faults_ok (hs : Ok s) {va vb : Option Addr} {vc wc : Nat} {l : List Ft} (hl : l.length < 1000000) (B1 : Sl s 3 (.slice va l.length vc) (l.flatMap ftV)) (B2 : Sl s 3 (.slice vb l.length wc) (l.flatMap ftV)) (hΦ : ∀ s', Keeps [] s s' → Φ (.bool true) s') : okF q X KT 9 [.slice va l.length vc, .slice vb l.length wc] s Φ := by
  refine okF_body rfl fn_9 rfl (rs := [.tmp 4]) rfl (N := 26) rfl rfl ?_
  refine okC_seq_g fun Ψ0 hΨ0 hΨ0' => ?_
  simp only [tf_9, ↓reduceIte, Nat.reduceEqDiff, reduceCtorEq, Int.reduceEq, Nat.reduceMul, Nat.reduceAdd, Nat.reduceBEq, Int.reduceBEq, noteOk, List.mem_cons, List.not_mem_nil, true_or, or_true, or_false, true_and, and_true, Nat.reduceLT, Nat.reduceLeDiff, List.contains_cons, List.contains_nil]
  refine hΨ0 _ _ ?_
  refine okC_seq_g fun Ψ1 hΨ1 hΨ1' => ?_
  refine okC_seq_g fun Ψ2 hΨ2 hΨ2' => ?_
  simp only [tf_9, ↓reduceIte, Nat.reduceEqDiff, reduceCtorEq, Int.reduceEq, Nat.reduceMul, Nat.reduceAdd, Nat.reduceBEq, Int.reduceBEq, noteOk, List.mem_cons, List.not_mem_nil, true_or, or_true, or_false, true_and, and_true, Nat.reduceLT, Nat.reduceLeDiff, List.contains_cons, List.contains_nil, beq_self_eq_true]
  refine hΨ2 _ _ ?_
  simp only [tf_9, ↓reduceIte, Nat.reduceEqDiff, reduceCtorEq, Int.reduceEq, Nat.reduceMul, Nat.reduceAdd, Nat.reduceBEq, Int.reduceBEq, noteOk, List.mem_cons, List.not_mem_nil, true_or, or_true, or_false, true_and, and_true, Nat.reduceLT, Nat.reduceLeDiff, List.contains_cons, List.contains_nil]
  refine hΨ1 _ _ ?_
  refine okC_seq_g fun Ψ3 hΨ3 hΨ3' => ?_
  refine okC_seq_g fun Ψ4 hΨ4 hΨ4' => ?_
  simp only [tf_9, ↓reduceIte, Nat.reduceEqDiff, reduceCtorEq, Int.reduceEq, Nat.reduceMul, Nat.reduceAdd, Nat.reduceBEq, Int.reduceBEq, noteOk, List.mem_cons, List.not_mem_nil, true_or, or_true, or_false, true_and, and_true, Nat.reduceLT, Nat.reduceLeDiff, List.contains_cons, List.contains_nil]
  refine hΨ4 _ _ ?_
  refine okC_block_g fun Ψ5 hΨ5 hΨ5e hΨ5' => ?_
  refine okC_cnt (n := l.length) 11 [4, 5] [] (fun _ _ s' => Keeps [] s s') rfl (by omega) (by simp only [reg_put, ↓reduceIte]) (.refl hs) ?_ ?_ ?_
  · intro j a' s' hj hA h5 hk Ψ w
    simp only [tf_9, ↓reduceIte, Nat.reduceEqDiff, reduceCtorEq, Int.reduceEq, Nat.reduceMul, Nat.reduceAdd, Nat.reduceBEq, Int.reduceBEq, noteOk, List.mem_cons, List.not_mem_nil, true_or, or_true, or_false, true_and, and_true, Nat.reduceLT, Nat.reduceLeDiff, List.contains_cons, List.contains_nil, hA.get, h5]
    refine w _ _ ?_ ?_ ?_ hk
    all_goals simp only [tf_9, ↓reduceIte, Nat.reduceEqDiff, reduceCtorEq, Int.reduceEq, Nat.reduceMul, Nat.reduceAdd, Nat.reduceBEq, Int.reduceBEq, noteOk, List.mem_cons, List.not_mem_nil, true_or, or_true, or_false, true_and, and_true, Nat.reduceLT, Nat.reduceLeDiff, List.contains_cons, List.contains_nil, agr_put, hA, h5, Int.ofNat_lt]
  · intro j a' s' hj hA h5 hk Ψ w w3
    obtain ⟨b1, o1, rfl⟩ := B1.addr (by omega)
    obtain ⟨b2, o2, rfl⟩ := B2.addr (by omega)
    have p1 : (0 : Int) ≤ (j : Int) := Int.natCast_nonneg _
    have p2 : (j : Int) < (l.length : Int) := by omega
    have h3 : j * 3 + 3 ≤ (l.flatMap ftV).length := by rw [ftV_len]; omega
    have g1 := (B1.keep hk (by simp)).loadN (i := j * 3) (k := 3) (by omega) h3
    have g2 := (B2.keep hk (by simp)).loadN (i := j * 3) (k := 3) (by omega) h3
    rw [ftV_three l hj] at g1 g2
    unfold ftV at g1 g2
    refine okC_seq_g fun Ψ6 hΨ6 hΨ6' => ?_
    refine okC_drawn_d [] [] [] (by kernel_rfl) (by kernel_rfl) (by rfl) fun O hO ΨR hR => ?_
    simp only [tf_9, ↓reduceIte, Nat.reduceEqDiff, reduceCtorEq, Int.reduceEq, Nat.reduceMul, Nat.reduceAdd, Nat.reduceBEq, Int.reduceBEq, noteOk, List.mem_cons, List.not_mem_nil, true_or, or_true, or_false, true_and, and_true, Nat.reduceLT, Nat.reduceLeDiff, List.contains_cons, List.contains_nil, hA.get, h5, p1, p2, and_self, addr_add, Int.toNat_natCast, g1, g2, beq_self_eq_true, Bool.and_self]
    refine hR _ _ (hΨ6 _ _ ?_)
    simp only [tf_9, ↓reduceIte, Nat.reduceEqDiff, reduceCtorEq, Int.reduceEq, Nat.reduceMul, Nat.reduceAdd, Nat.reduceBEq, Int.reduceBEq, noteOk, List.mem_cons, List.not_mem_nil, true_or, or_true, or_false, true_and, and_true, Nat.reduceLT, Nat.reduceLeDiff, List.contains_cons, List.contains_nil]
    refine (w _ _ ?_ ?_ (hk.then_skip _)).1
    all_goals simp only [tf_9, ↓reduceIte, Nat.reduceEqDiff, reduceCtorEq, Int.reduceEq, Nat.reduceMul, Nat.reduceAdd, Nat.reduceBEq, Int.reduceBEq, noteOk, List.mem_cons, List.not_mem_nil, true_or, or_true, or_false, true_and, and_true, Nat.reduceLT, Nat.reduceLeDiff, List.contains_cons, List.contains_nil, agr_put, hA, h5]
  · intro a' s' hA hk
    refine hΨ5e _ _ (hΨ3 _ _ ?_)
    simp only [tf_9, ↓reduceIte, Nat.reduceEqDiff, reduceCtorEq, Int.reduceEq, Nat.reduceMul, Nat.reduceAdd, Nat.reduceBEq, Int.reduceBEq, noteOk, List.mem_cons, List.not_mem_nil, true_or, or_true, or_false, true_and, and_true, Nat.reduceLT, Nat.reduceLeDiff, List.contains_cons, List.contains_nil]
    exact hΦ s' hk
end
end Go.Dust
end
