/- UL Dy Dz0 -/
import Derived.Test.YtelmjodchophjaaGreatDoorM
import Derived.Test.YtelmjodchophjaaGreatDoorI
set_option linter.unusedVariables false
set_option linter.unusedSimpArgs false
section
/- The two laws. -/
namespace Go.Dust
open Go.Proofs
set_option maxRecDepth 100000
set_option maxHeartbeats 8000000
set_option linter.unusedSimpArgs false
set_option linter.unusedVariables false
/-- A slice that came in: nil, or a block that lies. -/
def Came (s : St) (a : Option Addr) (c : Nat) : Prop := (a = none ∧ c = 0) ∨ ∃ b off, a = some ⟨b, off, none⟩ ∧ ∃ c z n e ro ver, s.look b = some (.cells c z n e false ro ver)
theorem slice_head {s : St} {a : Option Addr} {n c h : Nat} (hc : Came s a c) (hn : n ≤ c) (h2 : h ≤ n) : sliceA X s.look 22 (.slice a n c) none (some (int h)) none = some (.slice a h c) := by
  have hd0 : ((X.ty 22).map fun i => i.desc) = some (.slice 37) := by kernel_rfl
  have he0 : ((X.ty 37).map fun i => i.size) = some 3 := by kernel_rfl
  obtain ⟨i, hi, hd⟩ := Option.map_eq_some_iff.1 hd0
  obtain ⟨j, hj, _⟩ := Option.map_eq_some_iff.1 he0
  rcases hc with ⟨rfl, rfl⟩ | ⟨b, off, rfl, cc, z, m, e0, ro, ver, ho⟩
  · have e1 : n = 0 := by omega
    have e2 : h = 0 := by omega
    subst e1 e2
    have hb : bounds2 0 0 none (some ((0 : Nat) : Int)) = some (0, 0) := rfl
    have ho' : optInt (some (int ((0 : Nat) : Int))) = some (some ((0 : Nat) : Int)) := rfl
    have ho2 : optInt none = some none := rfl
    simp only [sliceA, hi, hd, hj, ho', ho2, hb]
  · have hb : bounds2 n c none (some (h : Int)) = some (0, h) := by
      unfold bounds2
      simp only
      rw [if_pos (by omega)]
      simp only [Int.toNat_natCast]
    have ho' : optInt (some (int h)) = some (some (h : Int)) := rfl
    have ho2 : optInt none = some none := rfl
    simp only [sliceA, hi, hd, hj, ho', ho2, hb, ho]
    rw [if_pos ⟨Nat.zero_le _, by omega⟩, Nat.zero_mul, addr_add]
    simp
section
variable {q : Bool} {s : St} {Φ : Value → St → Prop}
theorem flat_take (L : List Ft) (n : Nat) : (L.take n).flatMap ftV = (L.flatMap ftV).take (n * 3) := by
  induction L generalizing n with
  | nil => simp
  | cons f L ih =>
    cases n with
    | zero => simp
    | succ n =>
      have hf : (ftV f).length = 3 := rfl
      rw [List.take_succ_cons, List.flatMap_cons, List.flatMap_cons, ih, List.take_append, hf, List.take_of_length_le (show (ftV f).length ≤ (n + 1) * 3 by omega), show (n + 1) * 3 - 3 = n * 3 by omega]
theorem flat_len : ∀ L : List Ft, (L.flatMap ftV).length = L.length * 3
  | [] => rfl
  | f :: L => by
    have hf : (ftV f).length = 3 := rfl
    rw [List.flatMap_cons, List.length_append, flat_len L, List.length_cons, hf]
    omega
theorem Sl.head {a : Option Addr} {c : Nat} {L : List Ft} (h : Sl s 3 (.slice a L.length c) (L.flatMap ftV)) (n : Nat) : Sl s 3 (.slice a (L.take n).length c) ((L.take n).flatMap ftV) := by
  by_cases h0 : 0 < (L.take n).length
  · obtain ⟨b, off, rfl⟩ := h.addr (show 0 < L.length by rw [List.length_take] at h0; omega)
    refine .cells (flat_len _) fun i hi => ?_
    rw [flat_take] at hi ⊢
    have hi' := hi
    rw [List.length_take] at hi'
    rw [List.getElem?_take_of_lt (by omega), List.getElem?_eq_getElem (by omega)]
    exact h.load (List.getElem?_eq_getElem (by omega))
  · rw [List.length_eq_zero_iff.1 (Nat.eq_zero_of_not_pos h0)]
    exact .nil a c
theorem textV_is (M : List Ft) : ∃ x0 z0, textV M = .tuple #[str x0, int z0] ∧ (((∀ f ∈ M, ftOk f) ∧ x0 = ftText M ∧ z0 = 0) ∨ z0 = 2) := by
  unfold textV
  split
  · rename_i h
    exact ⟨_, _, rfl, .inl ⟨h, rfl, rfl⟩⟩
  · exact ⟨_, _, rfl, .inr rfl⟩
theorem short_not {M : List Ft} (h : M.length ≤ 200) : ¬ tooLong (ftText M) := by
  unfold tooLong
  rw [ftText_count]
  omega
theorem tf_3 : type_of% (And.intro @RC <| And.intro @RO <| And.intro @RD <| And.intro @RV <| And.intro @RB <| And.intro @RG <| @len_22) := And.intro @RC <| And.intro @RO <| And.intro @RD <| And.intro @RV <| And.intro @RB <| And.intro @RG <| @len_22
theorem vtexts_ok {a : Option Addr} {c : Nat} {L : List Ft} (hs : Ok s) (G : GlobAt s) (hL : L.length ≤ 9223372036854775807) (H : Sl s 3 (.slice a L.length c) (L.flatMap ftV)) (hc : L.length ≤ c) (hcm : Came s a c) (hr : ∀ f ∈ L, in64 f.2.1 ∧ in64 f.2.2) (hΦ : ∀ s', Φ (.bool true) s') : okF q X KT 3 [.slice a L.length c] s Φ := by
  obtain ⟨M, hM⟩ : ∃ M, M = L.take 200 := ⟨_, rfl⟩
  have hMl : M.length ≤ 200 := by rw [hM, List.length_take]; omega
  have hML : M.length ≤ L.length := by rw [hM, List.length_take]; omega
  have hmin : min (L.length : Int) 200 = (M.length : Int) := by rw [hM, List.length_take]; omega
  have e1 := slice_head hcm hc hML
  have HM : Sl s 3 (.slice a M.length c) (M.flatMap ftV) := by rw [hM]; exact Sl.head H 200
  have hr : ∀ f ∈ M, in64 f.2.1 ∧ in64 f.2.2 := fun f hf => hr f (List.mem_of_mem_take (by rw [hM] at hf; exact hf))
  refine okF_body rfl fn_3 rfl (rs := [.tmp 2]) rfl (N := 50) rfl rfl ?_
  refine okC_seq_g fun Ψ0 hΨ0 hΨ0' => ?_
  simp only [tf_3, ↓reduceIte, Nat.reduceEqDiff, reduceCtorEq, Int.reduceEq, Nat.reduceMul, Nat.reduceAdd, Nat.reduceBEq, Int.reduceBEq, noteOk, List.mem_cons, List.not_mem_nil, true_or, or_true, or_false, true_and, and_true, Nat.reduceLT, Nat.reduceLeDiff, List.contains_cons, List.contains_nil]
  refine hΨ0 _ _ ?_
  refine okC_seq_g fun Ψ1 hΨ1 hΨ1' => ?_
  simp only [tf_3, ↓reduceIte, Nat.reduceEqDiff, reduceCtorEq, Int.reduceEq, Nat.reduceMul, Nat.reduceAdd, Nat.reduceBEq, Int.reduceBEq, noteOk, List.mem_cons, List.not_mem_nil, true_or, or_true, or_false, true_and, and_true, Nat.reduceLT, Nat.reduceLeDiff, List.contains_cons, List.contains_nil, hmin, e1]
  refine hΨ1 _ _ ?_
  refine okC_seq_g fun Ψ2 hΨ2 hΨ2' => ?_
  simp only [tf_3, ↓reduceIte, Nat.reduceEqDiff, reduceCtorEq, Int.reduceEq, Nat.reduceMul, Nat.reduceAdd, Nat.reduceBEq, Int.reduceBEq, noteOk, List.mem_cons, List.not_mem_nil, true_or, or_true, or_false, true_and, and_true, Nat.reduceLT, Nat.reduceLeDiff, List.contains_cons, List.contains_nil]
  refine okO_callx ?_ (text_ok (L := M) ⟨⟨a, c, rfl, HM⟩, G, by omega, hr⟩ ?_)
  · simp only [tf_3, ↓reduceIte, Nat.reduceEqDiff, reduceCtorEq, Int.reduceEq, Nat.reduceMul, Nat.reduceAdd, Nat.reduceBEq, Int.reduceBEq, noteOk, List.mem_cons, List.not_mem_nil, true_or, or_true, or_false, true_and, and_true, Nat.reduceLT, Nat.reduceLeDiff, List.contains_cons, List.contains_nil]
  obtain ⟨x0, z0, hv, hz⟩ := textV_is M
  rw [hv]
  simp only [tf_3, ↓reduceIte, Nat.reduceEqDiff, reduceCtorEq, Int.reduceEq, Nat.reduceMul, Nat.reduceAdd, Nat.reduceBEq, Int.reduceBEq, noteOk, List.mem_cons, List.not_mem_nil, true_or, or_true, or_false, true_and, and_true, Nat.reduceLT, Nat.reduceLeDiff, List.contains_cons, List.contains_nil]
  refine hΨ2 _ _ ?_
  refine okC_seq_g fun Ψ3 hΨ3 hΨ3' => ?_
  simp only [tf_3, ↓reduceIte, Nat.reduceEqDiff, reduceCtorEq, Int.reduceEq, Nat.reduceMul, Nat.reduceAdd, Nat.reduceBEq, Int.reduceBEq, noteOk, List.mem_cons, List.not_mem_nil, true_or, or_true, or_false, true_and, and_true, Nat.reduceLT, Nat.reduceLeDiff, List.contains_cons, List.contains_nil]
  refine okO_callx ?_ (rtext_ok (L := M) hs HM (by omega) hr fun s1 k1 => ?_)
  · simp only [tf_3, ↓reduceIte, Nat.reduceEqDiff, reduceCtorEq, Int.reduceEq, Nat.reduceMul, Nat.reduceAdd, Nat.reduceBEq, Int.reduceBEq, noteOk, List.mem_cons, List.not_mem_nil, true_or, or_true, or_false, true_and, and_true, Nat.reduceLT, Nat.reduceLeDiff, List.contains_cons, List.contains_nil]
  rw [hv]
  simp only [tf_3, ↓reduceIte, Nat.reduceEqDiff, reduceCtorEq, Int.reduceEq, Nat.reduceMul, Nat.reduceAdd, Nat.reduceBEq, Int.reduceBEq, noteOk, List.mem_cons, List.not_mem_nil, true_or, or_true, or_false, true_and, and_true, Nat.reduceLT, Nat.reduceLeDiff, List.contains_cons, List.contains_nil]
  refine hΨ3 _ _ ?_
  refine okC_seq_g fun Ψ4 hΨ4 hΨ4' => ?_
  refine okC_seq_g fun Ψ5 hΨ5 hΨ5' => ?_
  refine okC_region_g [(3, 27)] (by kernel_rfl) fun O hO ΨR hR => ?_
  have y3 : ∀ a, yieldedA O a 3 = boolOf (a.getT 27) := hO (3, 27) (by simp)
  have n0 : ∀ z : Int, (z == z) = true := fun z => beq_self_eq_true z
  simp only [tf_3, ↓reduceIte, Nat.reduceEqDiff, reduceCtorEq, Int.reduceEq, Nat.reduceMul, Nat.reduceAdd, Nat.reduceBEq, Int.reduceBEq, noteOk, List.mem_cons, List.not_mem_nil, true_or, or_true, or_false, true_and, and_true, Nat.reduceLT, Nat.reduceLeDiff, List.contains_cons, List.contains_nil, ne_str, bn_s, beq_self_eq_true, Bool.not_true, y3]
  refine hR _ _ (hΨ5 _ _ ?_)
  simp only [tf_3, ↓reduceIte, Nat.reduceEqDiff, reduceCtorEq, Int.reduceEq, Nat.reduceMul, Nat.reduceAdd, Nat.reduceBEq, Int.reduceBEq, noteOk, List.mem_cons, List.not_mem_nil, true_or, or_true, or_false, true_and, and_true, Nat.reduceLT, Nat.reduceLeDiff, List.contains_cons, List.contains_nil]
  refine hΨ4 _ _ ?_
  refine okC_seq_g fun Ψ6 hΨ6 hΨ6' => ?_
  refine okC_seq_g fun Ψ7 hΨ7 hΨ7' => ?_
  rcases hz with ⟨hg, rfl, rfl⟩ | rfl
  · have hgood : ∀ f ∈ M, ftGood f := fun f hf => ⟨hg f hf, hr f hf⟩
    have hlen := ftText_len hr
    simp only [tf_3, ↓reduceIte, Nat.reduceEqDiff, reduceCtorEq, Int.reduceEq, Nat.reduceMul, Nat.reduceAdd, Nat.reduceBEq, Int.reduceBEq, noteOk, List.mem_cons, List.not_mem_nil, true_or, or_true, or_false, true_and, and_true, Nat.reduceLT, Nat.reduceLeDiff, List.contains_cons, List.contains_nil]
    refine hΨ7 _ _ ?_
    simp only [tf_3, ↓reduceIte, Nat.reduceEqDiff, reduceCtorEq, Int.reduceEq, Nat.reduceMul, Nat.reduceAdd, Nat.reduceBEq, Int.reduceBEq, noteOk, List.mem_cons, List.not_mem_nil, true_or, or_true, or_false, true_and, and_true, Nat.reduceLT, Nat.reduceLeDiff, List.contains_cons, List.contains_nil]
    refine hΨ6 _ _ ?_
    refine okC_seq_g fun Ψ8 hΨ8 hΨ8' => ?_
    simp only [tf_3, ↓reduceIte, Nat.reduceEqDiff, reduceCtorEq, Int.reduceEq, Nat.reduceMul, Nat.reduceAdd, Nat.reduceBEq, Int.reduceBEq, noteOk, List.mem_cons, List.not_mem_nil, true_or, or_true, or_false, true_and, and_true, Nat.reduceLT, Nat.reduceLeDiff, List.contains_cons, List.contains_nil]
    refine okO_callx ?_ (parse_ok (S := ftText M) k1.ok (G.keep k1 (by simp)) (by omega) (fun h => absurd h (short_not hMl)) (fun _ M' hM' e a2 c2 s2 k2 H2 => ?_) (fun _ no => absurd rfl (no M hgood)))
    · simp only [tf_3, ↓reduceIte, Nat.reduceEqDiff, reduceCtorEq, Int.reduceEq, Nat.reduceMul, Nat.reduceAdd, Nat.reduceBEq, Int.reduceBEq, noteOk, List.mem_cons, List.not_mem_nil, true_or, or_true, or_false, true_and, and_true, Nat.reduceLT, Nat.reduceLeDiff, List.contains_cons, List.contains_nil]
    obtain rfl := ftText_inj hgood hM' e
    simp only [tf_3, ↓reduceIte, Nat.reduceEqDiff, reduceCtorEq, Int.reduceEq, Nat.reduceMul, Nat.reduceAdd, Nat.reduceBEq, Int.reduceBEq, noteOk, List.mem_cons, List.not_mem_nil, true_or, or_true, or_false, true_and, and_true, Nat.reduceLT, Nat.reduceLeDiff, List.contains_cons, List.contains_nil]
    refine hΨ8 _ _ ?_
    refine okC_seq_g fun Ψ9 hΨ9 hΨ9' => ?_
    refine okC_region_g [(2, 42), (7, 47)] (by kernel_rfl) fun O hO ΨR hR => ?_
    have y2 : ∀ a, yieldedA O a 2 = boolOf (a.getT 42) := hO (2, 42) (by simp)
    have y7 : ∀ a, yieldedA O a 7 = boolOf (a.getT 47) := hO (7, 47) (by simp)
    simp only [tf_3, ↓reduceIte, Nat.reduceEqDiff, reduceCtorEq, Int.reduceEq, Nat.reduceMul, Nat.reduceAdd, Nat.reduceBEq, Int.reduceBEq, noteOk, List.mem_cons, List.not_mem_nil, true_or, or_true, or_false, true_and, and_true, Nat.reduceLT, Nat.reduceLeDiff, List.contains_cons, List.contains_nil, beq_self_eq_true, y2, y7]
    refine okO_callx ?_ (faults_ok (l := M) k2.ok (by omega) H2 ((HM.keep k1 (by simp)).keep k2 (by simp)) fun s3 k3 => ?_)
    · simp only [tf_3, ↓reduceIte, Nat.reduceEqDiff, reduceCtorEq, Int.reduceEq, Nat.reduceMul, Nat.reduceAdd, Nat.reduceBEq, Int.reduceBEq, noteOk, List.mem_cons, List.not_mem_nil, true_or, or_true, or_false, true_and, and_true, Nat.reduceLT, Nat.reduceLeDiff, List.contains_cons, List.contains_nil, beq_self_eq_true, y2, y7]
    simp only [tf_3, ↓reduceIte, Nat.reduceEqDiff, reduceCtorEq, Int.reduceEq, Nat.reduceMul, Nat.reduceAdd, Nat.reduceBEq, Int.reduceBEq, noteOk, List.mem_cons, List.not_mem_nil, true_or, or_true, or_false, true_and, and_true, Nat.reduceLT, Nat.reduceLeDiff, List.contains_cons, List.contains_nil, beq_self_eq_true, y2, y7]
    refine okO_callx ?_ (awake_ok ?_)
    · simp only [tf_3, ↓reduceIte, Nat.reduceEqDiff, reduceCtorEq, Int.reduceEq, Nat.reduceMul, Nat.reduceAdd, Nat.reduceBEq, Int.reduceBEq, noteOk, List.mem_cons, List.not_mem_nil, true_or, or_true, or_false, true_and, and_true, Nat.reduceLT, Nat.reduceLeDiff, List.contains_cons, List.contains_nil, beq_self_eq_true, y2, y7]
    simp only [tf_3, ↓reduceIte, Nat.reduceEqDiff, reduceCtorEq, Int.reduceEq, Nat.reduceMul, Nat.reduceAdd, Nat.reduceBEq, Int.reduceBEq, noteOk, List.mem_cons, List.not_mem_nil, true_or, or_true, or_false, true_and, and_true, Nat.reduceLT, Nat.reduceLeDiff, List.contains_cons, List.contains_nil, beq_self_eq_true, y2, y7]
    refine hR _ _ (hΨ9 _ _ ?_)
    simp only [tf_3, ↓reduceIte, Nat.reduceEqDiff, reduceCtorEq, Int.reduceEq, Nat.reduceMul, Nat.reduceAdd, Nat.reduceBEq, Int.reduceBEq, noteOk, List.mem_cons, List.not_mem_nil, true_or, or_true, or_false, true_and, and_true, Nat.reduceLT, Nat.reduceLeDiff, List.contains_cons, List.contains_nil]
    exact hΦ _
  · simp only [tf_3, ↓reduceIte, Nat.reduceEqDiff, reduceCtorEq, Int.reduceEq, Nat.reduceMul, Nat.reduceAdd, Nat.reduceBEq, Int.reduceBEq, noteOk, List.mem_cons, List.not_mem_nil, true_or, or_true, or_false, true_and, and_true, Nat.reduceLT, Nat.reduceLeDiff, List.contains_cons, List.contains_nil]
    refine hΨ7 _ _ ?_
    simp only [okC_cnd, RV, RG, ↓reduceIte, Nat.reduceEqDiff, reduceCtorEq, Int.reduceEq, Nat.reduceMul, Nat.reduceAdd, Nat.reduceBEq, Int.reduceBEq, noteOk, List.mem_cons, List.not_mem_nil, true_or, or_true, or_false, true_and, and_true, Nat.reduceLT, Nat.reduceLeDiff, List.contains_cons, List.contains_nil]
    refine okC_seq_g fun Ψ8 hΨ8 hΨ8' => ?_
    simp only [tf_3, ↓reduceIte, Nat.reduceEqDiff, reduceCtorEq, Int.reduceEq, Nat.reduceMul, Nat.reduceAdd, Nat.reduceBEq, Int.reduceBEq, noteOk, List.mem_cons, List.not_mem_nil, true_or, or_true, or_false, true_and, and_true, Nat.reduceLT, Nat.reduceLeDiff, List.contains_cons, List.contains_nil]
    refine okO_callx ?_ (awake_ok ?_)
    · simp only [tf_3, ↓reduceIte, Nat.reduceEqDiff, reduceCtorEq, Int.reduceEq, Nat.reduceMul, Nat.reduceAdd, Nat.reduceBEq, Int.reduceBEq, noteOk, List.mem_cons, List.not_mem_nil, true_or, or_true, or_false, true_and, and_true, Nat.reduceLT, Nat.reduceLeDiff, List.contains_cons, List.contains_nil]
    simp only [tf_3, ↓reduceIte, Nat.reduceEqDiff, reduceCtorEq, Int.reduceEq, Nat.reduceMul, Nat.reduceAdd, Nat.reduceBEq, Int.reduceBEq, noteOk, List.mem_cons, List.not_mem_nil, true_or, or_true, or_false, true_and, and_true, Nat.reduceLT, Nat.reduceLeDiff, List.contains_cons, List.contains_nil]
    refine hΨ8 _ _ ?_
    simp only [tf_3, ↓reduceIte, Nat.reduceEqDiff, reduceCtorEq, Int.reduceEq, Nat.reduceMul, Nat.reduceAdd, Nat.reduceBEq, Int.reduceBEq, noteOk, List.mem_cons, List.not_mem_nil, true_or, or_true, or_false, true_and, and_true, Nat.reduceLT, Nat.reduceLeDiff, List.contains_cons, List.contains_nil]
    refine hΨ6' _ _ _ (by simp) ?_
    simp only [tf_3, ↓reduceIte, Nat.reduceEqDiff, reduceCtorEq, Int.reduceEq, Nat.reduceMul, Nat.reduceAdd, Nat.reduceBEq, Int.reduceBEq, noteOk, List.mem_cons, List.not_mem_nil, true_or, or_true, or_false, true_and, and_true, Nat.reduceLT, Nat.reduceLeDiff, List.contains_cons, List.contains_nil]
    exact hΦ _
/-- What both readings answer. -/
def Parsed (S : List UInt8) (L : List Ft) (z : Int) : Prop := (tooLong S ∧ L = [] ∧ z = 3) ∨ (¬ tooLong S ∧ (∀ f ∈ L, ftGood f) ∧ S = ftText L ∧ z = 0) ∨ (¬ tooLong S ∧ (∀ M, (∀ f ∈ M, ftGood f) → S ≠ ftText M) ∧ L = [] ∧ z = 2)
theorem parsed_ex (S : List UInt8) : ∃ L z, Parsed S L z := by
  by_cases h : tooLong S
  · exact ⟨_, _, .inl ⟨h, rfl, rfl⟩⟩
  · by_cases h2 : ∃ M, (∀ f ∈ M, ftGood f) ∧ S = ftText M
    · obtain ⟨M, h2, h3⟩ := h2
      exact ⟨M, 0, .inr (.inl ⟨h, h2, h3, rfl⟩)⟩
    · exact ⟨[], 2, .inr (.inr ⟨h, fun M hM e => h2 ⟨M, hM, e⟩, rfl, rfl⟩)⟩
theorem Parsed.len {S : List UInt8} {L : List Ft} {z : Int} (h : Parsed S L z) : L.length ≤ S.length := by
  rcases h with ⟨_, rfl, _⟩ | ⟨_, _, rfl, _⟩ | ⟨_, _, rfl, _⟩
  · exact Nat.zero_le _
  · rw [← ftText_count]; exact List.count_le_length
  · exact Nat.zero_le _
theorem parse_is {S : List UInt8} {L : List Ft} {z : Int} (h : Parsed S L z) (hs : Ok s) (G : GlobAt s) (hS : S.length ≤ 40000) (hΦ : ∀ a c s', Keeps [] s s' → Sl s' 3 (.slice a L.length c) (L.flatMap ftV) → Φ (.tuple #[.slice a L.length c, int z]) s') : okF q X KT 8 [str S] s Φ := by
  refine parse_ok hs G hS ?_ ?_ ?_
  · intro hl s' k
    rcases h with ⟨_, rfl, rfl⟩ | ⟨h, _⟩ | ⟨h, _⟩
    · exact hΦ none 0 s' k (.nil _ _)
    · exact absurd hl h
    · exact absurd hl h
  · intro hl M hM e a c s' k H
    rcases h with ⟨h, _⟩ | ⟨_, h1, h2, rfl⟩ | ⟨_, h, _⟩
    · exact absurd h hl
    · obtain rfl := ftText_inj hM h1 (e.symm.trans h2)
      exact hΦ a c s' k H
    · exact absurd e (h M hM)
  · intro hl no s' k
    rcases h with ⟨h, _⟩ | ⟨_, h1, h2, rfl⟩ | ⟨_, h, rfl, rfl⟩
    · exact absurd h hl
    · exact absurd h2 (no L h1)
    · exact hΦ none 0 s' k (.nil _ _)
theorem rparse_is {S : List UInt8} {L : List Ft} {z : Int} (h : Parsed S L z) (hs : Ok s) (hS : S.length ≤ 40000) (hΦ : ∀ a c s', Keeps [] s s' → Sl s' 3 (.slice a L.length c) (L.flatMap ftV) → Φ (.tuple #[.slice a L.length c, int z]) s') : okF q X KT 10 [str S] s Φ := by
  refine rparse_ok hs hS ?_ ?_ ?_
  · intro hl s' k
    rcases h with ⟨_, rfl, rfl⟩ | ⟨h, _⟩ | ⟨h, _⟩
    · exact hΦ none 0 s' k (.nil _ _)
    · exact absurd hl h
    · exact absurd hl h
  · intro hl M hM e a c s' k H
    rcases h with ⟨h, _⟩ | ⟨_, h1, h2, rfl⟩ | ⟨_, h, _⟩
    · exact absurd h hl
    · obtain rfl := ftText_inj hM h1 (e.symm.trans h2)
      exact hΦ a c s' k H
    · exact absurd e (h M hM)
  · intro hl no s' k
    rcases h with ⟨h, _⟩ | ⟨_, h1, h2, rfl⟩ | ⟨_, h, rfl, rfl⟩
    · exact absurd h hl
    · exact absurd h2 (no L h1)
    · exact hΦ none 0 s' k (.nil _ _)
def gap8 : List UInt8 := [103, 97, 112, 32, 49, 32, 50, 10]
theorem k_gap : Value.string ⟨#[103, 97, 112, 32, 49, 32, 50, 10]⟩ = str gap8 := rfl
theorem gt8 (H : Look) (x y : Int) : binop X H .gtr 5 (.int .u8 x) (.int .u8 y) = some (.bool (decide (x > y))) := by kernel_rfl
def gaps : Nat → List UInt8
  | 0 => []
  | n + 1 => gaps n ++ gap8
theorem gaps_len : ∀ n, (gaps n).length = 8 * n
  | 0 => rfl
  | n + 1 => by
    have h8 : gap8.length = 8 := rfl
    rw [gaps, List.length_append, gaps_len n, h8]
    omega
theorem tf_4 : type_of% (And.intro @RC <| And.intro @RO <| And.intro @RD <| And.intro @RV <| And.intro @RB <| And.intro @RG <| @cv_5_3) := And.intro @RC <| And.intro @RO <| And.intro @RD <| And.intro @RV <| And.intro @RB <| And.intro @RG <| @cv_5_3
theorem vreads_ok {S0 : List UInt8} {many : Nat} (hs : Ok s) (G : GlobAt s) (hm : many < 256) (hΦ : ∀ s', Φ (.bool true) s') : okF q X KT 4 [str S0, .int .u8 many] s Φ := by
  refine okF_body rfl fn_4 rfl (rs := [.tmp 4]) rfl (N := 62) rfl rfl ?_
  refine okC_seq_g fun Ψ0 hΨ0 hΨ0' => ?_
  simp only [tf_4, ↓reduceIte, Nat.reduceEqDiff, reduceCtorEq, Int.reduceEq, Nat.reduceMul, Nat.reduceAdd, Nat.reduceBEq, Int.reduceBEq, noteOk, List.mem_cons, List.not_mem_nil, true_or, or_true, or_false, true_and, and_true, Nat.reduceLT, Nat.reduceLeDiff, List.contains_cons, List.contains_nil]
  refine hΨ0 _ _ ?_
  refine okC_seq_g fun Ψ1 hΨ1 hΨ1' => ?_
  have main1 : ∀ S a', S.length ≤ 4000 → a'.getT 0 = str S → a'.getT 1 = .int .u8 many → Ψ1 .normal a' s := by
    intro S a' hS r0 r1
    refine hΨ1 _ _ ?_
    refine okC_seq_g fun Ψ3 hΨ3 hΨ3' => ?_
    have main3 : ∀ S s' a', Keeps [] s s' → S.length ≤ 40000 → a'.getT 0 = str S → Ψ3 .normal a' s' := by
      intro S s' a' k hS r0
      refine hΨ3 _ _ ?_
      refine okC_seq_g fun Ψ4 hΨ4 hΨ4' => ?_
      obtain ⟨L, z, hP⟩ := parsed_ex S
      have hL := hP.len
      simp only [tf_4, ↓reduceIte, Nat.reduceEqDiff, reduceCtorEq, Int.reduceEq, Nat.reduceMul, Nat.reduceAdd, Nat.reduceBEq, Int.reduceBEq, noteOk, List.mem_cons, List.not_mem_nil, true_or, or_true, or_false, true_and, and_true, Nat.reduceLT, Nat.reduceLeDiff, List.contains_cons, List.contains_nil, r0]
      refine okO_callx ?_ (parse_is hP k.ok (G.keep k (by simp)) hS fun a1 c1 s1 k1 H1 => ?_)
      · simp only [tf_4, ↓reduceIte, Nat.reduceEqDiff, reduceCtorEq, Int.reduceEq, Nat.reduceMul, Nat.reduceAdd, Nat.reduceBEq, Int.reduceBEq, noteOk, List.mem_cons, List.not_mem_nil, true_or, or_true, or_false, true_and, and_true, Nat.reduceLT, Nat.reduceLeDiff, List.contains_cons, List.contains_nil, r0]
      simp only [tf_4, ↓reduceIte, Nat.reduceEqDiff, reduceCtorEq, Int.reduceEq, Nat.reduceMul, Nat.reduceAdd, Nat.reduceBEq, Int.reduceBEq, noteOk, List.mem_cons, List.not_mem_nil, true_or, or_true, or_false, true_and, and_true, Nat.reduceLT, Nat.reduceLeDiff, List.contains_cons, List.contains_nil]
      refine hΨ4 _ _ ?_
      refine okC_seq_g fun Ψ5 hΨ5 hΨ5' => ?_
      simp only [tf_4, ↓reduceIte, Nat.reduceEqDiff, reduceCtorEq, Int.reduceEq, Nat.reduceMul, Nat.reduceAdd, Nat.reduceBEq, Int.reduceBEq, noteOk, List.mem_cons, List.not_mem_nil, true_or, or_true, or_false, true_and, and_true, Nat.reduceLT, Nat.reduceLeDiff, List.contains_cons, List.contains_nil, r0]
      refine okO_callx ?_ (rparse_is hP k1.ok hS fun a2 c2 s2 k2 H2 => ?_)
      · simp only [tf_4, ↓reduceIte, Nat.reduceEqDiff, reduceCtorEq, Int.reduceEq, Nat.reduceMul, Nat.reduceAdd, Nat.reduceBEq, Int.reduceBEq, noteOk, List.mem_cons, List.not_mem_nil, true_or, or_true, or_false, true_and, and_true, Nat.reduceLT, Nat.reduceLeDiff, List.contains_cons, List.contains_nil, r0]
      simp only [tf_4, ↓reduceIte, Nat.reduceEqDiff, reduceCtorEq, Int.reduceEq, Nat.reduceMul, Nat.reduceAdd, Nat.reduceBEq, Int.reduceBEq, noteOk, List.mem_cons, List.not_mem_nil, true_or, or_true, or_false, true_and, and_true, Nat.reduceLT, Nat.reduceLeDiff, List.contains_cons, List.contains_nil]
      refine hΨ5 _ _ ?_
      refine okC_seq_g fun Ψ6 hΨ6 hΨ6' => ?_
      refine okC_seq_g fun Ψ7 hΨ7 hΨ7' => ?_
      have H1' := H1.keep k2 (by simp)
      refine okC_region_g [(4, 42)] (by kernel_rfl) fun O hO ΨR hR => ?_
      have y4 : ∀ a, yieldedA O a 4 = boolOf (a.getT 42) := hO (4, 42) (by simp)
      simp only [tf_4, ↓reduceIte, Nat.reduceEqDiff, reduceCtorEq, Int.reduceEq, Nat.reduceMul, Nat.reduceAdd, Nat.reduceBEq, Int.reduceBEq, noteOk, List.mem_cons, List.not_mem_nil, true_or, or_true, or_false, true_and, and_true, Nat.reduceLT, Nat.reduceLeDiff, List.contains_cons, List.contains_nil, y4]
      refine okO_callx ?_ (faults_ok (l := L) k2.ok (by omega) H1' H2 fun s3 k3 => ?_)
      · simp only [tf_4, ↓reduceIte, Nat.reduceEqDiff, reduceCtorEq, Int.reduceEq, Nat.reduceMul, Nat.reduceAdd, Nat.reduceBEq, Int.reduceBEq, noteOk, List.mem_cons, List.not_mem_nil, true_or, or_true, or_false, true_and, and_true, Nat.reduceLT, Nat.reduceLeDiff, List.contains_cons, List.contains_nil, y4]
      simp only [tf_4, ↓reduceIte, Nat.reduceEqDiff, reduceCtorEq, Int.reduceEq, Nat.reduceMul, Nat.reduceAdd, Nat.reduceBEq, Int.reduceBEq, noteOk, List.mem_cons, List.not_mem_nil, true_or, or_true, or_false, true_and, and_true, Nat.reduceLT, Nat.reduceLeDiff, List.contains_cons, List.contains_nil, y4, Bool.not_true, beq_self_eq_true]
      refine hR _ _ (hΨ7 _ _ ?_)
      simp only [tf_4, ↓reduceIte, Nat.reduceEqDiff, reduceCtorEq, Int.reduceEq, Nat.reduceMul, Nat.reduceAdd, Nat.reduceBEq, Int.reduceBEq, noteOk, List.mem_cons, List.not_mem_nil, true_or, or_true, or_false, true_and, and_true, Nat.reduceLT, Nat.reduceLeDiff, List.contains_cons, List.contains_nil]
      refine hΨ6 _ _ ?_
      refine okC_seq_g fun Ψ8 hΨ8 hΨ8' => ?_
      have fin : ∀ a4 s4, Ψ8 .normal a4 s4 := by
        intro a4 s4
        refine hΨ8 _ _ ?_
        refine okC_seq_g fun Ψ9 hΨ9 hΨ9' => ?_
        simp only [tf_4, ↓reduceIte, Nat.reduceEqDiff, reduceCtorEq, Int.reduceEq, Nat.reduceMul, Nat.reduceAdd, Nat.reduceBEq, Int.reduceBEq, noteOk, List.mem_cons, List.not_mem_nil, true_or, or_true, or_false, true_and, and_true, Nat.reduceLT, Nat.reduceLeDiff, List.contains_cons, List.contains_nil]
        refine okO_callx ?_ (awake_ok ?_)
        · simp only [tf_4, ↓reduceIte, Nat.reduceEqDiff, reduceCtorEq, Int.reduceEq, Nat.reduceMul, Nat.reduceAdd, Nat.reduceBEq, Int.reduceBEq, noteOk, List.mem_cons, List.not_mem_nil, true_or, or_true, or_false, true_and, and_true, Nat.reduceLT, Nat.reduceLeDiff, List.contains_cons, List.contains_nil]
        simp only [tf_4, ↓reduceIte, Nat.reduceEqDiff, reduceCtorEq, Int.reduceEq, Nat.reduceMul, Nat.reduceAdd, Nat.reduceBEq, Int.reduceBEq, noteOk, List.mem_cons, List.not_mem_nil, true_or, or_true, or_false, true_and, and_true, Nat.reduceLT, Nat.reduceLeDiff, List.contains_cons, List.contains_nil]
        refine hΨ9 _ _ ?_
        simp only [tf_4, ↓reduceIte, Nat.reduceEqDiff, reduceCtorEq, Int.reduceEq, Nat.reduceMul, Nat.reduceAdd, Nat.reduceBEq, Int.reduceBEq, noteOk, List.mem_cons, List.not_mem_nil, true_or, or_true, or_false, true_and, and_true, Nat.reduceLT, Nat.reduceLeDiff, List.contains_cons, List.contains_nil]
        exact hΦ _
      refine okC_seq_g fun Ψ9 hΨ9 hΨ9' => ?_
      rcases hP with ⟨_, rfl, rfl⟩ | ⟨_, hg, rfl, rfl⟩ | ⟨_, _, rfl, rfl⟩
      · simp only [tf_4, ↓reduceIte, Nat.reduceEqDiff, reduceCtorEq, Int.reduceEq, Nat.reduceMul, Nat.reduceAdd, Nat.reduceBEq, Int.reduceBEq, noteOk, List.mem_cons, List.not_mem_nil, true_or, or_true, or_false, true_and, and_true, Nat.reduceLT, Nat.reduceLeDiff, List.contains_cons, List.contains_nil]
        refine hΨ9 _ _ ?_
        simp only [tf_4, ↓reduceIte, Nat.reduceEqDiff, reduceCtorEq, Int.reduceEq, Nat.reduceMul, Nat.reduceAdd, Nat.reduceBEq, Int.reduceBEq, noteOk, List.mem_cons, List.not_mem_nil, true_or, or_true, or_false, true_and, and_true, Nat.reduceLT, Nat.reduceLeDiff, List.contains_cons, List.contains_nil]
        exact fin _ _
      · simp only [tf_4, ↓reduceIte, Nat.reduceEqDiff, reduceCtorEq, Int.reduceEq, Nat.reduceMul, Nat.reduceAdd, Nat.reduceBEq, Int.reduceBEq, noteOk, List.mem_cons, List.not_mem_nil, true_or, or_true, or_false, true_and, and_true, Nat.reduceLT, Nat.reduceLeDiff, List.contains_cons, List.contains_nil]
        refine hΨ9 _ _ ?_
        simp only [okC_cnd, RV, RG, ↓reduceIte, Nat.reduceEqDiff, reduceCtorEq, Int.reduceEq, Nat.reduceMul, Nat.reduceAdd, Nat.reduceBEq, Int.reduceBEq, noteOk, List.mem_cons, List.not_mem_nil, true_or, or_true, or_false, true_and, and_true, Nat.reduceLT, Nat.reduceLeDiff, List.contains_cons, List.contains_nil]
        refine okC_seq_g fun Ψ10 hΨ10 hΨ10' => ?_
        simp only [tf_4, ↓reduceIte, Nat.reduceEqDiff, reduceCtorEq, Int.reduceEq, Nat.reduceMul, Nat.reduceAdd, Nat.reduceBEq, Int.reduceBEq, noteOk, List.mem_cons, List.not_mem_nil, true_or, or_true, or_false, true_and, and_true, Nat.reduceLT, Nat.reduceLeDiff, List.contains_cons, List.contains_nil]
        refine okO_callx ?_ (text_ok (L := L) ⟨⟨a1, c1, rfl, H1'.keep k3 (by simp)⟩, (((G.keep k (by simp)).keep k1 (by simp)).keep k2 (by simp)).keep k3 (by simp), by omega, fun f hf => (hg f hf).2⟩ ?_)
        · simp only [tf_4, ↓reduceIte, Nat.reduceEqDiff, reduceCtorEq, Int.reduceEq, Nat.reduceMul, Nat.reduceAdd, Nat.reduceBEq, Int.reduceBEq, noteOk, List.mem_cons, List.not_mem_nil, true_or, or_true, or_false, true_and, and_true, Nat.reduceLT, Nat.reduceLeDiff, List.contains_cons, List.contains_nil]
        unfold textV
        rw [if_pos (fun f hf => (hg f hf).1)]
        simp only [tf_4, ↓reduceIte, Nat.reduceEqDiff, reduceCtorEq, Int.reduceEq, Nat.reduceMul, Nat.reduceAdd, Nat.reduceBEq, Int.reduceBEq, noteOk, List.mem_cons, List.not_mem_nil, true_or, or_true, or_false, true_and, and_true, Nat.reduceLT, Nat.reduceLeDiff, List.contains_cons, List.contains_nil]
        refine hΨ10 _ _ ?_
        refine okC_seq_g fun Ψ11 hΨ11 hΨ11' => ?_
        refine okC_region_g [(2, 56)] (by kernel_rfl) fun O hO ΨR hR => ?_
        have y2 : ∀ a, yieldedA O a 2 = boolOf (a.getT 56) := hO (2, 56) (by simp)
        simp only [tf_4, ↓reduceIte, Nat.reduceEqDiff, reduceCtorEq, Int.reduceEq, Nat.reduceMul, Nat.reduceAdd, Nat.reduceBEq, Int.reduceBEq, noteOk, List.mem_cons, List.not_mem_nil, true_or, or_true, or_false, true_and, and_true, Nat.reduceLT, Nat.reduceLeDiff, List.contains_cons, List.contains_nil, r0, ne_str, bn_s, beq_self_eq_true, Bool.not_true, y2]
        refine hR _ _ (hΨ11 _ _ ?_)
        simp only [tf_4, ↓reduceIte, Nat.reduceEqDiff, reduceCtorEq, Int.reduceEq, Nat.reduceMul, Nat.reduceAdd, Nat.reduceBEq, Int.reduceBEq, noteOk, List.mem_cons, List.not_mem_nil, true_or, or_true, or_false, true_and, and_true, Nat.reduceLT, Nat.reduceLeDiff, List.contains_cons, List.contains_nil]
        exact fin _ _
      · simp only [tf_4, ↓reduceIte, Nat.reduceEqDiff, reduceCtorEq, Int.reduceEq, Nat.reduceMul, Nat.reduceAdd, Nat.reduceBEq, Int.reduceBEq, noteOk, List.mem_cons, List.not_mem_nil, true_or, or_true, or_false, true_and, and_true, Nat.reduceLT, Nat.reduceLeDiff, List.contains_cons, List.contains_nil]
        refine hΨ9 _ _ ?_
        simp only [tf_4, ↓reduceIte, Nat.reduceEqDiff, reduceCtorEq, Int.reduceEq, Nat.reduceMul, Nat.reduceAdd, Nat.reduceBEq, Int.reduceBEq, noteOk, List.mem_cons, List.not_mem_nil, true_or, or_true, or_false, true_and, and_true, Nat.reduceLT, Nat.reduceLeDiff, List.contains_cons, List.contains_nil]
        exact fin _ _
    refine okC_seq_g fun Ψ4 hΨ4 hΨ4' => ?_
    by_cases h250 : (250 : Int) < many
    · have e1 : decide ((many : Int) > 250) = true := decide_eq_true h250
      simp only [tf_4, ↓reduceIte, Nat.reduceEqDiff, reduceCtorEq, Int.reduceEq, Nat.reduceMul, Nat.reduceAdd, Nat.reduceBEq, Int.reduceBEq, noteOk, List.mem_cons, List.not_mem_nil, true_or, or_true, or_false, true_and, and_true, Nat.reduceLT, Nat.reduceLeDiff, List.contains_cons, List.contains_nil, r1, gt8, e1]
      refine hΨ4 _ _ ?_
      simp only [okC_cnd, RV, RG, ↓reduceIte, Nat.reduceEqDiff, reduceCtorEq, Int.reduceEq, Nat.reduceMul, Nat.reduceAdd, Nat.reduceBEq, Int.reduceBEq, noteOk, List.mem_cons, List.not_mem_nil, true_or, or_true, or_false, true_and, and_true, Nat.reduceLT, Nat.reduceLeDiff, List.contains_cons, List.contains_nil]
      refine okC_seq_g fun Ψ5 hΨ5 hΨ5' => ?_
      simp only [tf_4, ↓reduceIte, Nat.reduceEqDiff, reduceCtorEq, Int.reduceEq, Nat.reduceMul, Nat.reduceAdd, Nat.reduceBEq, Int.reduceBEq, noteOk, List.mem_cons, List.not_mem_nil, true_or, or_true, or_false, true_and, and_true, Nat.reduceLT, Nat.reduceLeDiff, List.contains_cons, List.contains_nil]
      refine hΨ5 _ _ ?_
      refine okC_seq_g fun Ψ6 hΨ6 hΨ6' => ?_
      simp only [tf_4, ↓reduceIte, Nat.reduceEqDiff, reduceCtorEq, Int.reduceEq, Nat.reduceMul, Nat.reduceAdd, Nat.reduceBEq, Int.reduceBEq, noteOk, List.mem_cons, List.not_mem_nil, true_or, or_true, or_false, true_and, and_true, Nat.reduceLT, Nat.reduceLeDiff, List.contains_cons, List.contains_nil]
      refine hΨ6 _ _ ?_
      refine okC_block_g fun Ψ7 hΨ7 hΨ7e hΨ7' => ?_
      have hw : IntKind.i64.wrap (3747 + (many : Int)) = ((3747 + many : Nat) : Int) := by rw [wrapI (by omega) (by omega)]; omega
      have hw2 : IntKind.i64.wrap (many : Int) = (many : Int) := wrapI (by omega) (by omega)
      refine okC_cnt (n := 3747 + many) 19 [0, 5] [0] (fun j vs s' => vs = [str (gaps j)] ∧ s' = s) rfl (by omega) ?_ ?_ ?_ ?_ ?_
      · simp only [tf_4, ↓reduceIte, Nat.reduceEqDiff, reduceCtorEq, Int.reduceEq, Nat.reduceMul, Nat.reduceAdd, Nat.reduceBEq, Int.reduceBEq, noteOk, List.mem_cons, List.not_mem_nil, true_or, or_true, or_false, true_and, and_true, Nat.reduceLT, Nat.reduceLeDiff, List.contains_cons, List.contains_nil]
      · refine ⟨?_, rfl⟩
        simp only [tf_4, ↓reduceIte, Nat.reduceEqDiff, reduceCtorEq, Int.reduceEq, Nat.reduceMul, Nat.reduceAdd, Nat.reduceBEq, Int.reduceBEq, noteOk, List.mem_cons, List.not_mem_nil, true_or, or_true, or_false, true_and, and_true, Nat.reduceLT, Nat.reduceLeDiff, List.contains_cons, List.contains_nil]
        rfl
      · rintro j a1 s1 hj hA hc hr Ψ w
        simp only [tf_4, ↓reduceIte, Nat.reduceEqDiff, reduceCtorEq, Int.reduceEq, Nat.reduceMul, Nat.reduceAdd, Nat.reduceBEq, Int.reduceBEq, noteOk, List.mem_cons, List.not_mem_nil, true_or, or_true, or_false, true_and, and_true, Nat.reduceLT, Nat.reduceLeDiff, List.contains_cons, List.contains_nil, hA.get, hc, r1, cv_5_3, hw2, hw]
        refine w _ _ ?_ ?_ ?_ ?_
        · simp only [tf_4, ↓reduceIte, Nat.reduceEqDiff, reduceCtorEq, Int.reduceEq, Nat.reduceMul, Nat.reduceAdd, Nat.reduceBEq, Int.reduceBEq, noteOk, List.mem_cons, List.not_mem_nil, true_or, or_true, or_false, true_and, and_true, Nat.reduceLT, Nat.reduceLeDiff, List.contains_cons, List.contains_nil, Int.ofNat_lt]
        · simp only [tf_4, ↓reduceIte, Nat.reduceEqDiff, reduceCtorEq, Int.reduceEq, Nat.reduceMul, Nat.reduceAdd, Nat.reduceBEq, Int.reduceBEq, noteOk, List.mem_cons, List.not_mem_nil, true_or, or_true, or_false, true_and, and_true, Nat.reduceLT, Nat.reduceLeDiff, List.contains_cons, List.contains_nil, agr_put, hA]
        · simp only [tf_4, ↓reduceIte, Nat.reduceEqDiff, reduceCtorEq, Int.reduceEq, Nat.reduceMul, Nat.reduceAdd, Nat.reduceBEq, Int.reduceBEq, noteOk, List.mem_cons, List.not_mem_nil, true_or, or_true, or_false, true_and, and_true, Nat.reduceLT, Nat.reduceLeDiff, List.contains_cons, List.contains_nil, hc]
        · simp only [tf_4, ↓reduceIte, Nat.reduceEqDiff, reduceCtorEq, Int.reduceEq, Nat.reduceMul, Nat.reduceAdd, Nat.reduceBEq, Int.reduceBEq, noteOk, List.mem_cons, List.not_mem_nil, true_or, or_true, or_false, true_and, and_true, Nat.reduceLT, Nat.reduceLeDiff, List.contains_cons, List.contains_nil]
          exact hr
      · rintro j a1 s1 hj hA hc ⟨h4, rfl⟩ Ψ w w3
        simp only [List.map_cons, List.map_nil, List.cons.injEq, and_true] at h4
        have h8 : gap8.length = 8 := rfl
        have e3 := cat_str (H := s1.look) (t := 9) (a := gaps j) (b := gap8) (by rw [gaps_len, h8]; omega)
        simp only [tf_4, ↓reduceIte, Nat.reduceEqDiff, reduceCtorEq, Int.reduceEq, Nat.reduceMul, Nat.reduceAdd, Nat.reduceBEq, Int.reduceBEq, noteOk, List.mem_cons, List.not_mem_nil, true_or, or_true, or_false, true_and, and_true, Nat.reduceLT, Nat.reduceLeDiff, List.contains_cons, List.contains_nil, h4, k_gap, e3, bn_s]
        refine (w _ _ ?_ ?_ ?_).1
        · simp only [tf_4, ↓reduceIte, Nat.reduceEqDiff, reduceCtorEq, Int.reduceEq, Nat.reduceMul, Nat.reduceAdd, Nat.reduceBEq, Int.reduceBEq, noteOk, List.mem_cons, List.not_mem_nil, true_or, or_true, or_false, true_and, and_true, Nat.reduceLT, Nat.reduceLeDiff, List.contains_cons, List.contains_nil, agr_put, hA]
        · simp only [tf_4, ↓reduceIte, Nat.reduceEqDiff, reduceCtorEq, Int.reduceEq, Nat.reduceMul, Nat.reduceAdd, Nat.reduceBEq, Int.reduceBEq, noteOk, List.mem_cons, List.not_mem_nil, true_or, or_true, or_false, true_and, and_true, Nat.reduceLT, Nat.reduceLeDiff, List.contains_cons, List.contains_nil, hc]
        · refine ⟨?_, rfl⟩
          simp only [tf_4, ↓reduceIte, Nat.reduceEqDiff, reduceCtorEq, Int.reduceEq, Nat.reduceMul, Nat.reduceAdd, Nat.reduceBEq, Int.reduceBEq, noteOk, List.mem_cons, List.not_mem_nil, true_or, or_true, or_false, true_and, and_true, Nat.reduceLT, Nat.reduceLeDiff, List.contains_cons, List.contains_nil]
          rfl
      · rintro a1 s1 hA ⟨h4, rfl⟩
        simp only [List.map_cons, List.map_nil, List.cons.injEq, and_true] at h4
        refine hΨ7e _ _ (main3 _ _ _ (.refl hs) ?_ h4)
        rw [gaps_len]
        omega
    · have e1 : decide ((many : Int) > 250) = false := decide_eq_false h250
      simp only [tf_4, ↓reduceIte, Nat.reduceEqDiff, reduceCtorEq, Int.reduceEq, Nat.reduceMul, Nat.reduceAdd, Nat.reduceBEq, Int.reduceBEq, noteOk, List.mem_cons, List.not_mem_nil, true_or, or_true, or_false, true_and, and_true, Nat.reduceLT, Nat.reduceLeDiff, List.contains_cons, List.contains_nil, r1, gt8, e1]
      refine hΨ4 _ _ ?_
      simp only [tf_4, ↓reduceIte, Nat.reduceEqDiff, reduceCtorEq, Int.reduceEq, Nat.reduceMul, Nat.reduceAdd, Nat.reduceBEq, Int.reduceBEq, noteOk, List.mem_cons, List.not_mem_nil, true_or, or_true, or_false, true_and, and_true, Nat.reduceLT, Nat.reduceLeDiff, List.contains_cons, List.contains_nil]
      refine main3 S _ _ (.refl hs) (by omega) ?_
      simp only [tf_4, ↓reduceIte, Nat.reduceEqDiff, reduceCtorEq, Int.reduceEq, Nat.reduceMul, Nat.reduceAdd, Nat.reduceBEq, Int.reduceBEq, noteOk, List.mem_cons, List.not_mem_nil, true_or, or_true, or_false, true_and, and_true, Nat.reduceLT, Nat.reduceLeDiff, List.contains_cons, List.contains_nil, r0]
  refine okC_seq_g fun Ψ2 hΨ2 hΨ2' => ?_
  by_cases hl : S0.length > 4000
  · have e1 : decide ((S0.length : Int) > 4000) = true := decide_eq_true (by omega)
    have e2 : sliceA X s.look 9 (str S0) none (some (int 4000)) none = some (str (S0.take 4000)) := slice_to (H := s.look) (S := S0) (h := 4000) (by omega)
    simp only [tf_4, ↓reduceIte, Nat.reduceEqDiff, reduceCtorEq, Int.reduceEq, Nat.reduceMul, Nat.reduceAdd, Nat.reduceBEq, Int.reduceBEq, noteOk, List.mem_cons, List.not_mem_nil, true_or, or_true, or_false, true_and, and_true, Nat.reduceLT, Nat.reduceLeDiff, List.contains_cons, List.contains_nil, lenS, e1]
    refine hΨ2 _ _ ?_
    simp only [okC_cnd, RV, RG, ↓reduceIte, Nat.reduceEqDiff, reduceCtorEq, Int.reduceEq, Nat.reduceMul, Nat.reduceAdd, Nat.reduceBEq, Int.reduceBEq, noteOk, List.mem_cons, List.not_mem_nil, true_or, or_true, or_false, true_and, and_true, Nat.reduceLT, Nat.reduceLeDiff, List.contains_cons, List.contains_nil]
    simp only [tf_4, ↓reduceIte, Nat.reduceEqDiff, reduceCtorEq, Int.reduceEq, Nat.reduceMul, Nat.reduceAdd, Nat.reduceBEq, Int.reduceBEq, noteOk, List.mem_cons, List.not_mem_nil, true_or, or_true, or_false, true_and, and_true, Nat.reduceLT, Nat.reduceLeDiff, List.contains_cons, List.contains_nil, e2]
    refine main1 (S0.take 4000) _ (by rw [List.length_take]; omega) ?_ ?_
    · simp only [tf_4, ↓reduceIte, Nat.reduceEqDiff, reduceCtorEq, Int.reduceEq, Nat.reduceMul, Nat.reduceAdd, Nat.reduceBEq, Int.reduceBEq, noteOk, List.mem_cons, List.not_mem_nil, true_or, or_true, or_false, true_and, and_true, Nat.reduceLT, Nat.reduceLeDiff, List.contains_cons, List.contains_nil]
    · simp only [tf_4, ↓reduceIte, Nat.reduceEqDiff, reduceCtorEq, Int.reduceEq, Nat.reduceMul, Nat.reduceAdd, Nat.reduceBEq, Int.reduceBEq, noteOk, List.mem_cons, List.not_mem_nil, true_or, or_true, or_false, true_and, and_true, Nat.reduceLT, Nat.reduceLeDiff, List.contains_cons, List.contains_nil]
  · have e1 : decide ((S0.length : Int) > 4000) = false := decide_eq_false (by omega)
    simp only [tf_4, ↓reduceIte, Nat.reduceEqDiff, reduceCtorEq, Int.reduceEq, Nat.reduceMul, Nat.reduceAdd, Nat.reduceBEq, Int.reduceBEq, noteOk, List.mem_cons, List.not_mem_nil, true_or, or_true, or_false, true_and, and_true, Nat.reduceLT, Nat.reduceLeDiff, List.contains_cons, List.contains_nil, lenS, e1]
    refine hΨ2 _ _ ?_
    simp only [tf_4, ↓reduceIte, Nat.reduceEqDiff, reduceCtorEq, Int.reduceEq, Nat.reduceMul, Nat.reduceAdd, Nat.reduceBEq, Int.reduceBEq, noteOk, List.mem_cons, List.not_mem_nil, true_or, or_true, or_false, true_and, and_true, Nat.reduceLT, Nat.reduceLeDiff, List.contains_cons, List.contains_nil]
    refine main1 S0 _ (by omega) ?_ ?_
    · simp only [tf_4, ↓reduceIte, Nat.reduceEqDiff, reduceCtorEq, Int.reduceEq, Nat.reduceMul, Nat.reduceAdd, Nat.reduceBEq, Int.reduceBEq, noteOk, List.mem_cons, List.not_mem_nil, true_or, or_true, or_false, true_and, and_true, Nat.reduceLT, Nat.reduceLeDiff, List.contains_cons, List.contains_nil]
    · simp only [tf_4, ↓reduceIte, Nat.reduceEqDiff, reduceCtorEq, Int.reduceEq, Nat.reduceMul, Nat.reduceAdd, Nat.reduceBEq, Int.reduceBEq, noteOk, List.mem_cons, List.not_mem_nil, true_or, or_true, or_false, true_and, and_true, Nat.reduceLT, Nat.reduceLeDiff, List.contains_cons, List.contains_nil]
end
end Go.Dust
end
section
/- The twin, part 3: memory, calls, code. -/
noncomputable section
namespace Go.Dust
open PT (getK getK_eq setK setK_eq setLK setLK_eq ofListK ofListK_eq)

/-! ### Operations that make memory -/
def allocK (X : Env) (nm clk : Nat) (a : ACt) (op : Op) (k : Value → AObj → Bool) : Bool := match op with
  | .alloc e => match X.ty e with
    | some i => match i.zero with
      | some z => cellsK z fun l => ofListK l fun c => lenK l fun n => k (.pointer (some ⟨nm, 0, none⟩)) (.cells c [] n e false false clk)
      | none => false
    | none => false
  | .box e x => evalK a x fun v => cellsK v fun l => ofListK l fun c => lenK l fun n => k (.pointer (some ⟨nm, 0, none⟩)) (.cells c [] n e false false clk)
  | .buildSlice t len parts => match X.ty t with
    | some i => match i.desc with
      | .slice e => match X.ty e with
        | some ei => match ei.zero with
          | some z => partsK a parts.toList fun ps =>
            if len * ei.size ≤ 2 ^ 24 then
              match Instr.fill (fun i => some (i * ei.size, ei.size)) ((Array.range (len * ei.size)).map (z.cells[· % z.cells.size]!)) ps with
              | some ⟨cs⟩ => fL cs fun cs => ofListK cs fun c => lenK cs fun n => k (.slice (some ⟨nm, 0, none⟩) len len) (.cells c [] n e false false clk)
              | none => false
            else false
          | none => false
        | none => false
      | _ => false
    | none => false
  | .makeMap t r => evalOK a r fun r => match X.ty t with
    | some i => match i.desc, r with
      | .map _ _, none => k (.map (some nm)) (.map [] 0 clk)
      | .map _ _, some (.int _ _) => k (.map (some nm)) (.map [] 0 clk)
      | _, _ => false
    | none => false
  | .makeSlice t len cap => evalK a len fun len => evalK a cap fun cap => match X.ty t with
    | some i => match i.desc, len, cap with
      | .slice e, .int .i64 l, .int .i64 c => match X.ty e with
        | some ei => match ei.zero with
          | some z => if 0 ≤ l ∧ l ≤ c ∧ c < 2 ^ 40 ∧ ei.bytes * c ≤ 2 ^ 48 ∧ z.cells.size = ei.size then
              cellsK z fun zs => fNat l.toNat fun l => fNat c.toNat fun c => fNat (c * ei.size) fun n => k (.slice (some ⟨nm, 0, none⟩) l c) (.cells .nil zs n e false false clk)
            else false
          | none => false
        | none => false
      | _, _, _ => false
    | none => false
  | _ => false
theorem allocK_eq (X nm clk a op k) : allocK X nm clk a op k = optE (allocA X nm a.eval op) fun p => k p.1 (p.2 clk) := by
  cases op with
  | alloc e =>
    simp only [allocK, allocA]
    cases X.ty e with
    | none => rfl
    | some i =>
      rcases i with ⟨desc, size, bytes, _ | z, agg, methods, cmp⟩
      · rfl
      · simp only [cellsK_eq, ofListK_eq, lenK_eq]; rfl
  | box e x => simp only [allocK, allocA, evalK_eq, cellsK_eq, ofListK_eq, lenK_eq]; rfl
  | buildSlice t len parts =>
    simp only [allocK, allocA]
    cases X.ty t with
    | none => rfl
    | some i =>
      rcases i with ⟨desc, size, bytes, zero, agg, methods, cmp⟩
      cases desc with
      | slice e =>
        simp only
        cases X.ty e with
        | none => rfl
        | some ei =>
          rcases ei with ⟨desc, esz, bytes, _ | z, agg, methods, cmp⟩
          · rfl
          · simp only [partsK_eq]
            by_cases h : len * esz ≤ 2 ^ 24
            · simp only [if_pos h]
              cases Instr.fill (fun i => some (i * esz, esz)) ((Array.range (len * esz)).map (z.cells[· % z.cells.size]!)) (parts.toList.map fun (i, x) => (i, a.eval x)) with
              | none => rfl
              | some cs => rcases cs with ⟨cs⟩; simp only [fL_eq, ofListK_eq, lenK_eq]; rfl
            · simp only [if_neg h]; rfl
      | _ => rfl
  | makeMap t r =>
    simp only [allocK, allocA, evalOK_eq]
    cases X.ty t with
    | none => rfl
    | some i =>
      rcases i with ⟨desc, size, bytes, zero, agg, methods, cmp⟩
      cases desc <;> (cases r.map a.eval with
        | none => rfl
        | some v => cases v <;> rfl)
  | makeSlice t len cap =>
    simp only [allocK, allocA, evalK_eq]
    cases X.ty t with
    | none => rfl
    | some i =>
      rcases i with ⟨desc, size, bytes, zero, agg, methods, cmp⟩
      cases desc with
      | slice e =>
        cases a.eval len with
        | int j l => cases j with
          | i64 => cases a.eval cap with
            | int j c => cases j with
              | i64 =>
                simp only
                cases X.ty e with
                | none => rfl
                | some ei =>
                  rcases ei with ⟨desc, esz, bytes, _ | z, agg, methods, cmp⟩
                  · rfl
                  · simp only [cellsK_eq, fNat_eq]
                    split <;> rfl
              | _ => rfl
            | _ => rfl
          | _ => rfl
        | _ => rfl
      | _ => rfl
  | _ => rfl

/-! ### Operations that change memory -/
def firstK (s : St) (size n : Nat) (x : Value) (k : List Value → Bool) : Bool := match x with
  | .slice (some a) _ _ => fNat (Nat.mul n size) fun m => Bool.rec (motive := fun _ => Bool) (loadNK s a m k) (k []) (Nat.beq m 0)
  | .slice none _ _ => k []
  | .string s => fL ((s.extract 0 n).data.toList.map fun b => .int .u8 b.toNat) k
  | _ => false
theorem firstK_eq (s size n x k) : firstK s size n x k = optE (firstA s.look size n x) k := by
  cases x with
  | slice a l c => cases a with
    | none => rfl
    | some a =>
      simp only [firstK, fNat_eq, firstA]
      cases hb : Nat.beq (Nat.mul n size) 0 with
      | true => rw [if_pos (show n * size = 0 from Nat.eq_of_beq_eq_true hb)]; rfl
      | false => rw [if_neg (show ¬ n * size = 0 from Nat.ne_of_beq_eq_false hb)]; exact loadNK_eq _ _ _ _
  | string b => exact fL_eq _ _
  | _ => rfl
def grownK (c : PT Value) (z : List Value) (m : Nat) (a : Addr) (n : Nat) (new : List Value) (k : PT Value → List Value → Bool) : Bool :=
  Bool.rec (motive := fun _ => Bool) (match a with
    | ⟨_, off, none⟩ => Bool.rec (motive := fun _ => Bool) (readK c z m n off fun old => appK old new fun l => ofListK l fun c => k c [])
      (Bool.rec (motive := fun _ => Bool) false (setLK new c n fun c => k c z) (Nat.ble n m)) (Nat.beq off 0)
    | _ => false) (ofListK new fun c => k c []) (Nat.beq n 0)
theorem grownK_eq (c z m a n new k) : grownK c z m a n new k = optE (grownCells c z m a n new) fun p => k p.1 p.2 := by
  unfold grownK grownCells
  cases hb : Nat.beq n 0 with
  | true => rw [if_pos (Nat.eq_of_beq_eq_true hb)]; exact ofListK_eq _ _
  | false =>
    rw [if_neg (Nat.ne_of_beq_eq_false hb)]
    rcases a with ⟨b, off, _ | q⟩
    · simp only
      cases ho : Nat.beq off 0 with
      | true =>
        rw [if_pos (Nat.eq_of_beq_eq_true ho)]
        cases hm : Nat.ble n m with
        | true => rw [if_pos (Nat.le_of_ble_eq_true hm)]; exact setLK_eq _ _ _ _
        | false =>
          rw [if_neg]
          · rfl
          · intro h; rw [Nat.ble_eq_true_of_le h] at hm; cases hm
      | false =>
        rw [if_neg (Nat.ne_of_beq_eq_false ho)]
        simp only [readK_eq, appK_eq, ofListK_eq]
        cases readCells c z m off n <;> rfl
    · rfl
def appendBK (s : St) (e : TypeId) (esz : Nat) (base : Option Addr) (sLen sCap n : Nat) (new : List Value) (k : Value → St → Bool) : Bool :=
  fNat (Nat.add sLen n) fun t => Bool.rec (motive := fun _ => Bool)
    (match base with
      | none => Bool.rec (motive := fun _ => Bool) false
        (ofListK new fun c => fNat (Nat.mul t esz) fun m => match s with
          | ⟨h, nx, cl⟩ => newK ⟨h, nx, cl⟩ (fun v => .cells c [] m e true false v) fun s => k (.slice (some ⟨nx, 0, none⟩) t t) s) (Nat.beq sLen 0)
      | some a => match s with
        | ⟨h, nx, cl⟩ => getK h a.block fun o => match o with
          | some (.cells c z m e0 room false _) => if e0 = e ∧ inBlock a sLen sCap esz m = true then
              fNat (Nat.mul sLen esz) fun q => grownK c z m a q new fun c' z' => fNat (Nat.mul t esz) fun m' =>
                Bool.rec (motive := fun _ => Bool) (newK ⟨h, nx, cl⟩ (fun v => .cells c' z' m' e true false v) fun s => k (.slice (some ⟨nx, 0, none⟩) t t) s)
                  (putK ⟨h, nx, cl⟩ a.block (fun _ => .dead) fun s => newK s (fun v => .cells c' z' m' e true false v) fun s => k (.slice (some ⟨nx, 0, none⟩) t t) s) room
            else false
          | _ => false)
    (match base with
      | some a => match new with
        | [] => k (.slice base t sCap) s
        | new => fAddr (a.add (Nat.mul sLen esz)) fun a => storeNK s a new fun s => k (.slice base t sCap) s
      | none => Bool.rec (motive := fun _ => Bool) false (k (.slice base t sCap) s) (Nat.beq n 0))
    (Nat.ble t sCap)
theorem appendBK_eq (s e esz base sLen sCap n new k) : appendBK s e esz base sLen sCap n new k = optE (appendB s e esz base sLen sCap n new) fun p => k p.1 p.2 := by
  unfold appendBK appendB
  simp only [fNat_eq]
  cases hb : Nat.ble (Nat.add sLen n) sCap with
  | true =>
    rw [if_pos (show sLen + n ≤ sCap from Nat.le_of_ble_eq_true hb)]
    cases base with
    | none =>
      simp only
      cases hn : Nat.beq n 0 with
      | true => rw [if_pos (Nat.eq_of_beq_eq_true hn)]; rfl
      | false => rw [if_neg (Nat.ne_of_beq_eq_false hn)]; rfl
    | some a =>
      cases new with
      | nil => rfl
      | cons x l =>
        simp only [fAddr_eq, storeNK_eq]
        rw [if_neg (by simp)]
        show optE (storeN s (a.add (sLen * esz)) (x :: l)) _ = _
        cases storeN s (a.add (sLen * esz)) (x :: l) <;> rfl
  | false =>
    rw [if_neg (show ¬ sLen + n ≤ sCap from fun h => by rw [show Nat.ble (Nat.add sLen n) sCap = true from Nat.ble_eq_true_of_le h] at hb; cases hb)]
    rcases s with ⟨h, nx, cl⟩
    cases base with
    | none =>
      simp only
      cases hn : Nat.beq sLen 0 with
      | true => rw [if_pos (Nat.eq_of_beq_eq_true hn)]; simp only [ofListK_eq, newK_eq]; rfl
      | false => rw [if_neg (Nat.ne_of_beq_eq_false hn)]; rfl
    | some a =>
      simp only [getK_eq]
      cases h.get a.block with
      | none => rfl
      | some o =>
        cases o with
        | cells c z m e0 room ro v =>
          cases ro with
          | true => rfl
          | false =>
            simp only
            by_cases hc : e0 = e ∧ inBlock a sLen sCap esz m = true
            · rw [if_pos hc, if_pos hc]
              simp only [grownK_eq]
              show optE (grownCells c z m a (sLen * esz) new) _ = _
              cases grownCells c z m a (sLen * esz) new with
              | none => rfl
              | some p =>
                rcases p with ⟨c', z'⟩
                simp only [optE]
                cases room with
                | true => simp only [putK_eq, newK_eq]; rfl
                | false => simp only [newK_eq]; rfl
            · rw [if_neg hc, if_neg hc]; rfl
        | _ => rfl
def appendK (X : Env) (s : St) (argTypes : Array TypeId) (args : List Value) (k : Value → St → Bool) : Bool :=
  match argTypes.toList, args with
  | [t, t2], [.slice base sLen sCap, x] => match X.ty t with
    | some i => match i.desc, X.ty t2 with
      | .slice e, some i2 => match X.ty e with
        | some ei => match ei.zero, lenA x with
          | some z, some n => firstK s ei.size n x fun new =>
            if new.length = n * ei.size ∧ strOrSlice i2.desc = true ∧ z.cells.size = ei.size ∧ sLen + n < 2 ^ 40 ∧ (2 * (sLen + n) + 1000) * ei.bytes ≤ 2 ^ 47 ∧ new.all one1 = true then
              appendBK s e ei.size base sLen sCap n new k
            else false
          | _, _ => false
        | none => false
      | _, _ => false
    | none => false
  | _, _ => false
theorem appendK_eq (X s ts args k) : appendK X s ts args k = optE (appendA X s ts args) fun p => k p.1 p.2 := by
  unfold appendK appendA
  split
  · rename_i _ _ t t2 base sLen sCap x hts
    simp only [hts]
    cases X.ty t with
    | none => rfl
    | some i =>
      rcases i with ⟨desc, size, bytes, zero, agg, methods, cmp⟩
      cases X.ty t2 with
      | none => cases desc <;> rfl
      | some i2 =>
        cases desc with
        | slice e =>
          simp only
          cases X.ty e with
          | none => rfl
          | some ei =>
            rcases ei with ⟨desc, esz, bytes, _ | z, agg, methods, cmp⟩
            · rfl
            · cases lenA x with
              | none => rfl
              | some n =>
                simp only [firstK_eq]
                cases firstA s.look esz n x with
                | none => rfl
                | some new =>
                  simp only [optE]
                  split
                  · exact appendBK_eq _ _ _ _ _ _ _ _ _
                  · rfl
        | _ => rfl
  · rename_i hno
    split
    · rename_i _ _ t t2 base sLen sCap x hts
      exact absurd rfl (hno t t2 base sLen sCap x hts)
    · rfl

abbrev CallK := FuncId → List Value → St → (Value → St → Bool) → Bool
abbrev RoundK := Nat → List Value → St → (Value → St → Bool) → Bool
def callVK (X : Env) (call : CallK) (round : RoundK) (s : St) (f : Value) (args : List Value) (k : Value → St → Bool) : Bool := match f with
  | .func fn first captured => match fn with
    | .func f => appK args captured.toList fun l => appK first.toList l fun l => call f l s k
    | .yield j => appK first.toList args fun l => round j l s k
    | .method name => appK first.toList args fun l => match l with
      | .iface t v :: rest => match methodA X t v name with
        | some (f, r) => fV r fun r => call f (r :: rest) s k
        | none => false
      | _ => false
    | _ => false
  | _ => false
def RelC (c : CallF) (ck : CallK) : Prop := ∀ f args s k, ck f args s k = (c f args s).elim fun p => k p.1 p.2
theorem callVK_eq {X c r ck rk} (hc : RelC c ck) (hr : RelC r rk) (s f args k) : callVK X ck rk s f args k = (callV X c r s f args).elim fun p => k p.1 p.2 := by
  cases f with
  | func fn first captured =>
    cases fn with
    | func f => simp only [callVK, appK_eq, callV, ← List.append_assoc]; exact hc _ _ _ _
    | yield j => simp only [callVK, appK_eq, callV]; exact hr _ _ _ _
    | method name =>
      simp only [callVK, appK_eq, callV]
      cases first.toList ++ args with
      | nil => rfl
      | cons v rest =>
        cases v with
        | iface t v =>
          simp only
          cases methodA X t v name with
          | none => rfl
          | some p => rcases p with ⟨f, r⟩; simp only [fV_eq]; exact hc _ _ _ _
        | _ => rfl
    | _ => rfl
  | _ => rfl
def noC : CallF := fun _ _ _ => .fail ""
def effectK (X : Env) (call : CallK) (round : RoundK) (s : St) (a : ACt) (op : Op) (k : Value → St → Bool) : Bool := match op with
  | .store t p x => evalK a p fun v => match v with
    | .pointer (some ad) => evalK a x fun v => storeK X s t ad v fun s => k undef s
    | _ => false
  | .next it str => evalK a it fun v => (nextA s v str).elim fun p => fV p.1 fun v => k v p.2
  | .call c => match c.callee with
    | .value f => evalK a f fun v => evalsK a c.args.toList fun l => callVK X call round s v l k
    | .invoke x name => evalK a x fun v => match v with
      | .iface t v => match methodA X t v name with
        | some (f, r) => fV r fun r => evalsK a c.args.toList fun l => call f (r :: l) s k
        | none => false
      | _ => false
    | .builtin .append => evalsK a c.args.toList fun l => appendK X s c.argTypes l k
    | .builtin .copy => evalsK a c.args.toList fun l => optE (copyA X s c.argTypes l) fun p => fV p.1 fun v => k v p.2
    | .builtin .clear => evalsK a c.args.toList fun l => optE (clearA X s c.argTypes l) fun p => fV p.1 fun v => k v p.2
    | .builtin .delete => evalsK a c.args.toList fun l => optE (deleteA X s c.argTypes l) fun p => fV p.1 fun v => k v p.2
    | .builtin _ => false
  | op => (effectA X noC noC s a.eval op).elim fun p => fV p.1 fun v => k v p.2
theorem effectK_eq {X c r ck rk} (hc : RelC c ck) (hr : RelC r rk) (s a op k) : effectK X ck rk s a op k = (effectA X c r s a.eval op).elim fun p => k p.1 p.2 := by
  cases op with
  | store t p x =>
    simp only [effectK, effectA, evalK_eq]
    cases a.eval p with
    | pointer ad =>
      cases ad with
      | none => rfl
      | some ad =>
        simp only [storeK_eq]
        cases storeT X s t ad (a.eval x) <;> rfl
    | _ => rfl
  | next it str => simp only [effectK, effectA, evalK_eq, fV_eq]
  | call cl =>
    simp only [effectK, effectA]
    cases cl.callee with
    | value f => simp only [evalK_eq, evalsK_eq]; exact callVK_eq hc hr _ _ _ _
    | invoke x name =>
      simp only [evalK_eq, evalsK_eq]
      cases a.eval x with
      | iface t v =>
        simp only
        cases methodA X t v name with
        | none => rfl
        | some p => rcases p with ⟨f, r⟩; simp only [fV_eq]; exact hc _ _ _ _
      | _ => rfl
    | builtin b =>
      cases b <;> simp only [evalsK_eq, appendK_eq, elim_ofOption, fV_eq] <;> rfl
  | _ => simp only [effectK, fV_eq]; rfl
def execK (X : Env) (call : CallK) (round : RoundK) (s : St) (a : ACt) (op : Op) (k : Value → St → Bool) : Bool := match kindOf op with
  | .still => stillK X s a op fun v => k v s
  | .alloc => match s with
    | ⟨h, nx, c⟩ => allocK X nx c a op fun v o => newK ⟨h, nx, c⟩ (fun _ => o) fun s => k v s
  | .effect => effectK X call round s a op k
theorem execK_eq {X c r ck rk} (hc : RelC c ck) (hr : RelC r rk) (s a op k) : execK X ck rk s a op k = (execA X c r s a.eval op).elim fun p => k p.1 p.2 := by
  unfold execK execA
  cases kindOf op with
  | still => simp only [stillK_eq]; cases stillA X s.look a.eval op <;> rfl
  | alloc =>
    simp only [allocK_eq, newK_eq]
    cases allocA X s.next a.eval op with
    | none => rfl
    | some p => rcases p with ⟨v, f⟩; rfl
  | effect => exact effectK_eq hc hr _ _ _ _
def wantedK (ops : Array Oper) (a : ACt) (o : Oper) (x y : Bool) : Bool := match o.guard with
  | none => x
  | some (j, w) => nthK ops.toList j fun og => match og with
    | some og => match og.dst with
      | some d => match a with
        | ⟨tm, _⟩ => getK tm d fun v => match v with
          | some (.bool b) => Bool.rec (motive := fun _ => Bool) (Bool.rec (motive := fun _ => Bool) x y w) (Bool.rec (motive := fun _ => Bool) y x w) b
          | _ => y
      | none => y
    | none => y
theorem ite_rec (b x y : Bool) : (Bool.rec (motive := fun _ => Bool) y x b) = if b = true then x else y := by cases b <;> rfl
theorem wantedAt_eq (a : ACt) (w x y : Bool) : ∀ og : Option Oper, (match og with
    | some og => match og.dst with
      | some d => match a with
        | ⟨tm, _⟩ => getK tm d fun v => match v with
          | some (.bool b) => Bool.rec (motive := fun _ => Bool) (Bool.rec (motive := fun _ => Bool) x y w) (Bool.rec (motive := fun _ => Bool) y x w) b
          | _ => y
      | none => y
    | none => y) = Bool.rec (motive := fun _ => Bool) y x ((match og.bind (·.dst) with
      | some d => match a.getT d with
        | .bool b => some b
        | _ => none
      | none => none) == some w)
  | none => rfl
  | some ⟨none, op, ty, pos, after, guard⟩ => rfl
  | some ⟨some d, op, ty, pos, after, guard⟩ => by
      rcases a with ⟨tm, nt⟩
      simp only [getK_eq, Option.bind, ACt.getT]
      cases tm.get d with
      | none => rfl
      | some v => cases v with
        | bool b => cases b <;> cases w <;> rfl
        | _ => rfl
theorem wantedK_eq (ops a o x y) : wantedK ops a o x y = if Region.wanted o (yieldedA ops a) = true then x else y := by
  unfold wantedK Region.wanted
  cases o.guard with
  | none => rfl
  | some g =>
    rcases g with ⟨j, w⟩
    simp only [nthK_eq, Array.getElem?_toList]
    refine (wantedAt_eq a w x y _).trans ?_
    exact ite_rec _ _ _
def runK (X : Env) (call : CallK) (round : RoundK) (ops : Array Oper) (l : List Oper) : ACt → St → (ACt → St → Bool) → Bool := List.rec (motive := fun _ => ACt → St → (ACt → St → Bool) → Bool) (fun a s k => k a s)
  (fun o _ ih a s k => wantedK ops a o (execK X call round s a o.op fun v s => putTK a o.dst v fun a => ih a s k) (putTK a o.dst undef fun a => ih a s k)) l
theorem runK_eq {X c r ck rk} (hc : RelC c ck) (hr : RelC r rk) (ops) : ∀ (l a s k), runK X ck rk ops l a s k = (runOps X c r ops l a s).elim fun p => k p.1 p.2
  | [], _, _, _ => rfl
  | o :: l, a, s, k => by
    show wantedK ops a o (execK X ck rk s a o.op fun v s => putTK a o.dst v fun a => runK X ck rk ops l a s k) (putTK a o.dst undef fun a => runK X ck rk ops l a s k) = _
    rw [wantedK_eq, runOps]
    split
    · rw [execK_eq hc hr, Res.elim_bind]
      congr 1; funext p
      rw [putTK_eq, runK_eq hc hr ops l]
    · rw [putTK_eq, runK_eq hc hr ops l]
end Go.Dust
end
end
section
/- The twin, part 3a: what is checked of a region's text, by continuations. -/
noncomputable section
namespace Go.Dust
open PT (getK getK_eq setK setK_eq setLK setLK_eq ofListK ofListK_eq)

/-! ### What comes before what -/
def Agree (t : PT Nat) (a : Array Nat) : Prop := ∀ i, (t.get i).getD 0 = a.getD i 0
def stepBK (acc : PT Nat) (l : List Edge) : Nat → (Nat → Bool) → Bool := List.rec (motive := fun _ => Nat → (Nat → Bool) → Bool) (fun s k => k s)
  (fun e _ ih s k => Bool.rec (motive := fun _ => Bool) (ih s k) (getK acc e.on fun v => match v with
    | some v => fNat (Nat.lor (Nat.lor s (Nat.pow 2 e.on)) v) fun s => ih s k
    | none => fNat (Nat.lor s (Nat.pow 2 e.on)) fun s => ih s k) (Region.binds .any e)) l
theorem stepBK_eq {t : PT Nat} {a : Array Nat} (h : Agree t a) (k) : ∀ (l : List Edge) (s : Nat), stepBK t l s k = k (l.foldl (fun s e => if Region.binds .any e then s ||| 2 ^ e.on ||| a.getD e.on 0 else s) s)
  | [], _ => rfl
  | e :: l, s => by
    have ih := stepBK_eq h k l
    show (Bool.rec (motive := fun _ => Bool) (stepBK t l s k) (getK t e.on fun v => match v with
      | some v => fNat (Nat.lor (Nat.lor s (Nat.pow 2 e.on)) v) fun s => stepBK t l s k
      | none => fNat (Nat.lor s (Nat.pow 2 e.on)) fun s => stepBK t l s k) (Region.binds .any e)) = _
    rw [List.foldl_cons]
    cases hb : Region.binds .any e with
    | false => rw [if_neg (by simp)]; exact ih s
    | true =>
      rw [if_pos rfl]
      simp only [getK_eq]
      have h1 := h e.on
      cases hg : t.get e.on with
      | none =>
        rw [hg] at h1
        simp only [fNat_eq]
        rw [← h1, ih]
        simp only [Option.getD_none, Nat.or_zero]; rfl
      | some v =>
        rw [hg] at h1
        simp only [fNat_eq]
        rw [← h1, ih]; rfl
def bitsK (l : List Oper) : PT Nat → Nat → (PT Nat → Bool) → Bool := List.rec (motive := fun _ => PT Nat → Nat → (PT Nat → Bool) → Bool) (fun t _ k => k t)
  (fun o _ ih t j k => stepBK t o.after.toList Nat.zero fun b => setK t j b fun t => fNat (Nat.succ j) fun j => ih t j k) l
theorem bitsK_eq (k) : ∀ (l : List Oper) (t : PT Nat) (a : Array Nat), Agree t a → ∃ t', bitsK l t a.size k = k t' ∧ Agree t' (l.foldl (fun acc o => acc.push (stepB acc o)) a)
  | [], t, a, h => ⟨t, rfl, h⟩
  | o :: l, t, a, h => by
    have h' : Agree (t.set a.size (stepB a o)) (a.push (stepB a o)) := by
      intro i
      rw [PT.get_set]
      simp only [Array.getD_eq_getD_getElem?, Array.getElem?_push]
      split
      · rfl
      · rw [h i, Array.getD_eq_getD_getElem?]
    obtain ⟨t', h1, h2⟩ := bitsK_eq k l _ _ h'
    refine ⟨t', ?_, h2⟩
    rw [← h1]
    show (stepBK t o.after.toList 0 fun b => setK t a.size b fun t => fNat (Nat.succ a.size) fun j => bitsK l t j k) = _
    rw [stepBK_eq h]
    simp only [setK_eq, fNat_eq, Array.size_push]
    unfold stepB
    rw [← Array.foldl_toList]
def beforeK (ops : Array Oper) (k : PT Nat → Bool) : Bool := bitsK ops.toList .nil Nat.zero k
theorem beforeK_eq (ops k) : ∃ t, beforeK ops k = k t ∧ Agree t (Region.before ops) := by
  have hb : Region.before ops = ops.toList.foldl (fun acc o => acc.push (stepB acc o)) #[] := by
    unfold Region.before
    rw [← Array.foldl_toList]
    rfl
  rw [hb]
  exact bitsK_eq k ops.toList .nil #[] fun i => by rw [PT.get_nil]; simp
def bitK (b i : Nat) (x y : Bool) : Bool := Bool.rec (motive := fun _ => Bool) y x (Nat.beq (Nat.land (Nat.shiftRight b i) 1) 1)
theorem bitK_eq (b i x y) : bitK b i x y = if b.testBit i = true then x else y := by
  unfold bitK
  have h : Nat.beq (Nat.land (Nat.shiftRight b i) 1) 1 = b.testBit i := by
    rw [Nat.testBit_eq_decide_div_mod_eq]
    have h1 : Nat.land (Nat.shiftRight b i) 1 = b / 2 ^ i % 2 := by
      show (b >>> i) &&& 1 = _
      rw [Nat.and_one_is_mod, Nat.shiftRight_eq_div_pow]
    rw [h1]
    cases hb : Nat.beq (b / 2 ^ i % 2) 1 with
    | true => exact (decide_eq_true (Nat.eq_of_beq_eq_true hb)).symm
    | false => exact (decide_eq_false (Nat.ne_of_beq_eq_false hb)).symm
  rw [h]
  cases b.testBit i <;> rfl

/-! ### Pairs -/
def pairK (oi oj : Oper) (i j : Nat) (k : Option (Nat × Nat) → Bool) : Bool := match kindOf oi.op, kindOf oj.op with
  | .still, .effect => Bool.rec (motive := fun _ => Bool) (k none) (k (some (i, j))) (mayRead oi.op)
  | .effect, .still => Bool.rec (motive := fun _ => Bool) (k none) (k (some (j, i))) (mayRead oj.op)
  | .alloc, .still => Bool.rec (motive := fun _ => Bool) (k none) (k (some (j, i))) (mayRead oj.op)
  | .effect, .effect => false
  | .alloc, .effect => false
  | _, _ => k none
theorem pairK_eq (oi oj i j k) : pairK oi oj i j k = optE (confPair oi oj i j) fun l => k l.head? := by
  unfold pairK confPair
  cases kindOf oi.op <;> cases kindOf oj.op <;> first | rfl | (cases mayRead oi.op <;> rfl) | (cases mayRead oj.op <;> rfl)
theorem confPair_short {oi oj i j l} (h : confPair oi oj i j = some l) : l = [] ∨ ∃ p, l = [p] := by
  unfold confPair at h
  split at h <;> first | cases h | skip
  all_goals first | exact .inl rfl | (split <;> simp)
def confAtK (bj j : Nat) (oj : Oper) (rest : List Oper) : Nat → (List (Nat × Nat) → Bool) → Bool := List.rec (motive := fun _ => Nat → (List (Nat × Nat) → Bool) → Bool) (fun _ k => k [])
  (fun oi _ ih i k => Bool.rec (motive := fun _ => Bool) (k []) (bitK bj i (fNat (Nat.succ i) fun i => ih i k)
    (pairK oi oj i j fun p => match p with
      | none => fNat (Nat.succ i) fun i => ih i k
      | some p => fNat (Nat.succ i) fun i => ih i fun m => k (p :: m))) (Nat.ble (Nat.succ i) j)) rest
theorem confAtK_eq (b : Array Nat) (j oj) : ∀ (rest i k), confAtK (b.getD j 0) j oj rest i k = optE (confAt b j oj rest i) k
  | [], _, _ => rfl
  | oi :: rest, i, k => by
    have ih := confAtK_eq b j oj rest
    show (Bool.rec (motive := fun _ => Bool) (k []) (bitK (b.getD j 0) i (fNat (Nat.succ i) fun i => confAtK (b.getD j 0) j oj rest i k)
      (pairK oi oj i j fun p => match p with
        | none => fNat (Nat.succ i) fun i => confAtK (b.getD j 0) j oj rest i k
        | some p => fNat (Nat.succ i) fun i => confAtK (b.getD j 0) j oj rest i fun m => k (p :: m))) (Nat.ble (Nat.succ i) j)) = _
    rw [confAt]
    cases hb : Nat.ble (Nat.succ i) j with
    | false => rw [if_neg (fun h => by rw [Nat.ble_eq_true_of_le (Nat.succ_le_of_lt h)] at hb; cases hb)]; rfl
    | true =>
      rw [if_pos (show i < j from Nat.le_of_ble_eq_true hb)]
      simp only [bitK_eq]
      split
      · rw [fNat_eq, ih]
      · rw [pairK_eq]
        cases hp : confPair oi oj i j with
        | none => rfl
        | some l =>
          simp only [optE]
          rcases confPair_short hp with rfl | ⟨p, rfl⟩
          · simp only [List.head?_nil, fNat_eq]
            rw [ih]
            cases confAt b j oj rest (i + 1) <;> rfl
          · simp only [List.head?_cons, fNat_eq]
            rw [ih]
            cases confAt b j oj rest (i + 1) <;> rfl
def confFromK (b : PT Nat) (all rest : List Oper) : Nat → (List (Nat × Nat) → Bool) → Bool := List.rec (motive := fun _ => Nat → (List (Nat × Nat) → Bool) → Bool) (fun _ k => k [])
  (fun oj _ ih j k => getK b j fun bj => match bj with
    | some bj => confAtK bj j oj all Nat.zero fun l => fNat (Nat.succ j) fun j => ih j fun m => appK l m k
    | none => confAtK Nat.zero j oj all Nat.zero fun l => fNat (Nat.succ j) fun j => ih j fun m => appK l m k) rest
theorem confFromK_eq {t : PT Nat} {b : Array Nat} (h : Agree t b) (all) : ∀ (rest j k), confFromK t all rest j k = optE (confFrom b all rest j) k
  | [], _, _ => rfl
  | oj :: rest, j, k => by
    have ih := confFromK_eq h all rest
    have hh : confFromK t all (oj :: rest) j k = confAtK ((t.get j).getD 0) j oj all 0 fun l => confFromK t all rest (j + 1) fun m => k (l ++ m) := by
      show (getK t j fun bj => match bj with
        | some bj => confAtK bj j oj all Nat.zero fun l => fNat (Nat.succ j) fun j => confFromK t all rest j fun m => appK l m k
        | none => confAtK Nat.zero j oj all Nat.zero fun l => fNat (Nat.succ j) fun j => confFromK t all rest j fun m => appK l m k) = _
      simp only [getK_eq, fNat_eq, appK_eq]
      cases t.get j <;> rfl
    rw [hh, h j, confAtK_eq, confFrom]
    cases confAt b j oj all 0 with
    | none => rfl
    | some l =>
      simp only [optE]
      rw [ih]
      cases confFrom b all rest (j + 1) <;> rfl
def confK (ops : Array Oper) (k : List (Nat × Nat) → Bool) : Bool := beforeK ops fun b => confFromK b ops.toList ops.toList Nat.zero k
theorem confK_eq (ops k) : confK ops k = optE (conf ops) k := by
  obtain ⟨t, h1, h2⟩ := beforeK_eq ops fun b => confFromK b ops.toList ops.toList Nat.zero k
  unfold confK conf
  rw [h1, confFromK_eq h2]

/-! ### What is asked of a function's text -/
def memK (d : Nat) (l : List Nat) (x y : Bool) : Bool := List.rec (motive := fun _ => Bool) y (fun e _ ih => Bool.rec (motive := fun _ => Bool) ih x (Nat.beq d e)) l
theorem memK_eq (d x y) : ∀ l : List Nat, memK d l x y = if l.contains d = true then x else y
  | [] => rfl
  | e :: l => by
    show (Bool.rec (motive := fun _ => Bool) (memK d l x y) x (Nat.beq d e)) = _
    rw [memK_eq d x y l, List.contains_cons]
    cases hb : Nat.beq d e with
    | true => have := Nat.eq_of_beq_eq_true hb; simp [this]
    | false =>
      have := Nat.ne_of_beq_eq_false hb
      have h : (d == e) = false := by simpa using this
      rw [h]; rfl
def apartK (d : Option Tmp) (l : List Tmp) (x : Bool) : Bool := match d with
  | some d => memK d l false x
  | none => x
theorem apartK_eq (d l x) : apartK d l x = if (match d with | some d => l.contains d | none => false) = true then false else x := by
  cases d with
  | none => rfl
  | some d => exact memK_eq d false x l
def okAtK (ops : Array Oper) (bj : Nat) (oj : Oper) (tj : List Tmp) (j : Nat) (rest : List Oper) : Nat → Bool → Bool := List.rec (motive := fun _ => Nat → Bool → Bool) (fun _ x => x)
  (fun oi _ ih i x => Bool.rec (motive := fun _ => Bool) x (bitK bj i (fNat (Nat.succ i) fun i => ih i x)
    (apartK oi.dst tj (apartK oj.dst (tmpsOf ops oi) (fNat (Nat.succ i) fun i => ih i x)))) (Nat.ble (Nat.succ i) j)) rest
theorem three (a b c d x : Bool) : (if a = true then (if d = true then x else false) else if b = true then false else if c = true then false else (if d = true then x else false)) = if ((a || !(b || c)) && d) = true then x else false := by
  cases a <;> cases b <;> cases c <;> cases d <;> rfl
theorem three' (a b c x : Bool) : (if b = true then (if (a && c) = true then x else false) else false) = if (a && b && c) = true then x else false := by
  cases a <;> cases b <;> cases c <;> rfl
theorem okAtK_eq (ops : Array Oper) (b : Array Nat) (oj j) : ∀ (rest i x), okAtK ops (b.getD j 0) oj (tmpsOf ops oj) j rest i x = if okPairsAt ops b oj j rest i = true then x else false
  | [], _, _ => rfl
  | oi :: rest, i, x => by
    have ih := okAtK_eq ops b oj j rest
    show (Bool.rec (motive := fun _ => Bool) x (bitK (b.getD j 0) i (fNat (Nat.succ i) fun i => okAtK ops (b.getD j 0) oj (tmpsOf ops oj) j rest i x)
      (apartK oi.dst (tmpsOf ops oj) (apartK oj.dst (tmpsOf ops oi) (fNat (Nat.succ i) fun i => okAtK ops (b.getD j 0) oj (tmpsOf ops oj) j rest i x)))) (Nat.ble (Nat.succ i) j)) = _
    rw [okPairsAt]
    cases hb : Nat.ble (Nat.succ i) j with
    | false =>
      have hlt : ¬ i < j := fun h => by rw [Nat.ble_eq_true_of_le (Nat.succ_le_of_lt h)] at hb; cases hb
      simp only [if_neg hlt]; rfl
    | true =>
      simp only [if_pos (show i < j from Nat.le_of_ble_eq_true hb)]
      simp only [bitK_eq, apartK_eq, fNat_eq, ih, okPair]
      exact three _ _ _ _ _
def okFromK (ops : Array Oper) (b : PT Nat) (rest : List Oper) : Nat → Bool → Bool := List.rec (motive := fun _ => Nat → Bool → Bool) (fun _ x => x)
  (fun oj _ ih j x => getK b j fun bj => match bj with
    | some bj => okAtK ops bj oj (tmpsOf ops oj) j ops.toList Nat.zero (fNat (Nat.succ j) fun j => ih j x)
    | none => okAtK ops Nat.zero oj (tmpsOf ops oj) j ops.toList Nat.zero (fNat (Nat.succ j) fun j => ih j x)) rest
theorem okFromK_eq {t : PT Nat} {b : Array Nat} (h : Agree t b) (ops) : ∀ (rest j x), okFromK ops t rest j x = if okPairs ops b rest j = true then x else false
  | [], _, _ => rfl
  | oj :: rest, j, x => by
    have ih := okFromK_eq h ops rest
    have hh : okFromK ops t (oj :: rest) j x = okAtK ops ((t.get j).getD 0) oj (tmpsOf ops oj) j ops.toList 0 (okFromK ops t rest (j + 1) x) := by
      show (getK t j fun bj => match bj with
        | some bj => okAtK ops bj oj (tmpsOf ops oj) j ops.toList Nat.zero (fNat (Nat.succ j) fun j => okFromK ops t rest j x)
        | none => okAtK ops Nat.zero oj (tmpsOf ops oj) j ops.toList Nat.zero (fNat (Nat.succ j) fun j => okFromK ops t rest j x)) = _
      simp only [getK_eq, fNat_eq]
      cases t.get j <;> rfl
    rw [hh, h j, okAtK_eq, ih, okPairs]
    cases okPairsAt ops b oj j ops.toList 0 <;> simp
def okDrawK (ops : Array Oper) (x : Bool) : Bool := beforeK ops fun b => okFromK ops b ops.toList Nat.zero (Bool.rec (motive := fun _ => Bool) false x (okEdgesAll ops.toList 0))
theorem okDrawK_eq (ops x) : okDrawK ops x = if okDraw ops = true then x else false := by
  obtain ⟨t, h1, h2⟩ := beforeK_eq ops fun b => okFromK ops b ops.toList Nat.zero (Bool.rec (motive := fun _ => Bool) false x (okEdgesAll ops.toList 0))
  unfold okDrawK okDraw
  rw [h1, okFromK_eq h2]
  show (if okPairs ops (Region.before ops) ops.toList 0 = true then _ else _) = _
  cases okPairs ops (Region.before ops) ops.toList 0 <;> cases okEdgesAll ops.toList 0 <;> rfl
def okOpersK (nt : Nat) (l : List Oper) (x : Bool) : Bool := List.rec (motive := fun _ => Bool) x (fun o _ ih => Bool.rec (motive := fun _ => Bool) false ih (okOper nt o)) l
theorem okOpersK_eq (nt x) : ∀ l : List Oper, okOpersK nt l x = if l.all (okOper nt) = true then x else false
  | [] => rfl
  | o :: l => by
    show (Bool.rec (motive := fun _ => Bool) false (okOpersK nt l x) (okOper nt o)) = _
    rw [okOpersK_eq nt x l, List.all_cons]
    cases okOper nt o <;> simp
def andK (b x : Bool) : Bool := Bool.rec (motive := fun _ => Bool) false x b
theorem andK_eq (b x) : andK b x = if b = true then x else false := by cases b <;> rfl
def okCodeK (nt : Nat) (c : Code) : Bool → Bool := Code.rec (motive := fun _ => Bool → Bool)
  (fun x => x)
  (fun _ ops draw x => okOpersK nt ops.toList (Bool.rec (motive := fun _ => Bool) x (okDrawK ops x) draw))
  (fun _ _ ia ib x => ia (ib x))
  (fun c _ _ ia ib x => andK (okOperand nt c) (ia (ib x)))
  (fun _ _ ib x => ib x)
  (fun _ ib x => ib x)
  (fun g ps _ _ ia ib x => andK (okOperand nt g && ps.toList.all (fun p => decide (p < nt))) (ia (ib x)))
  (fun _ x => x)
  (fun _ _ x => x)
  (fun _ x => x)
  (fun _ x => x)
  (fun x => x)
  (fun _ x => x) c
theorem okCodeK_eq (nt : Nat) : ∀ (c : Code) (x : Bool), okCodeK nt c x = if okCode nt c = true then x else false := by
  intro c
  induction c with
  | region id ops draw =>
    intro x
    show okOpersK nt ops.toList (Bool.rec (motive := fun _ => Bool) x (okDrawK ops x) draw) = _
    rw [okOpersK_eq, okCode, okDrawK_eq]
    cases ops.toList.all (okOper nt) <;> cases draw <;> cases okDraw ops <;> rfl
  | seq a b ia ib =>
    intro x
    show okCodeK nt a (okCodeK nt b x) = _
    rw [ia, ib, okCode]
    cases okCode nt a <;> cases okCode nt b <;> rfl
  | cond c a b ia ib =>
    intro x
    show andK (okOperand nt c) (okCodeK nt a (okCodeK nt b x)) = _
    rw [andK_eq, ia, ib, okCode]
    cases okOperand nt c <;> cases okCode nt a <;> cases okCode nt b <;> rfl
  | rangeFunc g ps a b ia ib =>
    intro x
    show andK (okOperand nt g && ps.toList.all (fun p => decide (p < nt))) (okCodeK nt a (okCodeK nt b x)) = _
    rw [andK_eq, ia, ib, okCode]
    cases okOperand nt g <;> cases ps.toList.all (fun p => decide (p < nt)) <;> cases okCode nt a <;> cases okCode nt b <;> rfl
  | block id b ib => intro x; show okCodeK nt b x = _; rw [ib, okCode]
  | loop b ib => intro x; show okCodeK nt b x = _; rw [ib, okCode]
  | _ => intro x; rw [okCode]; rfl
def okFnK (f : Func) (x : Bool) : Bool := match f.body with
  | some c => okCodeK f.ntmps c (andK (f.name != "runtime.NumGoroutine" && okResults f.ntmps f.results.toList) x)
  | none => x
theorem okFnK_eq (f x) : okFnK f x = if okFn f = true then x else false := by
  unfold okFnK okFn
  cases f.body with
  | none => rfl
  | some c =>
    simp only [okCodeK_eq, andK_eq]
    exact three' _ _ _ _
def okAllK (l : List Func) : Bool := List.rec (motive := fun _ => Bool) true (fun f _ ih => okFnK f ih) l
theorem okAllK_all : ∀ {l : List Func}, okAllK l = true → ∀ f ∈ l, okFn f = true
  | [], _, f, hf => by cases hf
  | g :: l, h, f, hf => by
    have h' : okFnK g (okAllK l) = true := h
    rw [okFnK_eq] at h'
    split at h'
    · rename_i hg
      cases hf with
      | head => exact hg
      | tail _ hf => exact okAllK_all h' f hf
    · cases h'
def fnTabF (P : Program) : PT (Option Func) := PT.ofList (P.funcs.toList.map some)
def envF (P : Program) : Env := { ty := fun t => match (tyTab P).get t with | some x => x | none => none, fn := fun f => match (fnTabF P).get f with | some x => x | none => none }
theorem env_eq {P : Program} (h : okAllK P.funcs.toList = true) : env P = envF P := by
  have : fnTab P = fnTabF P := by
    unfold fnTab fnTabF
    congr 1
    apply List.map_congr_left
    intro f hf
    rw [if_pos (okAllK_all h f hf)]
  unfold env envF
  rw [this]
  rfl
end Go.Dust
end
end
