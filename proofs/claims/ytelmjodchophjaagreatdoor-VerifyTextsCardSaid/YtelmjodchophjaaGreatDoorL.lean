/- UH UI -/
import Derived.Test.YtelmjodchophjaaGreatDoorK
set_option linter.unusedVariables false
set_option linter.unusedSimpArgs false
section
/- The reference's Parse. -/
namespace Go.Dust
open Go.Proofs
set_option maxRecDepth 100000
set_option maxHeartbeats 4000000
set_option linter.unusedSimpArgs false
set_option linter.unusedVariables false
theorem t10 : (((10 : UInt8).toNat : Nat) : Int) = 10 := rfl
theorem t32 : (((32 : UInt8).toNat : Nat) : Int) = 32 := rfl
def joinC (c : UInt8) : List (List UInt8) → List UInt8
  | [] => []
  | [w] => w
  | w :: ws => w ++ c :: joinC c ws
theorem join_cut (c : UInt8) : ∀ (l cur : List UInt8), joinC c (cutFrom c cur l) = cur ++ l
  | [], cur => by simp [cutFrom, joinC]
  | x :: l, cur => by
    rw [cutFrom]
    split
    · rename_i h
      subst h
      cases hc : cutFrom x [] l with
      | nil => exact absurd hc (cut_ne _ _ _)
      | cons w ws =>
        have := join_cut x l []
        rw [hc] at this
        rw [joinC, this]
        · simp
        · simp
    · rw [join_cut c l]; simp
theorem cut_inj {c : UInt8} {l m : List UInt8} (h : cut c l = cut c m) : l = m := by
  have h1 := join_cut c l []
  have h2 := join_cut c m []
  unfold cut at h
  rw [h, h2] at h1
  simpa using h1.symm
/-- What the lines say of their number. -/
theorem long_iff {S : List UInt8} {n : Nat} (hn : n = if (cut 10 S).getLast (cut_ne 10 S []) = [] then (cut 10 S).length - 1 else (cut 10 S).length) : 4000 < n ↔ tooLong S := by
  have h1 : (cut 10 S).length = S.count 10 + 1 := cut_len 10 S []
  have h2 := cut_last 10 S []
  unfold tooLong
  by_cases hl : (cut 10 S).getLast (cut_ne 10 S []) = []
  · rw [if_pos hl] at hn
    have h3 := h2.1 hl
    constructor
    · intro h; left; omega
    · rintro (h | ⟨h, h'⟩)
      · omega
      · rcases h3 with ⟨rfl, _⟩ | h3
        · simp at h
        · rw [h3] at h'; cases h'
  · rw [if_neg hl] at hn
    have h3 : Lib.hasSuffix S [10] = false := by
      cases hh : Lib.hasSuffix S [10] with
      | false => rfl
      | true => exact absurd (h2.2 (.inr hh)) hl
    constructor
    · intro h
      by_cases hc : S.count 10 = 4000
      · exact .inr ⟨hc, h3⟩
      · left; omega
    · rintro (h | ⟨h, _⟩) <;> omega
theorem cut_mem_len {c : UInt8} : ∀ (l cur : List UInt8), ∀ w ∈ cutFrom c cur l, w.length ≤ cur.length + l.length
  | [], cur, w, h => by rw [List.mem_singleton.1 h]; omega
  | x :: l, cur, w, h => by
    rw [cutFrom] at h
    split at h
    · rcases List.mem_cons.1 h with rfl | h
      · omega
      · have := cut_mem_len l [] w h
        simp at this ⊢
        omega
    · have := cut_mem_len l (cur ++ [x]) w h
      simp at this ⊢
      omega
theorem num_is {q : Bool} {s : St} {Φ : Value → St → Prop} {S : List UInt8} (hs : Ok s) (hS : S.length ≤ 100000) (h : ∀ (m : Int) (ok : Bool), (ok = true → in64 m ∧ S = Lib.itoa m) → (ok = false → ∀ n, in64 n → S ≠ Lib.itoa n) → Φ (.tuple #[int m, .bool ok]) s) : okF q X KT 31 [str S] s Φ :=
  num_ok hs hS (fun n hn e => h n true (fun _ => ⟨hn, e⟩) (fun h => by cases h)) fun hno m => h m false (fun h => by cases h) fun _ => hno
theorem push_ft {s : St} (hs : Ok s) {a : Option Addr} {n c : Nat} {L : List Ft} (B : Buf s 37 3 (.slice a n c) (L.flatMap ftV)) (f : Ft) {b : Nat} (O : Obj s b (ftV f)) (hn : n < 1000000) :
    ∃ a' c' s', appendA X s #[22, 22] [.slice a n c, .slice (some ⟨b, 0, none⟩) 1 1] = some (.slice a' (n + 1) c', s') ∧ Buf s' 37 3 (.slice a' (n + 1) c') ((L ++ [f]).flatMap ftV) ∧ Keeps (nameOf (.slice a n c)) s s' ∧ (∀ y ∈ nameOf (.slice a' (n + 1) c'), y ∈ nameOf (.slice a n c) ∨ s.next ≤ y) := by
  obtain ⟨v, s', e, b1, k1, m1, a', c', rfl⟩ := append_buf (X := X) (t := 22) (e := 37) (N := 3) (B := 24) (z := .agg #[int 0, int 0, int 0]) (x := .slice (some ⟨b, 0, none⟩) 1 1) (k := 1) (new := ftV f) (by kernel_rfl) (by kernel_rfl) rfl hs (by omega) B rfl (first_one (by omega) (O.loadN (i := 0) (k := 3) (Nat.le_refl _))) rfl rfl (by omega) (by omega)
  exact ⟨a', c', s', e, by rw [List.flatMap_append, List.flatMap_singleton]; exact b1, k1, m1⟩
section
variable {q : Bool} {s : St} {Φ : Value → St → Prop}
theorem tf_10 : type_of% (And.intro @RC <| And.intro @RO <| And.intro @RD <| And.intro @RV <| And.intro @RB <| And.intro @RG <| And.intro @len_45 <| And.intro @ix_45 <| And.intro @ld_9 <| And.intro @bs_22_0_ <| And.intro @bd_37_0 <| And.intro @al_37 <| And.intro @st_37 <| And.intro @fa_37_0 <| And.intro @st_3 <| And.intro @ld_3 <| And.intro @fa_37_1 <| And.intro @fa_37_2 <| And.intro @ld_37 <| @bs_22_1_0) := And.intro @RC <| And.intro @RO <| And.intro @RD <| And.intro @RV <| And.intro @RB <| And.intro @RG <| And.intro @len_45 <| And.intro @ix_45 <| And.intro @ld_9 <| And.intro @bs_22_0_ <| And.intro @bd_37_0 <| And.intro @al_37 <| And.intro @st_37 <| And.intro @fa_37_0 <| And.intro @st_3 <| And.intro @ld_3 <| And.intro @fa_37_1 <| And.intro @fa_37_2 <| And.intro @ld_37 <| @bs_22_1_0
theorem rparse_ok {S : List UInt8} (hs : Ok s) (hS : S.length ≤ 40000) (hlong : tooLong S → ∀ s', Keeps [] s s' → Φ (.tuple #[.slice none 0 0, int 3]) s')
    (htext : ¬ tooLong S → ∀ L, (∀ f ∈ L, ftGood f) → S = ftText L → ∀ a c s', Keeps [] s s' → Sl s' 3 (.slice a L.length c) (L.flatMap ftV) → Φ (.tuple #[.slice a L.length c, int 0]) s')
    (hform : ¬ tooLong S → (∀ L, (∀ f ∈ L, ftGood f) → S ≠ ftText L) → ∀ s', Keeps [] s s' → Φ (.tuple #[.slice none 0 0, int 2]) s') : okF q X KT 10 [str S] s Φ := by
  obtain ⟨W, hW⟩ : ∃ W, W = cut 10 S := ⟨_, rfl⟩
  have hWne : W ≠ [] := by rw [hW]; exact cut_ne 10 S []
  have hWl : 0 < W.length := List.length_pos_iff.2 hWne
  have hWS : W.length ≤ 40001 := by
    rw [hW, cut_len]
    have := List.count_le_length (a := (10 : UInt8)) (l := S)
    omega
  refine okF_body rfl fn_10 rfl (rs := [.tmp 2, .tmp 3]) rfl (N := 101) rfl rfl ?_
  refine okC_seq_g fun Ψ0 hΨ0 hΨ0' => ?_
  simp only [tf_10, ↓reduceIte, Nat.reduceEqDiff, reduceCtorEq, Int.reduceEq, Nat.reduceMul, Nat.reduceAdd, Nat.reduceBEq, Int.reduceBEq, noteOk, List.mem_cons, List.not_mem_nil, true_or, or_true, or_false, true_and, and_true, Nat.reduceLT, Nat.reduceLeDiff, List.contains_cons, List.contains_nil]
  refine hΨ0 _ _ ?_
  refine okC_seq_g fun Ψ1 hΨ1 hΨ1' => ?_
  simp only [tf_10, ↓reduceIte, Nat.reduceEqDiff, reduceCtorEq, Int.reduceEq, Nat.reduceMul, Nat.reduceAdd, Nat.reduceBEq, Int.reduceBEq, noteOk, List.mem_cons, List.not_mem_nil, true_or, or_true, or_false, true_and, and_true, Nat.reduceLT, Nat.reduceLeDiff, List.contains_cons, List.contains_nil]
  refine okO_callx ?_ (words_ok (S := S) (y := 10) hs (by omega) fun va vc s1 hl1 k1 n1 => ?_)
  · simp only [tf_10, ↓reduceIte, Nat.reduceEqDiff, reduceCtorEq, Int.reduceEq, Nat.reduceMul, Nat.reduceAdd, Nat.reduceBEq, Int.reduceBEq, noteOk, List.mem_cons, List.not_mem_nil, true_or, or_true, or_false, true_and, and_true, Nat.reduceLT, Nat.reduceLeDiff, List.contains_cons, List.contains_nil, t10]
  rw [← hW] at hl1 n1
  rw [← hW]
  try simp only [tf_10, ↓reduceIte, Nat.reduceEqDiff, reduceCtorEq, Int.reduceEq, Nat.reduceMul, Nat.reduceAdd, Nat.reduceBEq, Int.reduceBEq, noteOk, List.mem_cons, List.not_mem_nil, true_or, or_true, or_false, true_and, and_true, Nat.reduceLT, Nat.reduceLeDiff, List.contains_cons, List.contains_nil]
  refine hΨ1 _ _ ?_
  refine okC_seq_g fun Ψ2 hΨ2 hΨ2' => ?_
  simp only [tf_10, ↓reduceIte, Nat.reduceEqDiff, reduceCtorEq, Int.reduceEq, Nat.reduceMul, Nat.reduceAdd, Nat.reduceBEq, Int.reduceBEq, noteOk, List.mem_cons, List.not_mem_nil, true_or, or_true, or_false, true_and, and_true, Nat.reduceLT, Nat.reduceLeDiff, List.contains_cons, List.contains_nil]
  refine hΨ2 _ _ ?_
  obtain ⟨lst, hlst⟩ : ∃ lst, lst = W.getLast hWne := ⟨_, rfl⟩
  have hx : W[W.length - 1]? = some lst := by rw [hlst, List.getLast_eq_getElem]; exact List.getElem?_eq_getElem _
  obtain ⟨b, off, rfl⟩ := hl1.addr hWl
  have hld := hl1.get hx
  have hw1 : IntKind.i64.wrap ((W.length : Int) - 1) = ((W.length - 1 : Nat) : Int) := by rw [wrapI (by omega) (by omega)]; omega
  have p1 : (0 : Int) ≤ ((W.length - 1 : Nat) : Int) := Int.natCast_nonneg _
  have p2 : ((W.length - 1 : Nat) : Int) < (W.length : Int) := by omega
  obtain ⟨n, hn⟩ : ∃ n, n = if lst = [] then W.length - 1 else W.length := ⟨_, rfl⟩
  have hlong' : 4000 < n ↔ tooLong S := long_iff (by rw [hn, hlst]; simp only [hW])
  refine okC_seq_g fun Ψ3 hΨ3 hΨ3' => ?_
  refine okC_seq_g fun Ψ4 hΨ4 hΨ4' => ?_
  have main : ∀ a', a'.getT 4 = .slice (some ⟨b, off, none⟩) W.length vc → a'.getT 5 = int n → Ψ3 .normal a' s1 := by
    intro a1 r4 r5
    refine hΨ3 _ _ ?_
    refine okC_seq_g fun Ψ5 hΨ5 hΨ5' => ?_
    refine okC_seq_g fun Ψ6 hΨ6 hΨ6' => ?_
    by_cases hlg : 4000 < n
    · have e0 : decide ((n : Int) > 4000) = true := decide_eq_true (by omega)
      simp only [tf_10, ↓reduceIte, Nat.reduceEqDiff, reduceCtorEq, Int.reduceEq, Nat.reduceMul, Nat.reduceAdd, Nat.reduceBEq, Int.reduceBEq, noteOk, List.mem_cons, List.not_mem_nil, true_or, or_true, or_false, true_and, and_true, Nat.reduceLT, Nat.reduceLeDiff, List.contains_cons, List.contains_nil, r5, e0]
      refine hΨ6 _ _ ?_
      simp only [okC_cnd, RV, RG, ↓reduceIte, Nat.reduceEqDiff, reduceCtorEq, Int.reduceEq, Nat.reduceMul, Nat.reduceAdd, Nat.reduceBEq, Int.reduceBEq, noteOk, List.mem_cons, List.not_mem_nil, true_or, or_true, or_false, true_and, and_true, Nat.reduceLT, Nat.reduceLeDiff, List.contains_cons, List.contains_nil]
      refine okC_seq_g fun Ψ7 hΨ7 hΨ7' => ?_
      simp only [tf_10, ↓reduceIte, Nat.reduceEqDiff, reduceCtorEq, Int.reduceEq, Nat.reduceMul, Nat.reduceAdd, Nat.reduceBEq, Int.reduceBEq, noteOk, List.mem_cons, List.not_mem_nil, true_or, or_true, or_false, true_and, and_true, Nat.reduceLT, Nat.reduceLeDiff, List.contains_cons, List.contains_nil]
      refine hΨ7 _ _ ?_
      simp only [tf_10, ↓reduceIte, Nat.reduceEqDiff, reduceCtorEq, Int.reduceEq, Nat.reduceMul, Nat.reduceAdd, Nat.reduceBEq, Int.reduceBEq, noteOk, List.mem_cons, List.not_mem_nil, true_or, or_true, or_false, true_and, and_true, Nat.reduceLT, Nat.reduceLeDiff, List.contains_cons, List.contains_nil]
      refine hΨ5' _ _ _ (by simp) ?_
      simp only [tf_10, ↓reduceIte, Nat.reduceEqDiff, reduceCtorEq, Int.reduceEq, Nat.reduceMul, Nat.reduceAdd, Nat.reduceBEq, Int.reduceBEq, noteOk, List.mem_cons, List.not_mem_nil, true_or, or_true, or_false, true_and, and_true, Nat.reduceLT, Nat.reduceLeDiff, List.contains_cons, List.contains_nil]
      exact hlong (hlong'.1 hlg) s1 k1
    have hns : ¬ tooLong S := fun h => hlg (hlong'.2 h)
    have e0 : decide ((n : Int) > 4000) = false := decide_eq_false (by omega)
    simp only [tf_10, ↓reduceIte, Nat.reduceEqDiff, reduceCtorEq, Int.reduceEq, Nat.reduceMul, Nat.reduceAdd, Nat.reduceBEq, Int.reduceBEq, noteOk, List.mem_cons, List.not_mem_nil, true_or, or_true, or_false, true_and, and_true, Nat.reduceLT, Nat.reduceLeDiff, List.contains_cons, List.contains_nil, r5, e0]
    refine hΨ6 _ _ ?_
    simp only [tf_10, ↓reduceIte, Nat.reduceEqDiff, reduceCtorEq, Int.reduceEq, Nat.reduceMul, Nat.reduceAdd, Nat.reduceBEq, Int.reduceBEq, noteOk, List.mem_cons, List.not_mem_nil, true_or, or_true, or_false, true_and, and_true, Nat.reduceLT, Nat.reduceLeDiff, List.contains_cons, List.contains_nil]
    refine hΨ5 _ _ ?_
    refine okC_seq_g fun Ψ7 hΨ7 hΨ7' => ?_
    refine okC_seq_g fun Ψ8 hΨ8 hΨ8' => ?_
    by_cases hl : lst = []
    case neg =>
      have e1 : (lst == []) = false := by simp [hl]
      simp only [tf_10, ↓reduceIte, Nat.reduceEqDiff, reduceCtorEq, Int.reduceEq, Nat.reduceMul, Nat.reduceAdd, Nat.reduceBEq, Int.reduceBEq, noteOk, List.mem_cons, List.not_mem_nil, true_or, or_true, or_false, true_and, and_true, Nat.reduceLT, Nat.reduceLeDiff, List.contains_cons, List.contains_nil, r4, hw1, p1, p2, and_self, addr_add, Int.toNat_natCast, Nat.mul_one, hld, ne_str, bn_s, k_no, e1]
      refine hΨ8 _ _ ?_
      simp only [okC_cnd, RV, RG, ↓reduceIte, Nat.reduceEqDiff, reduceCtorEq, Int.reduceEq, Nat.reduceMul, Nat.reduceAdd, Nat.reduceBEq, Int.reduceBEq, noteOk, List.mem_cons, List.not_mem_nil, true_or, or_true, or_false, true_and, and_true, Nat.reduceLT, Nat.reduceLeDiff, List.contains_cons, List.contains_nil]
      refine okC_seq_g fun Ψ9 hΨ9 hΨ9' => ?_
      simp only [tf_10, ↓reduceIte, Nat.reduceEqDiff, reduceCtorEq, Int.reduceEq, Nat.reduceMul, Nat.reduceAdd, Nat.reduceBEq, Int.reduceBEq, noteOk, List.mem_cons, List.not_mem_nil, true_or, or_true, or_false, true_and, and_true, Nat.reduceLT, Nat.reduceLeDiff, List.contains_cons, List.contains_nil]
      refine hΨ9 _ _ ?_
      simp only [tf_10, ↓reduceIte, Nat.reduceEqDiff, reduceCtorEq, Int.reduceEq, Nat.reduceMul, Nat.reduceAdd, Nat.reduceBEq, Int.reduceBEq, noteOk, List.mem_cons, List.not_mem_nil, true_or, or_true, or_false, true_and, and_true, Nat.reduceLT, Nat.reduceLeDiff, List.contains_cons, List.contains_nil]
      refine hΨ7' _ _ _ (by simp) ?_
      simp only [tf_10, ↓reduceIte, Nat.reduceEqDiff, reduceCtorEq, Int.reduceEq, Nat.reduceMul, Nat.reduceAdd, Nat.reduceBEq, Int.reduceBEq, noteOk, List.mem_cons, List.not_mem_nil, true_or, or_true, or_false, true_and, and_true, Nat.reduceLT, Nat.reduceLeDiff, List.contains_cons, List.contains_nil]
      refine hform hns (fun L hL e => hl ?_) s1 k1
      have : W.getLast? = some [] := by rw [hW, e, ftText_cut]; simp
      rw [List.getLast?_eq_some_getLast hWne] at this
      rw [hlst]
      exact Option.some.inj this
    have e1 : (lst == []) = true := by simp [hl]
    simp only [tf_10, ↓reduceIte, Nat.reduceEqDiff, reduceCtorEq, Int.reduceEq, Nat.reduceMul, Nat.reduceAdd, Nat.reduceBEq, Int.reduceBEq, noteOk, List.mem_cons, List.not_mem_nil, true_or, or_true, or_false, true_and, and_true, Nat.reduceLT, Nat.reduceLeDiff, List.contains_cons, List.contains_nil, r4, hw1, p1, p2, and_self, addr_add, Int.toNat_natCast, Nat.mul_one, hld, ne_str, bn_s, k_no, e1]
    refine hΨ8 _ _ ?_
    simp only [tf_10, ↓reduceIte, Nat.reduceEqDiff, reduceCtorEq, Int.reduceEq, Nat.reduceMul, Nat.reduceAdd, Nat.reduceBEq, Int.reduceBEq, noteOk, List.mem_cons, List.not_mem_nil, true_or, or_true, or_false, true_and, and_true, Nat.reduceLT, Nat.reduceLeDiff, List.contains_cons, List.contains_nil]
    refine hΨ7 _ _ ?_
    refine okC_seq_g fun Ψ9 hΨ9 hΨ9' => ?_
    obtain ⟨s2, e2, k2, c2, n2⟩ := new_obj k1.ok (L := []) (n := 0) (e := 37) rfl
    simp only [tf_10, ↓reduceIte, Nat.reduceEqDiff, reduceCtorEq, Int.reduceEq, Nat.reduceMul, Nat.reduceAdd, Nat.reduceBEq, Int.reduceBEq, noteOk, List.mem_cons, List.not_mem_nil, true_or, or_true, or_false, true_and, and_true, Nat.reduceLT, Nat.reduceLeDiff, List.contains_cons, List.contains_nil]
    rw [e2]
    try simp only [tf_10, ↓reduceIte, Nat.reduceEqDiff, reduceCtorEq, Int.reduceEq, Nat.reduceMul, Nat.reduceAdd, Nat.reduceBEq, Int.reduceBEq, noteOk, List.mem_cons, List.not_mem_nil, true_or, or_true, or_false, true_and, and_true, Nat.reduceLT, Nat.reduceLeDiff, List.contains_cons, List.contains_nil]
    refine hΨ9 _ _ ?_
    refine okC_seq_g fun Ψ10 hΨ10 hΨ10' => ?_
    refine okC_seq_g fun Ψ11 hΨ11 hΨ11' => ?_
    simp only [tf_10, ↓reduceIte, Nat.reduceEqDiff, reduceCtorEq, Int.reduceEq, Nat.reduceMul, Nat.reduceAdd, Nat.reduceBEq, Int.reduceBEq, noteOk, List.mem_cons, List.not_mem_nil, true_or, or_true, or_false, true_and, and_true, Nat.reduceLT, Nat.reduceLeDiff, List.contains_cons, List.contains_nil]
    refine hΨ11 _ _ ?_
    refine okC_block_g fun Ψ12 hΨ12 hΨ12e hΨ12' => ?_
    rw [if_pos hl] at hn
    have hlen10 : ∀ L, S = ftText L → W = L.map ftBody ++ [[]] := fun L e => by rw [hW, e, ftText_cut]
    refine okC_cnt (n := n) 37 [2, 3, 6, 7, 8, 9, 10, 11, 12, 13, 14] [6] (fun j vs s' => ∃ (a : Option Addr) (c : Nat) (L : List Ft), vs = [.slice a L.length c] ∧ L.length = j ∧ (∀ f ∈ L, ftGood f) ∧ W.take j = L.map ftBody ∧ Buf s' 37 3 (.slice a L.length c) (L.flatMap ftV) ∧ (∀ y ∈ nameOf (.slice a L.length c), s1.next ≤ y) ∧ Keeps [] s1 s') rfl (by omega) ?_ ?_ ?_ ?_ ?_
    · simp only [tf_10, ↓reduceIte, Nat.reduceEqDiff, reduceCtorEq, Int.reduceEq, Nat.reduceMul, Nat.reduceAdd, Nat.reduceBEq, Int.reduceBEq, noteOk, List.mem_cons, List.not_mem_nil, true_or, or_true, or_false, true_and, and_true, Nat.reduceLT, Nat.reduceLeDiff, List.contains_cons, List.contains_nil]
    · refine ⟨some ⟨s1.next, 0, none⟩, 0, [], ?_, rfl, (fun f hf => by cases hf), rfl, ?_, ?_, k2⟩
      · simp only [tf_10, ↓reduceIte, Nat.reduceEqDiff, reduceCtorEq, Int.reduceEq, Nat.reduceMul, Nat.reduceAdd, Nat.reduceBEq, Int.reduceBEq, noteOk, List.mem_cons, List.not_mem_nil, true_or, or_true, or_false, true_and, and_true, Nat.reduceLT, Nat.reduceLeDiff, List.contains_cons, List.contains_nil]
      · rw [← e2]
        exact .own Cells.of_new (by simp) (Nat.le_refl _) rfl fun i hi => absurd hi (Nat.not_lt_zero _)
      · intro y hy
        rw [List.mem_singleton.1 (show y ∈ [s1.next] from hy)]
        exact Nat.le_refl _
    · rintro j a' s' hj hA hc hr Ψ w
      simp only [tf_10, ↓reduceIte, Nat.reduceEqDiff, reduceCtorEq, Int.reduceEq, Nat.reduceMul, Nat.reduceAdd, Nat.reduceBEq, Int.reduceBEq, noteOk, List.mem_cons, List.not_mem_nil, true_or, or_true, or_false, true_and, and_true, Nat.reduceLT, Nat.reduceLeDiff, List.contains_cons, List.contains_nil, hA.get, hc, r5]
      refine w _ _ ?_ ?_ ?_ ?_
      · simp only [tf_10, ↓reduceIte, Nat.reduceEqDiff, reduceCtorEq, Int.reduceEq, Nat.reduceMul, Nat.reduceAdd, Nat.reduceBEq, Int.reduceBEq, noteOk, List.mem_cons, List.not_mem_nil, true_or, or_true, or_false, true_and, and_true, Nat.reduceLT, Nat.reduceLeDiff, List.contains_cons, List.contains_nil, Int.ofNat_lt]
      · simp only [tf_10, ↓reduceIte, Nat.reduceEqDiff, reduceCtorEq, Int.reduceEq, Nat.reduceMul, Nat.reduceAdd, Nat.reduceBEq, Int.reduceBEq, noteOk, List.mem_cons, List.not_mem_nil, true_or, or_true, or_false, true_and, and_true, Nat.reduceLT, Nat.reduceLeDiff, List.contains_cons, List.contains_nil, agr_put, hA]
      · simp only [tf_10, ↓reduceIte, Nat.reduceEqDiff, reduceCtorEq, Int.reduceEq, Nat.reduceMul, Nat.reduceAdd, Nat.reduceBEq, Int.reduceBEq, noteOk, List.mem_cons, List.not_mem_nil, true_or, or_true, or_false, true_and, and_true, Nat.reduceLT, Nat.reduceLeDiff, List.contains_cons, List.contains_nil, hc]
      · simp only [tf_10, ↓reduceIte, Nat.reduceEqDiff, reduceCtorEq, Int.reduceEq, Nat.reduceMul, Nat.reduceAdd, Nat.reduceBEq, Int.reduceBEq, noteOk, List.mem_cons, List.not_mem_nil, true_or, or_true, or_false, true_and, and_true, Nat.reduceLT, Nat.reduceLeDiff, List.contains_cons, List.contains_nil]
        exact hr
    · rintro j a' s' hj hA hc ⟨ao, co, L, h6, hLj, hL, hWL, B, hnm, hk⟩ Ψ w w3
      simp only [List.map_cons, List.map_nil, List.cons.injEq, and_true] at h6
      obtain ⟨ln, hln⟩ : ∃ ln, W[j]? = some ln := ⟨_, List.getElem?_eq_getElem (by omega)⟩
      have hlnS : ln.length ≤ S.length := by
        have := cut_mem_len (c := 10) S [] ln (by show ln ∈ cut 10 S; rw [← hW]; exact List.mem_of_getElem? hln)
        simpa using this
      have hlnd := Strs.get (hl1.keep hk (by simp)) hln
      have q1 : (0 : Int) ≤ (j : Int) := Int.natCast_nonneg _
      have q2 : (j : Int) < (W.length : Int) := by omega
      have bad : (∀ L, (∀ f ∈ L, ftGood f) → S ≠ ftText L) → ∀ a2 s2', Keeps [] s1 s2' → a2.getT 2 = .slice none 0 0 → a2.getT 3 = int 2 → Ψ .ret a2 s2' := by
        intro hno a2 s2' kk g2 g3
        refine w3 _ _ _ (by simp) (by simp) (hΨ12' _ _ _ (by simp) (by simp) (hΨ10' _ _ _ (by simp) ?_))
        simp only [tf_10, ↓reduceIte, Nat.reduceEqDiff, reduceCtorEq, Int.reduceEq, Nat.reduceMul, Nat.reduceAdd, Nat.reduceBEq, Int.reduceBEq, noteOk, List.mem_cons, List.not_mem_nil, true_or, or_true, or_false, true_and, and_true, Nat.reduceLT, Nat.reduceLeDiff, List.contains_cons, List.contains_nil, g2, g3]
        exact hform hns hno s2' (k1.trans kk)
      have cn : ∀ L, (∀ f ∈ L, ftGood f) → S = ftText L → ∃ f, ftGood f ∧ ln = ftBody f := fun M hM e => by
        have h1 := hlen10 M e
        have h2 : W.length = M.length + 1 := by rw [h1]; simp
        rw [h1, List.getElem?_append_left (by simp; omega), List.getElem?_map] at hln
        obtain ⟨f, hf⟩ : ∃ f, M[j]? = some f := ⟨_, List.getElem?_eq_getElem (by omega)⟩
        rw [hf] at hln
        exact ⟨f, hM f (List.mem_of_getElem? hf), (Option.some.inj hln).symm⟩
      refine okC_seq_g fun Ψ13 hΨ13 hΨ13' => ?_
      simp only [tf_10, ↓reduceIte, Nat.reduceEqDiff, reduceCtorEq, Int.reduceEq, Nat.reduceMul, Nat.reduceAdd, Nat.reduceBEq, Int.reduceBEq, noteOk, List.mem_cons, List.not_mem_nil, true_or, or_true, or_false, true_and, and_true, Nat.reduceLT, Nat.reduceLeDiff, List.contains_cons, List.contains_nil, hA.get, hc, r4, q1, q2, and_self, addr_add, Int.toNat_natCast, Nat.mul_one, hlnd]
      refine okO_callx ?_ (words_ok (S := ln) (y := 32) hk.ok (by omega) fun vb wc s3 hl3 k3 n3 => ?_)
      · simp only [tf_10, ↓reduceIte, Nat.reduceEqDiff, reduceCtorEq, Int.reduceEq, Nat.reduceMul, Nat.reduceAdd, Nat.reduceBEq, Int.reduceBEq, noteOk, List.mem_cons, List.not_mem_nil, true_or, or_true, or_false, true_and, and_true, Nat.reduceLT, Nat.reduceLeDiff, List.contains_cons, List.contains_nil, t32]
      obtain ⟨P, hP⟩ : ∃ P, P = cut 32 ln := ⟨_, rfl⟩
      rw [← hP] at hl3 n3
      rw [← hP]
      try simp only [tf_10, ↓reduceIte, Nat.reduceEqDiff, reduceCtorEq, Int.reduceEq, Nat.reduceMul, Nat.reduceAdd, Nat.reduceBEq, Int.reduceBEq, noteOk, List.mem_cons, List.not_mem_nil, true_or, or_true, or_false, true_and, and_true, Nat.reduceLT, Nat.reduceLeDiff, List.contains_cons, List.contains_nil]
      refine hΨ13 _ _ ?_
      have hk3 := hk.trans k3
      refine okC_seq_g fun Ψ14 hΨ14 hΨ14' => ?_
      refine okC_seq_g fun Ψ15 hΨ15 hΨ15' => ?_
      by_cases hP3 : P.length = 3
      case neg =>
        have e3 : ((P.length : Int) == 3) = false := by simp; omega
        simp only [tf_10, ↓reduceIte, Nat.reduceEqDiff, reduceCtorEq, Int.reduceEq, Nat.reduceMul, Nat.reduceAdd, Nat.reduceBEq, Int.reduceBEq, noteOk, List.mem_cons, List.not_mem_nil, true_or, or_true, or_false, true_and, and_true, Nat.reduceLT, Nat.reduceLeDiff, List.contains_cons, List.contains_nil, e3]
        refine hΨ15 _ _ ?_
        simp only [okC_cnd, RV, RG, ↓reduceIte, Nat.reduceEqDiff, reduceCtorEq, Int.reduceEq, Nat.reduceMul, Nat.reduceAdd, Nat.reduceBEq, Int.reduceBEq, noteOk, List.mem_cons, List.not_mem_nil, true_or, or_true, or_false, true_and, and_true, Nat.reduceLT, Nat.reduceLeDiff, List.contains_cons, List.contains_nil]
        refine okC_seq_g fun Ψ16 hΨ16 hΨ16' => ?_
        simp only [tf_10, ↓reduceIte, Nat.reduceEqDiff, reduceCtorEq, Int.reduceEq, Nat.reduceMul, Nat.reduceAdd, Nat.reduceBEq, Int.reduceBEq, noteOk, List.mem_cons, List.not_mem_nil, true_or, or_true, or_false, true_and, and_true, Nat.reduceLT, Nat.reduceLeDiff, List.contains_cons, List.contains_nil]
        refine hΨ16 _ _ ?_
        simp only [tf_10, ↓reduceIte, Nat.reduceEqDiff, reduceCtorEq, Int.reduceEq, Nat.reduceMul, Nat.reduceAdd, Nat.reduceBEq, Int.reduceBEq, noteOk, List.mem_cons, List.not_mem_nil, true_or, or_true, or_false, true_and, and_true, Nat.reduceLT, Nat.reduceLeDiff, List.contains_cons, List.contains_nil]
        refine hΨ14' _ _ _ (by simp) ?_
        refine bad (fun M hM e => ?_) _ _ hk3 ?_ ?_
        · obtain ⟨f, _, hf⟩ := cn M hM e
          rw [hP, hf, body_cut] at hP3
          exact hP3 rfl
        · simp only [tf_10, ↓reduceIte, Nat.reduceEqDiff, reduceCtorEq, Int.reduceEq, Nat.reduceMul, Nat.reduceAdd, Nat.reduceBEq, Int.reduceBEq, noteOk, List.mem_cons, List.not_mem_nil, true_or, or_true, or_false, true_and, and_true, Nat.reduceLT, Nat.reduceLeDiff, List.contains_cons, List.contains_nil]
        · simp only [tf_10, ↓reduceIte, Nat.reduceEqDiff, reduceCtorEq, Int.reduceEq, Nat.reduceMul, Nat.reduceAdd, Nat.reduceBEq, Int.reduceBEq, noteOk, List.mem_cons, List.not_mem_nil, true_or, or_true, or_false, true_and, and_true, Nat.reduceLT, Nat.reduceLeDiff, List.contains_cons, List.contains_nil]
      have e3 : (((3 : Nat) : Int) == 3) = true := rfl
      obtain ⟨x0, x1, x2, rfl⟩ : ∃ x0 x1 x2, P = [x0, x1, x2] := by
        match P, hP3 with
        | [x0, x1, x2], _ => exact ⟨_, _, _, rfl⟩
      simp only [tf_10, ↓reduceIte, Nat.reduceEqDiff, reduceCtorEq, Int.reduceEq, Nat.reduceMul, Nat.reduceAdd, Nat.reduceBEq, Int.reduceBEq, noteOk, List.mem_cons, List.not_mem_nil, true_or, or_true, or_false, true_and, and_true, Nat.reduceLT, Nat.reduceLeDiff, List.contains_cons, List.contains_nil, e3]
      refine hΨ15 _ _ ?_
      simp only [tf_10, ↓reduceIte, Nat.reduceEqDiff, reduceCtorEq, Int.reduceEq, Nat.reduceMul, Nat.reduceAdd, Nat.reduceBEq, Int.reduceBEq, noteOk, List.mem_cons, List.not_mem_nil, true_or, or_true, or_false, true_and, and_true, Nat.reduceLT, Nat.reduceLeDiff, List.contains_cons, List.contains_nil]
      refine hΨ14 _ _ ?_
      obtain ⟨b3, o3, rfl⟩ := hl3.addr (show 0 < 3 by omega)
      obtain ⟨s4, e4, k4, c4, n4⟩ := new_obj k3.ok (L := [int 0, int 0, int 0]) (n := 3) (e := 37) rfl
      obtain ⟨s5, e5, c5, k5⟩ := c4.storeAll k4.ok (vs := [int (-1), int 0, int 0]) rfl rfl
      refine okC_seq_g fun Ψ16 hΨ16 hΨ16' => ?_
      simp only [tf_10, ↓reduceIte, Nat.reduceEqDiff, reduceCtorEq, Int.reduceEq, Nat.reduceMul, Nat.reduceAdd, Nat.reduceBEq, Int.reduceBEq, noteOk, List.mem_cons, List.not_mem_nil, true_or, or_true, or_false, true_and, and_true, Nat.reduceLT, Nat.reduceLeDiff, List.contains_cons, List.contains_nil]
      rw [e4]
      simp only [tf_10, ↓reduceIte, Nat.reduceEqDiff, reduceCtorEq, Int.reduceEq, Nat.reduceMul, Nat.reduceAdd, Nat.reduceBEq, Int.reduceBEq, noteOk, List.mem_cons, List.not_mem_nil, true_or, or_true, or_false, true_and, and_true, Nat.reduceLT, Nat.reduceLeDiff, List.contains_cons, List.contains_nil, e5]
      have k35 : Keeps [] s3 s5 := k4.step k5 fun g hg => .inr (by rw [List.mem_singleton.1 hg]; exact k3.ok.fresh _ (Nat.le_refl _))
      have hb3 := fun (s' : St) (k : Keeps [s3.next] s5 s') => (hl3.keep k35 (by simp)).keep k (fun b hb hb' => by
        have hlt : b3 < s3.next := by
          have := Strs.get hl3 (i := 0) rfl
          obtain ⟨o, ho, _⟩ := load_obj this
          exact k3.ok.lt ho
        rw [List.mem_singleton.1 (show b ∈ [b3] from hb)] at hb'
        have := List.mem_singleton.1 hb'
        omega)
      have lt3 : b3 < s3.next := by
        have := Strs.get hl3 (i := 0) rfl
        obtain ⟨o, ho, _⟩ := load_obj this
        exact k3.ok.lt ho
      refine hΨ16 _ _ ?_
      refine okC_seq_g fun Ψ17 hΨ17 hΨ17' => ?_
      refine okC_seq_g fun Ψ18 hΨ18 hΨ18' => ?_
      simp only [tf_10, ↓reduceIte, Nat.reduceEqDiff, reduceCtorEq, Int.reduceEq, Nat.reduceMul, Nat.reduceAdd, Nat.reduceBEq, Int.reduceBEq, noteOk, List.mem_cons, List.not_mem_nil, true_or, or_true, or_false, true_and, and_true, Nat.reduceLT, Nat.reduceLeDiff, List.contains_cons, List.contains_nil]
      refine hΨ18 _ _ ?_
      refine okC_block_g fun Ψ19 hΨ19 hΨ19e hΨ19' => ?_
      refine okC_cnt (n := 12) 51 [10] [] (fun k _ s' => ∃ kd : Int, Obj s' s3.next [int kd, int 0, int 0] ∧ Keeps [s3.next] s5 s' ∧ (kd = -1 ∨ ∃ m : Nat, m < k ∧ kd = m ∧ nm12[m]? = some x0) ∧ ∀ m : Nat, m < k → nm12[m]? = some x0 → kd = m) rfl (by omega) ?_ ?_ ?_ ?_ ?_
      · simp only [tf_10, ↓reduceIte, Nat.reduceEqDiff, reduceCtorEq, Int.reduceEq, Nat.reduceMul, Nat.reduceAdd, Nat.reduceBEq, Int.reduceBEq, noteOk, List.mem_cons, List.not_mem_nil, true_or, or_true, or_false, true_and, and_true, Nat.reduceLT, Nat.reduceLeDiff, List.contains_cons, List.contains_nil]
      · exact ⟨-1, c5, .refl k5.ok, .inl rfl, fun m hm => absurd hm (Nat.not_lt_zero _)⟩
      · rintro k a2 s6 hk12 hB hd ⟨kd, o6, k6, hr⟩ Ψ2 u
        simp only [tf_10, ↓reduceIte, Nat.reduceEqDiff, reduceCtorEq, Int.reduceEq, Nat.reduceMul, Nat.reduceAdd, Nat.reduceBEq, Int.reduceBEq, noteOk, List.mem_cons, List.not_mem_nil, true_or, or_true, or_false, true_and, and_true, Nat.reduceLT, Nat.reduceLeDiff, List.contains_cons, List.contains_nil, hB.get, hd]
        refine okO_callx ?_ (names_ok k6.ok fun s7 k7 n7 c7 => ?_)
        · simp only [tf_10, ↓reduceIte, Nat.reduceEqDiff, reduceCtorEq, Int.reduceEq, Nat.reduceMul, Nat.reduceAdd, Nat.reduceBEq, Int.reduceBEq, noteOk, List.mem_cons, List.not_mem_nil, true_or, or_true, or_false, true_and, and_true, Nat.reduceLT, Nat.reduceLeDiff, List.contains_cons, List.contains_nil]
        simp only [tf_10, ↓reduceIte, Nat.reduceEqDiff, reduceCtorEq, Int.reduceEq, Nat.reduceMul, Nat.reduceAdd, Nat.reduceBEq, Int.reduceBEq, noteOk, List.mem_cons, List.not_mem_nil, true_or, or_true, or_false, true_and, and_true, Nat.reduceLT, Nat.reduceLeDiff, List.contains_cons, List.contains_nil, hB.get, hd]
        refine u _ _ ?_ ?_ ?_ ⟨kd, o6.keep k7 (by simp), k6.trans k7.any, hr⟩
        · simp only [tf_10, ↓reduceIte, Nat.reduceEqDiff, reduceCtorEq, Int.reduceEq, Nat.reduceMul, Nat.reduceAdd, Nat.reduceBEq, Int.reduceBEq, noteOk, List.mem_cons, List.not_mem_nil, true_or, or_true, or_false, true_and, and_true, Nat.reduceLT, Nat.reduceLeDiff, List.contains_cons, List.contains_nil, Int.ofNat_lt]
        · simp only [tf_10, ↓reduceIte, Nat.reduceEqDiff, reduceCtorEq, Int.reduceEq, Nat.reduceMul, Nat.reduceAdd, Nat.reduceBEq, Int.reduceBEq, noteOk, List.mem_cons, List.not_mem_nil, true_or, or_true, or_false, true_and, and_true, Nat.reduceLT, Nat.reduceLeDiff, List.contains_cons, List.contains_nil, agr_put, hB]
        · simp only [tf_10, ↓reduceIte, Nat.reduceEqDiff, reduceCtorEq, Int.reduceEq, Nat.reduceMul, Nat.reduceAdd, Nat.reduceBEq, Int.reduceBEq, noteOk, List.mem_cons, List.not_mem_nil, true_or, or_true, or_false, true_and, and_true, Nat.reduceLT, Nat.reduceLeDiff, List.contains_cons, List.contains_nil, hd]
      · rintro k a2 s6 hk12 hB hd ⟨kd, o6, k6, hkd, hun⟩ Ψ2 u u3
        obtain ⟨y, hy⟩ : ∃ y, nm12[k]? = some y := ⟨_, List.getElem?_eq_getElem (show k < nm12.length from hk12)⟩
        have r1 : (0 : Int) ≤ (k : Int) := Int.natCast_nonneg _
        have r2 : (k : Int) < ((12 : Nat) : Int) := by omega
        have v1 : (0 : Int) ≤ 0 := Int.le_refl _
        have v2 : (0 : Int) < ((3 : Nat) : Int) := by decide
        have ks := Keeps.skip (F := []) k6.ok 16
        have hw0 := Strs.get (hb3 s6 k6) (i := 0) rfl
        refine okC_seq_g fun Ψ20 hΨ20 hΨ20' => ?_
        refine okC_drawn_d [(6, 0)] [b3] [] (by kernel_rfl) (by kernel_rfl) (by rfl) fun O hO ΨR hR => ?_
        simp only [tf_10, ↓reduceIte, Nat.reduceEqDiff, reduceCtorEq, Int.reduceEq, Nat.reduceMul, Nat.reduceAdd, Nat.reduceBEq, Int.reduceBEq, noteOk, List.mem_cons, List.not_mem_nil, true_or, or_true, or_false, true_and, and_true, Nat.reduceLT, Nat.reduceLeDiff, List.contains_cons, List.contains_nil, hB.get, hA.get, hd]
        refine okD_callx ?_ (names_ok ks.ok fun s7 k7 n7 c7 => ?_)
        · simp only [tf_10, ↓reduceIte, Nat.reduceEqDiff, reduceCtorEq, Int.reduceEq, Nat.reduceMul, Nat.reduceAdd, Nat.reduceBEq, Int.reduceBEq, noteOk, List.mem_cons, List.not_mem_nil, true_or, or_true, or_false, true_and, and_true, Nat.reduceLT, Nat.reduceLeDiff, List.contains_cons, List.contains_nil]
        have k67 : Keeps [s3.next] s5 s7 := (k6.trans ks.any).trans k7.any
        have hn7 : load1 s7.look ⟨(s6.skip 16).next, k, none⟩ = some (str y) := c7.load (by rw [List.getElem?_map, hy]; rfl)
        have hw7 : load1 s7.look ⟨b3, o3, none⟩ = some (str x0) := Strs.get (hb3 s7 k67) (i := 0) rfl
        have sm : SameIn [b3] (s6.skip 16) s7 := sameIn_cons (same_of_load (s := s6.skip 16) hw0 ks.ok k7 (by simp)) sameIn_nil
        simp only [tf_10, ↓reduceIte, Nat.reduceEqDiff, reduceCtorEq, Int.reduceEq, Nat.reduceMul, Nat.reduceAdd, Nat.reduceBEq, Int.reduceBEq, noteOk, List.mem_cons, List.not_mem_nil, true_or, or_true, or_false, true_and, and_true, Nat.reduceLT, Nat.reduceLeDiff, List.contains_cons, List.contains_nil, hB.get, hA.get, hd, r1, r2, v1, v2, and_self, addr_add, Int.toNat_natCast, Nat.mul_one, Nat.zero_mul, Nat.add_zero, Nat.zero_add, Int.toNat_zero, hn7, hw7, eq_str, bn_s]
        refine ⟨sm, ?_⟩
        have hk68 := ks.trans k7
        cases hyx : (y == x0) with
        | true =>
          have hyx' : y = x0 := eq_of_beq hyx
          refine hR _ _ (hΨ20 _ _ ?_)
          simp only [okC_cnd, RV, RG, ↓reduceIte, Nat.reduceEqDiff, reduceCtorEq, Int.reduceEq, Nat.reduceMul, Nat.reduceAdd, Nat.reduceBEq, Int.reduceBEq, noteOk, List.mem_cons, List.not_mem_nil, true_or, or_true, or_false, true_and, and_true, Nat.reduceLT, Nat.reduceLeDiff, List.contains_cons, List.contains_nil]
          obtain ⟨s8, e8, o8, k8⟩ := (o6.keep hk68 (by simp)).store1 k7.ok (i := 0) (v := int k) (by simp) rfl
          simp only [tf_10, ↓reduceIte, Nat.reduceEqDiff, reduceCtorEq, Int.reduceEq, Nat.reduceMul, Nat.reduceAdd, Nat.reduceBEq, Int.reduceBEq, noteOk, List.mem_cons, List.not_mem_nil, true_or, or_true, or_false, true_and, and_true, Nat.reduceLT, Nat.reduceLeDiff, List.contains_cons, List.contains_nil, hB.get, hA.get, hd, e8]
          refine (u _ _ ?_ ?_ ⟨k, o8, (k6.trans hk68.any).trans k8, .inr ⟨k, by omega, rfl, by rw [hy, hyx']⟩, fun m hm hmx => ?_⟩).1
          · simp only [tf_10, ↓reduceIte, Nat.reduceEqDiff, reduceCtorEq, Int.reduceEq, Nat.reduceMul, Nat.reduceAdd, Nat.reduceBEq, Int.reduceBEq, noteOk, List.mem_cons, List.not_mem_nil, true_or, or_true, or_false, true_and, and_true, Nat.reduceLT, Nat.reduceLeDiff, List.contains_cons, List.contains_nil, agr_put, hB]
          · simp only [tf_10, ↓reduceIte, Nat.reduceEqDiff, reduceCtorEq, Int.reduceEq, Nat.reduceMul, Nat.reduceAdd, Nat.reduceBEq, Int.reduceBEq, noteOk, List.mem_cons, List.not_mem_nil, true_or, or_true, or_false, true_and, and_true, Nat.reduceLT, Nat.reduceLeDiff, List.contains_cons, List.contains_nil, hd]
          · have hm12 : m < 12 := by omega
            rw [hyx', ← hmx] at hy
            have := (List.getElem?_inj (show m < nm12.length from hm12) nm12_nodup).1 hy.symm
            omega
        | false =>
          have hyx' : y ≠ x0 := fun e => by rw [e] at hyx; simp at hyx
          refine hR _ _ (hΨ20 _ _ ?_)
          simp only [tf_10, ↓reduceIte, Nat.reduceEqDiff, reduceCtorEq, Int.reduceEq, Nat.reduceMul, Nat.reduceAdd, Nat.reduceBEq, Int.reduceBEq, noteOk, List.mem_cons, List.not_mem_nil, true_or, or_true, or_false, true_and, and_true, Nat.reduceLT, Nat.reduceLeDiff, List.contains_cons, List.contains_nil]
          refine (u _ _ ?_ ?_ ⟨kd, o6.keep hk68 (by simp), k6.trans hk68.any, hkd.imp id (fun ⟨m, h1, h2⟩ => ⟨m, by omega, h2⟩), fun m hm hmx => ?_⟩).1
          · simp only [tf_10, ↓reduceIte, Nat.reduceEqDiff, reduceCtorEq, Int.reduceEq, Nat.reduceMul, Nat.reduceAdd, Nat.reduceBEq, Int.reduceBEq, noteOk, List.mem_cons, List.not_mem_nil, true_or, or_true, or_false, true_and, and_true, Nat.reduceLT, Nat.reduceLeDiff, List.contains_cons, List.contains_nil, agr_put, hB]
          · simp only [tf_10, ↓reduceIte, Nat.reduceEqDiff, reduceCtorEq, Int.reduceEq, Nat.reduceMul, Nat.reduceAdd, Nat.reduceBEq, Int.reduceBEq, noteOk, List.mem_cons, List.not_mem_nil, true_or, or_true, or_false, true_and, and_true, Nat.reduceLT, Nat.reduceLeDiff, List.contains_cons, List.contains_nil, hd]
          · by_cases e : m = k
            · subst e
              rw [hy] at hmx
              exact absurd (Option.some.inj hmx) hyx'
            · exact hun m (by omega) hmx
      · rintro a2 s6 hB ⟨kd, o6, k6, hkd, hun⟩
        refine hΨ19e _ _ (hΨ17 _ _ ?_)
        have v1 : (0 : Int) ≤ 1 := by decide
        have v2 : (1 : Int) < ((3 : Nat) : Int) := by decide
        have v3 : (0 : Int) ≤ 2 := by decide
        have v4 : (2 : Int) < ((3 : Nat) : Int) := by decide
        have t1 : (1 : Int).toNat = 1 := rfl
        have t2 : (2 : Int).toNat = 2 := rfl
        have hw1 := Strs.get (hb3 s6 k6) (i := 1) rfl
        have hw2 := Strs.get (hb3 s6 k6) (i := 2) rfl
        have hxl : x1.length ≤ ln.length ∧ x2.length ≤ ln.length := by
          have h1 := cut_mem_len (c := 32) ln [] x1 (by show x1 ∈ cut 32 ln; rw [← hP]; simp)
          have h2 := cut_mem_len (c := 32) ln [] x2 (by show x2 ∈ cut 32 ln; rw [← hP]; simp)
          simp at h1 h2
          exact ⟨h1, h2⟩
        refine okC_seq_g fun Ψ22 hΨ22 hΨ22' => ?_
        simp only [tf_10, ↓reduceIte, Nat.reduceEqDiff, reduceCtorEq, Int.reduceEq, Nat.reduceMul, Nat.reduceAdd, Nat.reduceBEq, Int.reduceBEq, noteOk, List.mem_cons, List.not_mem_nil, true_or, or_true, or_false, true_and, and_true, Nat.reduceLT, Nat.reduceLeDiff, List.contains_cons, List.contains_nil, hB.get, hA.get, v1, v2, and_self, addr_add, t1, Nat.mul_one, hw1]
        refine okO_callx ?_ (num_is (S := x1) k6.ok (by omega) fun m1 ok1 h1 h1' => ?_)
        · simp only [tf_10, ↓reduceIte, Nat.reduceEqDiff, reduceCtorEq, Int.reduceEq, Nat.reduceMul, Nat.reduceAdd, Nat.reduceBEq, Int.reduceBEq, noteOk, List.mem_cons, List.not_mem_nil, true_or, or_true, or_false, true_and, and_true, Nat.reduceLT, Nat.reduceLeDiff, List.contains_cons, List.contains_nil]
        simp only [tf_10, ↓reduceIte, Nat.reduceEqDiff, reduceCtorEq, Int.reduceEq, Nat.reduceMul, Nat.reduceAdd, Nat.reduceBEq, Int.reduceBEq, noteOk, List.mem_cons, List.not_mem_nil, true_or, or_true, or_false, true_and, and_true, Nat.reduceLT, Nat.reduceLeDiff, List.contains_cons, List.contains_nil]
        refine hΨ22 _ _ ?_
        refine okC_seq_g fun Ψ23 hΨ23 hΨ23' => ?_
        simp only [tf_10, ↓reduceIte, Nat.reduceEqDiff, reduceCtorEq, Int.reduceEq, Nat.reduceMul, Nat.reduceAdd, Nat.reduceBEq, Int.reduceBEq, noteOk, List.mem_cons, List.not_mem_nil, true_or, or_true, or_false, true_and, and_true, Nat.reduceLT, Nat.reduceLeDiff, List.contains_cons, List.contains_nil, hB.get, hA.get, v3, v4, and_self, addr_add, t2, Nat.mul_one, hw2]
        refine okO_callx ?_ (num_is (S := x2) k6.ok (by omega) fun m2 ok2 h2 h2' => ?_)
        · simp only [tf_10, ↓reduceIte, Nat.reduceEqDiff, reduceCtorEq, Int.reduceEq, Nat.reduceMul, Nat.reduceAdd, Nat.reduceBEq, Int.reduceBEq, noteOk, List.mem_cons, List.not_mem_nil, true_or, or_true, or_false, true_and, and_true, Nat.reduceLT, Nat.reduceLeDiff, List.contains_cons, List.contains_nil]
        simp only [tf_10, ↓reduceIte, Nat.reduceEqDiff, reduceCtorEq, Int.reduceEq, Nat.reduceMul, Nat.reduceAdd, Nat.reduceBEq, Int.reduceBEq, noteOk, List.mem_cons, List.not_mem_nil, true_or, or_true, or_false, true_and, and_true, Nat.reduceLT, Nat.reduceLeDiff, List.contains_cons, List.contains_nil]
        refine hΨ23 _ _ ?_
        have hk6 : Keeps [] s1 s6 := (hk3.trans k35).step k6 fun g hg => .inr (by rw [List.mem_singleton.1 hg]; exact k1.ok.fresh _ (by have := hk3.next; omega))
        have lk := o6.load (i := 0) rfl
        refine okC_seq_g fun Ψ24 hΨ24 hΨ24' => ?_
        refine okC_seq_g fun Ψ25 hΨ25 hΨ25' => ?_
        have fin : ∀ a3, a3.getT 91 = .bool true → (∀ L, (∀ f ∈ L, ftGood f) → S ≠ ftText L) → Ψ25 .normal a3 s6 := by
          intro a3 q91 no
          refine hΨ25 _ _ ?_
          simp only [okC_cnd, RV, RG, ↓reduceIte, Nat.reduceEqDiff, reduceCtorEq, Int.reduceEq, Nat.reduceMul, Nat.reduceAdd, Nat.reduceBEq, Int.reduceBEq, noteOk, List.mem_cons, List.not_mem_nil, true_or, or_true, or_false, true_and, and_true, Nat.reduceLT, Nat.reduceLeDiff, List.contains_cons, List.contains_nil, q91]
          refine okC_seq_g fun Ψ26 hΨ26 hΨ26' => ?_
          simp only [tf_10, ↓reduceIte, Nat.reduceEqDiff, reduceCtorEq, Int.reduceEq, Nat.reduceMul, Nat.reduceAdd, Nat.reduceBEq, Int.reduceBEq, noteOk, List.mem_cons, List.not_mem_nil, true_or, or_true, or_false, true_and, and_true, Nat.reduceLT, Nat.reduceLeDiff, List.contains_cons, List.contains_nil]
          refine hΨ26 _ _ ?_
          simp only [tf_10, ↓reduceIte, Nat.reduceEqDiff, reduceCtorEq, Int.reduceEq, Nat.reduceMul, Nat.reduceAdd, Nat.reduceBEq, Int.reduceBEq, noteOk, List.mem_cons, List.not_mem_nil, true_or, or_true, or_false, true_and, and_true, Nat.reduceLT, Nat.reduceLeDiff, List.contains_cons, List.contains_nil]
          refine hΨ24' _ _ _ (by simp) ?_
          refine bad no _ _ hk6 ?_ ?_
          · simp only [tf_10, ↓reduceIte, Nat.reduceEqDiff, reduceCtorEq, Int.reduceEq, Nat.reduceMul, Nat.reduceAdd, Nat.reduceBEq, Int.reduceBEq, noteOk, List.mem_cons, List.not_mem_nil, true_or, or_true, or_false, true_and, and_true, Nat.reduceLT, Nat.reduceLeDiff, List.contains_cons, List.contains_nil]
          · simp only [tf_10, ↓reduceIte, Nat.reduceEqDiff, reduceCtorEq, Int.reduceEq, Nat.reduceMul, Nat.reduceAdd, Nat.reduceBEq, Int.reduceBEq, noteOk, List.mem_cons, List.not_mem_nil, true_or, or_true, or_false, true_and, and_true, Nat.reduceLT, Nat.reduceLeDiff, List.contains_cons, List.contains_nil]
        have cn3 : ∀ L, (∀ f ∈ L, ftGood f) → S = ftText L → ∃ f, ftGood f ∧ x0 = nmAt f ∧ x1 = Lib.itoa f.2.1 ∧ x2 = Lib.itoa f.2.2 := fun M hM e => by
          obtain ⟨f, hf, hl⟩ := cn M hM e
          rw [hl, body_cut] at hP
          simp only [List.cons.injEq, and_true] at hP
          exact ⟨f, hf, hP⟩
        refine okC_region_g [(3, 84), (7, 88)] (by kernel_rfl) fun O hO ΨR hR => ?_
        have y3 : ∀ a, yieldedA O a 3 = boolOf (a.getT 84) := hO (3, 84) (by simp)
        have y7 : ∀ a, yieldedA O a 7 = boolOf (a.getT 88) := hO (7, 88) (by simp)
        by_cases hkn : kd < 0
        · simp only [tf_10, ↓reduceIte, Nat.reduceEqDiff, reduceCtorEq, Int.reduceEq, Nat.reduceMul, Nat.reduceAdd, Nat.reduceBEq, Int.reduceBEq, noteOk, List.mem_cons, List.not_mem_nil, true_or, or_true, or_false, true_and, and_true, Nat.reduceLT, Nat.reduceLeDiff, List.contains_cons, List.contains_nil, hB.get, hA.get, lk, hkn, decide_true, y3, y7]
          refine hR _ _ (fin _ ?_ fun M hM e => ?_)
          · simp only [tf_10, ↓reduceIte, Nat.reduceEqDiff, reduceCtorEq, Int.reduceEq, Nat.reduceMul, Nat.reduceAdd, Nat.reduceBEq, Int.reduceBEq, noteOk, List.mem_cons, List.not_mem_nil, true_or, or_true, or_false, true_and, and_true, Nat.reduceLT, Nat.reduceLeDiff, List.contains_cons, List.contains_nil]
          · obtain ⟨f, hf, e0, _⟩ := cn3 M hM e
            obtain ⟨f1, f2⟩ := hf.1
            have := hun f.1.toNat (by omega) (by
              rw [e0]
              unfold nmAt
              rw [List.getD_eq_getElem?_getD, List.getElem?_eq_getElem (show f.1.toNat < nm12.length by show f.1.toNat < 12; omega)]
              rfl)
            omega
        cases ok1 with
        | false =>
          simp only [tf_10, ↓reduceIte, Nat.reduceEqDiff, reduceCtorEq, Int.reduceEq, Nat.reduceMul, Nat.reduceAdd, Nat.reduceBEq, Int.reduceBEq, noteOk, List.mem_cons, List.not_mem_nil, true_or, or_true, or_false, true_and, and_true, Nat.reduceLT, Nat.reduceLeDiff, List.contains_cons, List.contains_nil, hB.get, hA.get, lk, hkn, decide_false, y3, y7]
          refine hR _ _ (fin _ ?_ fun M hM e => ?_)
          · simp only [tf_10, ↓reduceIte, Nat.reduceEqDiff, reduceCtorEq, Int.reduceEq, Nat.reduceMul, Nat.reduceAdd, Nat.reduceBEq, Int.reduceBEq, noteOk, List.mem_cons, List.not_mem_nil, true_or, or_true, or_false, true_and, and_true, Nat.reduceLT, Nat.reduceLeDiff, List.contains_cons, List.contains_nil]
          · obtain ⟨f, hf, _, e1, _⟩ := cn3 M hM e
            exact h1' rfl _ hf.2.1 e1
        | true =>
        cases ok2 with
        | false =>
          simp only [tf_10, ↓reduceIte, Nat.reduceEqDiff, reduceCtorEq, Int.reduceEq, Nat.reduceMul, Nat.reduceAdd, Nat.reduceBEq, Int.reduceBEq, noteOk, List.mem_cons, List.not_mem_nil, true_or, or_true, or_false, true_and, and_true, Nat.reduceLT, Nat.reduceLeDiff, List.contains_cons, List.contains_nil, hB.get, hA.get, lk, hkn, decide_false, y3, y7]
          refine hR _ _ (fin _ ?_ fun M hM e => ?_)
          · simp only [tf_10, ↓reduceIte, Nat.reduceEqDiff, reduceCtorEq, Int.reduceEq, Nat.reduceMul, Nat.reduceAdd, Nat.reduceBEq, Int.reduceBEq, noteOk, List.mem_cons, List.not_mem_nil, true_or, or_true, or_false, true_and, and_true, Nat.reduceLT, Nat.reduceLeDiff, List.contains_cons, List.contains_nil]
          · obtain ⟨f, hf, _, _, e2⟩ := cn3 M hM e
            exact h2' rfl _ hf.2.2 e2
        | true =>
        simp only [tf_10, ↓reduceIte, Nat.reduceEqDiff, reduceCtorEq, Int.reduceEq, Nat.reduceMul, Nat.reduceAdd, Nat.reduceBEq, Int.reduceBEq, noteOk, List.mem_cons, List.not_mem_nil, true_or, or_true, or_false, true_and, and_true, Nat.reduceLT, Nat.reduceLeDiff, List.contains_cons, List.contains_nil, hB.get, hA.get, lk, hkn, decide_false, y3, y7]
        refine hR _ _ (hΨ25 _ _ ?_)
        simp only [tf_10, ↓reduceIte, Nat.reduceEqDiff, reduceCtorEq, Int.reduceEq, Nat.reduceMul, Nat.reduceAdd, Nat.reduceBEq, Int.reduceBEq, noteOk, List.mem_cons, List.not_mem_nil, true_or, or_true, or_false, true_and, and_true, Nat.reduceLT, Nat.reduceLeDiff, List.contains_cons, List.contains_nil]
        refine hΨ24 _ _ ?_
        obtain ⟨m, hm12, rfl, hmx⟩ : ∃ m : Nat, m < 12 ∧ kd = m ∧ nm12[m]? = some x0 := hkd.resolve_left (by omega)
        obtain ⟨i1, rfl⟩ := h1 rfl
        obtain ⟨i2, rfl⟩ := h2 rfl
        obtain ⟨s7, e7, o7, k7⟩ := o6.store1 k6.ok (i := 1) (v := int m1) (by simp) rfl
        obtain ⟨s8, e8, o8, k8⟩ := o7.store1 k7.ok (i := 2) (v := int m2) (by simp) rfl
        have o8 : Obj s8 s3.next (ftV ((m : Int), m1, m2)) := o8
        have k68 : Keeps [] s1 s8 := hk6.step (k7.trans k8) fun g hg => .inr (by rw [List.mem_singleton.1 hg]; exact k1.ok.fresh _ (by have := hk3.next; omega))
        have k8' : Keeps [s3.next] s' s8 := ((k3.trans k35).any.trans k6).trans (k7.trans k8)
        refine okC_seq_g fun Ψ27 hΨ27 hΨ27' => ?_
        simp only [tf_10, ↓reduceIte, Nat.reduceEqDiff, reduceCtorEq, Int.reduceEq, Nat.reduceMul, Nat.reduceAdd, Nat.reduceBEq, Int.reduceBEq, noteOk, List.mem_cons, List.not_mem_nil, true_or, or_true, or_false, true_and, and_true, Nat.reduceLT, Nat.reduceLeDiff, List.contains_cons, List.contains_nil, hB.get, hA.get, e7]
        simp only [tf_10, ↓reduceIte, Nat.reduceEqDiff, reduceCtorEq, Int.reduceEq, Nat.reduceMul, Nat.reduceAdd, Nat.reduceBEq, Int.reduceBEq, noteOk, List.mem_cons, List.not_mem_nil, true_or, or_true, or_false, true_and, and_true, Nat.reduceLT, Nat.reduceLeDiff, List.contains_cons, List.contains_nil, hB.get, hA.get, e8]
        refine hΨ27 _ _ ?_
        have l8 := o8.loadN (i := 0) (k := 3) (Nat.le_refl _)
        obtain ⟨s9, e9, k9, o9, n9⟩ := new_obj k8.ok (L := ftV ((m : Int), m1, m2)) (n := 3) (e := 37) rfl
        have hno : s3.next ∉ nameOf (.slice ao L.length co) := fun h => by
          have h1 := (B.keep (F := []) (.refl hk.ok) (by simp)).lt hk.ok _ h
          have := k3.next
          omega
        obtain ⟨a9, c9, s10, e10, B10, k10, m10⟩ := push_ft k9.ok ((B.keep k8' (fun b hb hb' => by rw [List.mem_singleton.1 hb'] at hb; exact hno hb)).keep k9 (by simp)) ((m : Int), m1, m2) o9 (by omega)
        unfold ftV at l8 e9
        simp only [tf_10, ↓reduceIte, Nat.reduceEqDiff, reduceCtorEq, Int.reduceEq, Nat.reduceMul, Nat.reduceAdd, Nat.reduceBEq, Int.reduceBEq, noteOk, List.mem_cons, List.not_mem_nil, true_or, or_true, or_false, true_and, and_true, Nat.reduceLT, Nat.reduceLeDiff, List.contains_cons, List.contains_nil, hB.get, hA.get, h6, l8, List.drop_zero, List.take]
        rw [e9]
        refine o_appx ?_ e10 ?_
        · simp only [tf_10, ↓reduceIte, Nat.reduceEqDiff, reduceCtorEq, Int.reduceEq, Nat.reduceMul, Nat.reduceAdd, Nat.reduceBEq, Int.reduceBEq, noteOk, List.mem_cons, List.not_mem_nil, true_or, or_true, or_false, true_and, and_true, Nat.reduceLT, Nat.reduceLeDiff, List.contains_cons, List.contains_nil, h6]
        simp only [tf_10, ↓reduceIte, Nat.reduceEqDiff, reduceCtorEq, Int.reduceEq, Nat.reduceMul, Nat.reduceAdd, Nat.reduceBEq, Int.reduceBEq, noteOk, List.mem_cons, List.not_mem_nil, true_or, or_true, or_false, true_and, and_true, Nat.reduceLT, Nat.reduceLeDiff, List.contains_cons, List.contains_nil]
        have hgood : ftGood ((m : Int), m1, m2) := ⟨⟨Int.natCast_nonneg _, by show (m : Int) < 12; omega⟩, i1, i2⟩
        have hbody : ln = ftBody ((m : Int), m1, m2) := cut_inj (c := 32) (by
          rw [← hP, body_cut]
          have : nmAt ((m : Int), m1, m2) = x0 := by
            unfold nmAt
            show nm12.getD (m : Int).toNat [] = x0
            rw [Int.toNat_natCast, List.getD_eq_getElem?_getD, hmx]; rfl
          rw [this])
        refine (w _ _ ?_ ?_ ⟨a9, c9, L ++ [((m : Int), m1, m2)], ?_, by simp [hLj], ?_, ?_, ?_, ?_, ?_⟩).1
        · simp only [tf_10, ↓reduceIte, Nat.reduceEqDiff, reduceCtorEq, Int.reduceEq, Nat.reduceMul, Nat.reduceAdd, Nat.reduceBEq, Int.reduceBEq, noteOk, List.mem_cons, List.not_mem_nil, true_or, or_true, or_false, true_and, and_true, Nat.reduceLT, Nat.reduceLeDiff, List.contains_cons, List.contains_nil, agr_put]
          refine hB.up rfl ?_
          simp only [tf_10, ↓reduceIte, Nat.reduceEqDiff, reduceCtorEq, Int.reduceEq, Nat.reduceMul, Nat.reduceAdd, Nat.reduceBEq, Int.reduceBEq, noteOk, List.mem_cons, List.not_mem_nil, true_or, or_true, or_false, true_and, and_true, Nat.reduceLT, Nat.reduceLeDiff, List.contains_cons, List.contains_nil, agr_put, hA]
        · simp only [tf_10, ↓reduceIte, Nat.reduceEqDiff, reduceCtorEq, Int.reduceEq, Nat.reduceMul, Nat.reduceAdd, Nat.reduceBEq, Int.reduceBEq, noteOk, List.mem_cons, List.not_mem_nil, true_or, or_true, or_false, true_and, and_true, Nat.reduceLT, Nat.reduceLeDiff, List.contains_cons, List.contains_nil, hB.get, hc]
        · simp only [tf_10, ↓reduceIte, Nat.reduceEqDiff, reduceCtorEq, Int.reduceEq, Nat.reduceMul, Nat.reduceAdd, Nat.reduceBEq, Int.reduceBEq, noteOk, List.mem_cons, List.not_mem_nil, true_or, or_true, or_false, true_and, and_true, Nat.reduceLT, Nat.reduceLeDiff, List.contains_cons, List.contains_nil]
          rw [List.length_append]; rfl
        · intro f hf
          rcases List.mem_append.1 hf with h | h
          · exact hL f h
          · rw [List.mem_singleton.1 h]; exact hgood
        · rw [List.take_add_one, hln, hWL, List.map_append, hbody]; rfl
        · rw [List.length_append]; exact B10
        · rw [List.length_append]
          intro y hy
          rcases m10 y hy with h | h
          · exact hnm y h
          · have := k68.next; have := k9.next; omega
        · exact (k68.trans k9).step k10 fun y hy => .inr (k1.ok.fresh y (hnm y hy))
    · rintro a' s' hA ⟨ao, co, L, h6, hLj, hL, hWL, B, hnm, hk⟩
      simp only [List.map_cons, List.map_nil, List.cons.injEq, and_true] at h6
      refine hΨ12e _ _ (hΨ10 _ _ ?_)
      have e : W = W.take n ++ [[]] := by
        have h1 := List.dropLast_concat_getLast hWne
        rw [List.dropLast_eq_take, ← hn, ← hlst, hl] at h1
        exact h1.symm
      have hSL : S = ftText L := cut_inj (c := 10) (by rw [← hW, ftText_cut, ← hWL]; exact e)
      refine okC_seq_g fun Ψ28 hΨ28 hΨ28' => ?_
      simp only [tf_10, ↓reduceIte, Nat.reduceEqDiff, reduceCtorEq, Int.reduceEq, Nat.reduceMul, Nat.reduceAdd, Nat.reduceBEq, Int.reduceBEq, noteOk, List.mem_cons, List.not_mem_nil, true_or, or_true, or_false, true_and, and_true, Nat.reduceLT, Nat.reduceLeDiff, List.contains_cons, List.contains_nil, h6]
      refine hΨ28 _ _ ?_
      simp only [tf_10, ↓reduceIte, Nat.reduceEqDiff, reduceCtorEq, Int.reduceEq, Nat.reduceMul, Nat.reduceAdd, Nat.reduceBEq, Int.reduceBEq, noteOk, List.mem_cons, List.not_mem_nil, true_or, or_true, or_false, true_and, and_true, Nat.reduceLT, Nat.reduceLeDiff, List.contains_cons, List.contains_nil]
      exact htext hns L hL hSL ao co s' (k1.trans hk) B.sl
  by_cases hl : lst = []
  · have e1 : (lst == []) = true := by simp [hl]
    simp only [tf_10, ↓reduceIte, Nat.reduceEqDiff, reduceCtorEq, Int.reduceEq, Nat.reduceMul, Nat.reduceAdd, Nat.reduceBEq, Int.reduceBEq, noteOk, List.mem_cons, List.not_mem_nil, true_or, or_true, or_false, true_and, and_true, Nat.reduceLT, Nat.reduceLeDiff, List.contains_cons, List.contains_nil, hw1, p1, p2, and_self, addr_add, Int.toNat_natCast, Nat.mul_one, hld, eq_str, bn_s, k_no, e1]
    refine hΨ4 _ _ ?_
    simp only [okC_cnd, RV, RG, ↓reduceIte, Nat.reduceEqDiff, reduceCtorEq, Int.reduceEq, Nat.reduceMul, Nat.reduceAdd, Nat.reduceBEq, Int.reduceBEq, noteOk, List.mem_cons, List.not_mem_nil, true_or, or_true, or_false, true_and, and_true, Nat.reduceLT, Nat.reduceLeDiff, List.contains_cons, List.contains_nil]
    simp only [tf_10, ↓reduceIte, Nat.reduceEqDiff, reduceCtorEq, Int.reduceEq, Nat.reduceMul, Nat.reduceAdd, Nat.reduceBEq, Int.reduceBEq, noteOk, List.mem_cons, List.not_mem_nil, true_or, or_true, or_false, true_and, and_true, Nat.reduceLT, Nat.reduceLeDiff, List.contains_cons, List.contains_nil, hw1]
    refine main _ ?_ ?_
    · simp only [tf_10, ↓reduceIte, Nat.reduceEqDiff, reduceCtorEq, Int.reduceEq, Nat.reduceMul, Nat.reduceAdd, Nat.reduceBEq, Int.reduceBEq, noteOk, List.mem_cons, List.not_mem_nil, true_or, or_true, or_false, true_and, and_true, Nat.reduceLT, Nat.reduceLeDiff, List.contains_cons, List.contains_nil]
    · simp only [tf_10, ↓reduceIte, Nat.reduceEqDiff, reduceCtorEq, Int.reduceEq, Nat.reduceMul, Nat.reduceAdd, Nat.reduceBEq, Int.reduceBEq, noteOk, List.mem_cons, List.not_mem_nil, true_or, or_true, or_false, true_and, and_true, Nat.reduceLT, Nat.reduceLeDiff, List.contains_cons, List.contains_nil]
      rw [hn, if_pos hl]
  · have e1 : (lst == []) = false := by simp [hl]
    simp only [tf_10, ↓reduceIte, Nat.reduceEqDiff, reduceCtorEq, Int.reduceEq, Nat.reduceMul, Nat.reduceAdd, Nat.reduceBEq, Int.reduceBEq, noteOk, List.mem_cons, List.not_mem_nil, true_or, or_true, or_false, true_and, and_true, Nat.reduceLT, Nat.reduceLeDiff, List.contains_cons, List.contains_nil, hw1, p1, p2, and_self, addr_add, Int.toNat_natCast, Nat.mul_one, hld, eq_str, bn_s, k_no, e1]
    refine hΨ4 _ _ ?_
    simp only [tf_10, ↓reduceIte, Nat.reduceEqDiff, reduceCtorEq, Int.reduceEq, Nat.reduceMul, Nat.reduceAdd, Nat.reduceBEq, Int.reduceBEq, noteOk, List.mem_cons, List.not_mem_nil, true_or, or_true, or_false, true_and, and_true, Nat.reduceLT, Nat.reduceLeDiff, List.contains_cons, List.contains_nil]
    refine main _ ?_ ?_
    · simp only [tf_10, ↓reduceIte, Nat.reduceEqDiff, reduceCtorEq, Int.reduceEq, Nat.reduceMul, Nat.reduceAdd, Nat.reduceBEq, Int.reduceBEq, noteOk, List.mem_cons, List.not_mem_nil, true_or, or_true, or_false, true_and, and_true, Nat.reduceLT, Nat.reduceLeDiff, List.contains_cons, List.contains_nil]
    · simp only [tf_10, ↓reduceIte, Nat.reduceEqDiff, reduceCtorEq, Int.reduceEq, Nat.reduceMul, Nat.reduceAdd, Nat.reduceBEq, Int.reduceBEq, noteOk, List.mem_cons, List.not_mem_nil, true_or, or_true, or_false, true_and, and_true, Nat.reduceLT, Nat.reduceLeDiff, List.contains_cons, List.contains_nil]
      rw [hn, if_neg hl]
end
end Go.Dust
end
section
/- Go's strings: Split at one byte; slices.Index of strings. -/
namespace Go.Dust
open Go.Proofs
set_option maxRecDepth 100000
set_option maxHeartbeats 4000000
set_option linter.unusedSimpArgs false
set_option linter.unusedVariables false
theorem slice_upto {X : Env} {H : Look} {t e N b off n c h : Nat} (hd : ((X.ty t).map fun i => i.desc) = some (.slice e)) (he : ((X.ty e).map fun i => i.size) = some N)
    (ho : ∃ c z n e room ro ver, H b = some (.cells c z n e room ro ver)) (h2 : h ≤ c) (h3 : 0 < c) :
    sliceA X H t (.slice (some ⟨b, off, none⟩) n c) none (some (.int .i64 h)) none = some (.slice (some ⟨b, off, none⟩) h c) := by
  obtain ⟨cc, z, m, e0, room, ro, ver, ho⟩ := ho
  cases hi : X.ty t with
  | none => rw [hi] at hd; cases hd
  | some i =>
    cases hj : X.ty e with
    | none => rw [hj] at he; cases he
    | some j =>
      rw [hi] at hd
      rw [hj] at he
      obtain ⟨d, sz, bs, zz, ag, ms, cm⟩ := i
      simp only [Option.map_some, Option.some.injEq] at hd he
      subst hd
      have hb : bounds2 n c none (some (h : Int)) = some (0, h) := by
        unfold bounds2
        simp only
        rw [if_pos (by omega)]
        simp only [Int.toNat_natCast]
      simp only [sliceA, hi, hj, optInt, hb, ho]
      rw [if_pos ⟨Nat.zero_le _, h2⟩, if_neg (by omega), addr_add]
      simp
theorem rep_set {k : Nat} {M : List Value} {v z : Value} : (M ++ List.replicate (k + 1) z).set M.length v = M ++ v :: List.replicate k z := by
  rw [List.set_append_right _ _ (Nat.le_refl _), Nat.sub_self]
  rfl
theorem Obj.of_make {s : St} {x e n m : Nat} {z : List Value} {L : List Value} (hz : z.length = m) (hL : L.length = n * m) (h : ∀ i, i < n * m → L[i]? = some (z.getD (i % m) undef)) : Obj (s.put x fun v => .cells .nil z (n * m) e false false v) x L := by
  subst hz
  have := Cells.of_make (s := s) (x := x) (e := e) (z := z) (n := n)
  rw [show ((List.range (n * z.length)).map fun i => z.getD (i % z.length) undef) = L from ?_] at this
  · exact ⟨_, this⟩
  · apply List.ext_getElem?
    intro i
    by_cases hi : i < n * z.length
    · rw [h i hi, List.getElem?_map, List.getElem?_range hi]; rfl
    · rw [List.getElem?_eq_none (by simp; omega), List.getElem?_eq_none (by omega)]
section
variable {q : Bool} {s : St} {Φ : Value → St → Prop}
theorem tf_66 : type_of% (And.intro @RC <| And.intro @RO <| And.intro @RD <| And.intro @RV <| And.intro @RB <| And.intro @RG <| And.intro @ix_45 <| @st_9) := And.intro @RC <| And.intro @RO <| And.intro @RD <| And.intro @RV <| And.intro @RB <| And.intro @RG <| And.intro @ix_45 <| @st_9
theorem gen_ok {S : List UInt8} (hs : Ok s) (hS : S.length ≤ 100000) (hΦ : ∀ a c s', Strs s' (.slice a (cut 32 S).length c) (cut 32 S) → Keeps [] s s' → (∀ b ∈ nameOf (.slice a (cut 32 S).length c), s.next ≤ b) → Φ (.slice a (cut 32 S).length c) s') : okF q X KT 66 [str S, str [32], int 0, int (-1)] s Φ := by
  obtain ⟨N, hN⟩ : ∃ N, N = S.count 32 := ⟨_, rfl⟩
  have hcl : (cut 32 S).length = N + 1 := by rw [hN]; exact cut_len 32 S []
  have hNS : N ≤ S.length := by rw [hN]; exact List.count_le_length
  refine okF_body rfl fn_66 rfl (rs := [.tmp 8]) rfl (N := 66) rfl rfl ?_
  refine okC_seq_g fun Ψ0 hΨ0 hΨ0' => ?_
  simp only [tf_66, ↓reduceIte, Nat.reduceEqDiff, reduceCtorEq, Int.reduceEq, Nat.reduceMul, Nat.reduceAdd, Nat.reduceBEq, Int.reduceBEq, noteOk, List.mem_cons, List.not_mem_nil, true_or, or_true, or_false, true_and, and_true, Nat.reduceLT, Nat.reduceLeDiff, List.contains_cons, List.contains_nil]
  refine hΨ0 _ _ ?_
  refine okC_seq_g fun Ψ1 hΨ1 hΨ1' => ?_
  refine okC_seq_g fun Ψ2 hΨ2 hΨ2' => ?_
  have e0 : ((-1 : Int) == 0) = false := rfl
  simp only [tf_66, ↓reduceIte, Nat.reduceEqDiff, reduceCtorEq, Int.reduceEq, Nat.reduceMul, Nat.reduceAdd, Nat.reduceBEq, Int.reduceBEq, noteOk, List.mem_cons, List.not_mem_nil, true_or, or_true, or_false, true_and, and_true, Nat.reduceLT, Nat.reduceLeDiff, List.contains_cons, List.contains_nil, e0]
  refine hΨ2 _ _ ?_
  simp only [tf_66, ↓reduceIte, Nat.reduceEqDiff, reduceCtorEq, Int.reduceEq, Nat.reduceMul, Nat.reduceAdd, Nat.reduceBEq, Int.reduceBEq, noteOk, List.mem_cons, List.not_mem_nil, true_or, or_true, or_false, true_and, and_true, Nat.reduceLT, Nat.reduceLeDiff, List.contains_cons, List.contains_nil]
  refine hΨ1 _ _ ?_
  refine okC_seq_g fun Ψ3 hΨ3 hΨ3' => ?_
  refine okC_seq_g fun Ψ4 hΨ4 hΨ4' => ?_
  have e1 : (([32] : List UInt8) == []) = false := rfl
  simp only [tf_66, ↓reduceIte, Nat.reduceEqDiff, reduceCtorEq, Int.reduceEq, Nat.reduceMul, Nat.reduceAdd, Nat.reduceBEq, Int.reduceBEq, noteOk, List.mem_cons, List.not_mem_nil, true_or, or_true, or_false, true_and, and_true, Nat.reduceLT, Nat.reduceLeDiff, List.contains_cons, List.contains_nil, k_no, eq_str, bn_s, e1]
  refine hΨ4 _ _ ?_
  simp only [tf_66, ↓reduceIte, Nat.reduceEqDiff, reduceCtorEq, Int.reduceEq, Nat.reduceMul, Nat.reduceAdd, Nat.reduceBEq, Int.reduceBEq, noteOk, List.mem_cons, List.not_mem_nil, true_or, or_true, or_false, true_and, and_true, Nat.reduceLT, Nat.reduceLeDiff, List.contains_cons, List.contains_nil]
  refine hΨ3 _ _ ?_
  refine okC_seq_g fun Ψ5 hΨ5 hΨ5' => ?_
  refine okC_seq_g fun Ψ6 hΨ6 hΨ6' => ?_
  have e2 : decide ((-1 : Int) < 0) = true := rfl
  simp only [tf_66, ↓reduceIte, Nat.reduceEqDiff, reduceCtorEq, Int.reduceEq, Nat.reduceMul, Nat.reduceAdd, Nat.reduceBEq, Int.reduceBEq, noteOk, List.mem_cons, List.not_mem_nil, true_or, or_true, or_false, true_and, and_true, Nat.reduceLT, Nat.reduceLeDiff, List.contains_cons, List.contains_nil, e2]
  refine hΨ6 _ _ ?_
  simp only [okC_cnd, RV, RG, ↓reduceIte, Nat.reduceEqDiff, reduceCtorEq, Int.reduceEq, Nat.reduceMul, Nat.reduceAdd, Nat.reduceBEq, Int.reduceBEq, noteOk, List.mem_cons, List.not_mem_nil, true_or, or_true, or_false, true_and, and_true, Nat.reduceLT, Nat.reduceLeDiff, List.contains_cons, List.contains_nil]
  have w1 : IntKind.i64.wrap ((N : Int) + 1) = ((N + 1 : Nat) : Int) := by rw [wrapI (by omega) (by omega)]; rfl
  simp only [tf_66, ↓reduceIte, Nat.reduceEqDiff, reduceCtorEq, Int.reduceEq, Nat.reduceMul, Nat.reduceAdd, Nat.reduceBEq, Int.reduceBEq, noteOk, List.mem_cons, List.not_mem_nil, true_or, or_true, or_false, true_and, and_true, Nat.reduceLT, Nat.reduceLeDiff, List.contains_cons, List.contains_nil]
  refine okO_callx ?_ (count_ok (l := S) (c := 32) ?_)
  · simp only [tf_66, ↓reduceIte, Nat.reduceEqDiff, reduceCtorEq, Int.reduceEq, Nat.reduceMul, Nat.reduceAdd, Nat.reduceBEq, Int.reduceBEq, noteOk, List.mem_cons, List.not_mem_nil, true_or, or_true, or_false, true_and, and_true, Nat.reduceLT, Nat.reduceLeDiff, List.contains_cons, List.contains_nil]
  rw [show Lib.countByte S 32 = N from hN.symm]
  simp only [tf_66, ↓reduceIte, Nat.reduceEqDiff, reduceCtorEq, Int.reduceEq, Nat.reduceMul, Nat.reduceAdd, Nat.reduceBEq, Int.reduceBEq, noteOk, List.mem_cons, List.not_mem_nil, true_or, or_true, or_false, true_and, and_true, Nat.reduceLT, Nat.reduceLeDiff, List.contains_cons, List.contains_nil, w1]
  refine hΨ5 _ _ ?_
  have w2 : IntKind.i64.wrap ((S.length : Int) + 1) = ((S.length + 1 : Nat) : Int) := by rw [wrapI (by omega) (by omega)]; rfl
  have w3 : min ((N + 1 : Nat) : Int) ((S.length + 1 : Nat) : Int) = ((N + 1 : Nat) : Int) := by omega
  refine okC_seq_g fun Ψ7 hΨ7 hΨ7' => ?_
  simp only [tf_66, ↓reduceIte, Nat.reduceEqDiff, reduceCtorEq, Int.reduceEq, Nat.reduceMul, Nat.reduceAdd, Nat.reduceBEq, Int.reduceBEq, noteOk, List.mem_cons, List.not_mem_nil, true_or, or_true, or_false, true_and, and_true, Nat.reduceLT, Nat.reduceLeDiff, List.contains_cons, List.contains_nil, lenS, w2, w3]
  refine hΨ7 _ _ ?_
  refine okC_seq_g fun Ψ8 hΨ8 hΨ8' => ?_
  simp only [tf_66, ↓reduceIte, Nat.reduceEqDiff, reduceCtorEq, Int.reduceEq, Nat.reduceMul, Nat.reduceAdd, Nat.reduceBEq, Int.reduceBEq, noteOk, List.mem_cons, List.not_mem_nil, true_or, or_true, or_false, true_and, and_true, Nat.reduceLT, Nat.reduceLeDiff, List.contains_cons, List.contains_nil, mk_45 (nm := s.next) (n := ((N + 1 : Nat) : Int)) (m := ((N + 1 : Nat) : Int)) (by omega) (by omega) (by omega) (by omega), Int.toNat_natCast]
  obtain ⟨s1, e3, k1, c1, n1⟩ : ∃ s1, (s.new fun v => AObj.cells PT.nil [Value.string ⟨#[]⟩] ((N + 1) * 1) 9 false false v) = s1 ∧ Keeps [] s s1 ∧ Obj s1 s.next (List.replicate (N + 1) (str [])) ∧ s1.next = s.next + 2 :=
    ⟨_, rfl, (Keeps.refl hs).new (.inr (Nat.le_refl _)), Obj.of_make (s := s) (x := s.next) (n := N + 1) (m := 1) rfl (by simp) (fun i hi => by rw [List.getElem?_replicate, if_pos (by omega), Nat.mod_one]; rfl), rfl⟩
  rw [e3]
  refine hΨ8 _ _ ?_
  have w4 : IntKind.i64.wrap (((N + 1 : Nat) : Int) - 1) = (N : Int) := by rw [wrapI (by omega) (by omega)]; omega
  refine okC_seq_g fun Ψ9 hΨ9 hΨ9' => ?_
  simp only [tf_66, ↓reduceIte, Nat.reduceEqDiff, reduceCtorEq, Int.reduceEq, Nat.reduceMul, Nat.reduceAdd, Nat.reduceBEq, Int.reduceBEq, noteOk, List.mem_cons, List.not_mem_nil, true_or, or_true, or_false, true_and, and_true, Nat.reduceLT, Nat.reduceLeDiff, List.contains_cons, List.contains_nil, w4]
  refine hΨ9 _ _ ?_
  refine okC_seq_g fun Ψ10 hΨ10 hΨ10' => ?_
  simp only [tf_66, ↓reduceIte, Nat.reduceEqDiff, reduceCtorEq, Int.reduceEq, Nat.reduceMul, Nat.reduceAdd, Nat.reduceBEq, Int.reduceBEq, noteOk, List.mem_cons, List.not_mem_nil, true_or, or_true, or_false, true_and, and_true, Nat.reduceLT, Nat.reduceLeDiff, List.contains_cons, List.contains_nil]
  refine hΨ10 _ _ ?_
  refine okC_seq_g fun Ψ11 hΨ11 hΨ11' => ?_
  refine okC_block_g fun Ψ12 hΨ12 hΨ12e hΨ12' => ?_
  refine okC_while (n := N) (fun j a s' => a.getT 10 = int j ∧ a.getT 9 = .slice (some ⟨s.next, 0, none⟩) (N + 1) (N + 1) ∧ a.getT 3 = int N ∧ a.getT 1 = str [32] ∧ a.getT 2 = int 0 ∧ ∃ (M : List (List UInt8)) (r : List UInt8), a.getT 0 = str r ∧ M.length = j ∧ cut 32 S = M ++ cut 32 r ∧ r.length ≤ S.length ∧ Obj s' s.next (M.map str ++ List.replicate (N + 1 - j) (str [])) ∧ Keeps [] s s') ?_ ?_ ?_ (Nat.zero_le _) ?_
  · rintro j a s' hj ⟨r10, r9, r3, r1, r2, hr⟩ Ψ w
    simp only [tf_66, ↓reduceIte, Nat.reduceEqDiff, reduceCtorEq, Int.reduceEq, Nat.reduceMul, Nat.reduceAdd, Nat.reduceBEq, Int.reduceBEq, noteOk, List.mem_cons, List.not_mem_nil, true_or, or_true, or_false, true_and, and_true, Nat.reduceLT, Nat.reduceLeDiff, List.contains_cons, List.contains_nil, r10, r3]
    refine w _ _ (decide (j < N)) ?_ (by simp) ⟨?_, ?_, ?_, ?_, ?_, ?_⟩
    · simp only [tf_66, ↓reduceIte, Nat.reduceEqDiff, reduceCtorEq, Int.reduceEq, Nat.reduceMul, Nat.reduceAdd, Nat.reduceBEq, Int.reduceBEq, noteOk, List.mem_cons, List.not_mem_nil, true_or, or_true, or_false, true_and, and_true, Nat.reduceLT, Nat.reduceLeDiff, List.contains_cons, List.contains_nil, Int.ofNat_lt]
    · simp only [tf_66, ↓reduceIte, Nat.reduceEqDiff, reduceCtorEq, Int.reduceEq, Nat.reduceMul, Nat.reduceAdd, Nat.reduceBEq, Int.reduceBEq, noteOk, List.mem_cons, List.not_mem_nil, true_or, or_true, or_false, true_and, and_true, Nat.reduceLT, Nat.reduceLeDiff, List.contains_cons, List.contains_nil, r10]
    · simp only [tf_66, ↓reduceIte, Nat.reduceEqDiff, reduceCtorEq, Int.reduceEq, Nat.reduceMul, Nat.reduceAdd, Nat.reduceBEq, Int.reduceBEq, noteOk, List.mem_cons, List.not_mem_nil, true_or, or_true, or_false, true_and, and_true, Nat.reduceLT, Nat.reduceLeDiff, List.contains_cons, List.contains_nil, r9]
    · simp only [tf_66, ↓reduceIte, Nat.reduceEqDiff, reduceCtorEq, Int.reduceEq, Nat.reduceMul, Nat.reduceAdd, Nat.reduceBEq, Int.reduceBEq, noteOk, List.mem_cons, List.not_mem_nil, true_or, or_true, or_false, true_and, and_true, Nat.reduceLT, Nat.reduceLeDiff, List.contains_cons, List.contains_nil, r3]
    · simp only [tf_66, ↓reduceIte, Nat.reduceEqDiff, reduceCtorEq, Int.reduceEq, Nat.reduceMul, Nat.reduceAdd, Nat.reduceBEq, Int.reduceBEq, noteOk, List.mem_cons, List.not_mem_nil, true_or, or_true, or_false, true_and, and_true, Nat.reduceLT, Nat.reduceLeDiff, List.contains_cons, List.contains_nil, r1]
    · simp only [tf_66, ↓reduceIte, Nat.reduceEqDiff, reduceCtorEq, Int.reduceEq, Nat.reduceMul, Nat.reduceAdd, Nat.reduceBEq, Int.reduceBEq, noteOk, List.mem_cons, List.not_mem_nil, true_or, or_true, or_false, true_and, and_true, Nat.reduceLT, Nat.reduceLeDiff, List.contains_cons, List.contains_nil, r2]
    · simp only [tf_66, ↓reduceIte, Nat.reduceEqDiff, reduceCtorEq, Int.reduceEq, Nat.reduceMul, Nat.reduceAdd, Nat.reduceBEq, Int.reduceBEq, noteOk, List.mem_cons, List.not_mem_nil, true_or, or_true, or_false, true_and, and_true, Nat.reduceLT, Nat.reduceLeDiff, List.contains_cons, List.contains_nil]
      exact hr
  · rintro j a s' hj ⟨r10, r9, r3, r1, r2, M, r, r0, hM, hc, hrl, O, hk⟩ Ψ w1 w2 w3
    have hcr : (cut 32 r).length = N + 1 - j := by
      have := congrArg List.length hc
      rw [hcl, List.length_append] at this
      omega
    have hmem : (32 : UInt8) ∈ r := by
      have h1 : (cut 32 r).length = r.count 32 + 1 := cut_len 32 r []
      exact List.count_pos_iff.1 (by omega)
    obtain ⟨l, t, rfl, hl⟩ := split_at hmem
    have hidx := idx_free 32 l t hl
    have hcut := cut_free 32 l [] t hl
    have hlen : (l ++ 32 :: t).length = l.length + 1 + t.length := by simp; omega
    rw [hlen] at hrl
    have p1 : (0 : Int) ≤ (j : Int) := Int.natCast_nonneg _
    have p2 : (j : Int) < ((N + 1 : Nat) : Int) := by omega
    have d0 : decide ((l.length : Int) < 0) = false := decide_eq_false (by omega)
    have wa : IntKind.i64.wrap ((l.length : Int) + 0) = (l.length : Int) := by rw [wrapI (by omega) (by omega)]; omega
    have wb : IntKind.i64.wrap ((l.length : Int) + 1) = ((l.length + 1 : Nat) : Int) := by rw [wrapI (by omega) (by omega)]; rfl
    have wc : IntKind.i64.wrap ((j : Int) + 1) = ((j + 1 : Nat) : Int) := by rw [wrapI (by omega) (by omega)]; rfl
    have l1 : ((1 : Nat) : Int) = 1 := rfl
    have sa : ∀ H, sliceA X H 9 (str (l ++ 32 :: t)) none (some (int (l.length : Int))) none = some (str l) := fun H => by
      rw [slice_to (by omega)]
      simp
    have sb : ∀ H, sliceA X H 9 (str (l ++ 32 :: t)) (some (int ((l.length + 1 : Nat) : Int))) none none = some (str t) := fun H => by
      rw [slice_from (by omega), show l ++ 32 :: t = (l ++ [32]) ++ t by simp, List.drop_left' (by simp)]
    have hlt : j < (M.map str ++ List.replicate (N + 1 - j) (str [])).length := by simp; omega
    obtain ⟨s2, e4, o2, k2⟩ := O.store1 hk.ok (i := j) (v := str l) hlt rfl
    refine okC_seq_g fun Ψ12 hΨ12 hΨ12' => ?_
    simp only [tf_66, ↓reduceIte, Nat.reduceEqDiff, reduceCtorEq, Int.reduceEq, Nat.reduceMul, Nat.reduceAdd, Nat.reduceBEq, Int.reduceBEq, noteOk, List.mem_cons, List.not_mem_nil, true_or, or_true, or_false, true_and, and_true, Nat.reduceLT, Nat.reduceLeDiff, List.contains_cons, List.contains_nil, r0, r1]
    refine okO_callx ?_ (index_ok (l := l ++ 32 :: t) (c := 32) ?_)
    · simp only [tf_66, ↓reduceIte, Nat.reduceEqDiff, reduceCtorEq, Int.reduceEq, Nat.reduceMul, Nat.reduceAdd, Nat.reduceBEq, Int.reduceBEq, noteOk, List.mem_cons, List.not_mem_nil, true_or, or_true, or_false, true_and, and_true, Nat.reduceLT, Nat.reduceLeDiff, List.contains_cons, List.contains_nil, r0, r1]
    rw [hidx]
    simp only [tf_66, ↓reduceIte, Nat.reduceEqDiff, reduceCtorEq, Int.reduceEq, Nat.reduceMul, Nat.reduceAdd, Nat.reduceBEq, Int.reduceBEq, noteOk, List.mem_cons, List.not_mem_nil, true_or, or_true, or_false, true_and, and_true, Nat.reduceLT, Nat.reduceLeDiff, List.contains_cons, List.contains_nil]
    refine hΨ12 _ _ ?_
    refine okC_seq_g fun Ψ13 hΨ13 hΨ13' => ?_
    refine okC_seq_g fun Ψ14 hΨ14 hΨ14' => ?_
    simp only [tf_66, ↓reduceIte, Nat.reduceEqDiff, reduceCtorEq, Int.reduceEq, Nat.reduceMul, Nat.reduceAdd, Nat.reduceBEq, Int.reduceBEq, noteOk, List.mem_cons, List.not_mem_nil, true_or, or_true, or_false, true_and, and_true, Nat.reduceLT, Nat.reduceLeDiff, List.contains_cons, List.contains_nil, d0]
    refine hΨ14 _ _ ?_
    simp only [tf_66, ↓reduceIte, Nat.reduceEqDiff, reduceCtorEq, Int.reduceEq, Nat.reduceMul, Nat.reduceAdd, Nat.reduceBEq, Int.reduceBEq, noteOk, List.mem_cons, List.not_mem_nil, true_or, or_true, or_false, true_and, and_true, Nat.reduceLT, Nat.reduceLeDiff, List.contains_cons, List.contains_nil]
    refine hΨ13 _ _ ?_
    refine okC_seq_g fun Ψ15 hΨ15 hΨ15' => ?_
    simp only [tf_66, ↓reduceIte, Nat.reduceEqDiff, reduceCtorEq, Int.reduceEq, Nat.reduceMul, Nat.reduceAdd, Nat.reduceBEq, Int.reduceBEq, noteOk, List.mem_cons, List.not_mem_nil, true_or, or_true, or_false, true_and, and_true, Nat.reduceLT, Nat.reduceLeDiff, List.contains_cons, List.contains_nil, r9, r10, r0, r2, wa, sa, p1, p2, and_self, addr_add, Int.toNat_natCast, Nat.mul_one, Nat.zero_add, cells_s, e4]
    refine hΨ15 _ _ ?_
    refine okC_seq_g fun Ψ16 hΨ16 hΨ16' => ?_
    simp only [tf_66, ↓reduceIte, Nat.reduceEqDiff, reduceCtorEq, Int.reduceEq, Nat.reduceMul, Nat.reduceAdd, Nat.reduceBEq, Int.reduceBEq, noteOk, List.mem_cons, List.not_mem_nil, true_or, or_true, or_false, true_and, and_true, Nat.reduceLT, Nat.reduceLeDiff, List.contains_cons, List.contains_nil, r0, r1, lenS, l1, wb, sb]
    refine hΨ16 _ _ ?_
    simp only [tf_66, ↓reduceIte, Nat.reduceEqDiff, reduceCtorEq, Int.reduceEq, Nat.reduceMul, Nat.reduceAdd, Nat.reduceBEq, Int.reduceBEq, noteOk, List.mem_cons, List.not_mem_nil, true_or, or_true, or_false, true_and, and_true, Nat.reduceLT, Nat.reduceLeDiff, List.contains_cons, List.contains_nil, r10, wc]
    refine w1 _ _ ⟨?_, ?_, ?_, ?_, ?_, M ++ [l], t, ?_, ?_, ?_, ?_, ?_, ?_⟩
    · simp only [tf_66, ↓reduceIte, Nat.reduceEqDiff, reduceCtorEq, Int.reduceEq, Nat.reduceMul, Nat.reduceAdd, Nat.reduceBEq, Int.reduceBEq, noteOk, List.mem_cons, List.not_mem_nil, true_or, or_true, or_false, true_and, and_true, Nat.reduceLT, Nat.reduceLeDiff, List.contains_cons, List.contains_nil]
    · simp only [tf_66, ↓reduceIte, Nat.reduceEqDiff, reduceCtorEq, Int.reduceEq, Nat.reduceMul, Nat.reduceAdd, Nat.reduceBEq, Int.reduceBEq, noteOk, List.mem_cons, List.not_mem_nil, true_or, or_true, or_false, true_and, and_true, Nat.reduceLT, Nat.reduceLeDiff, List.contains_cons, List.contains_nil, r9]
    · simp only [tf_66, ↓reduceIte, Nat.reduceEqDiff, reduceCtorEq, Int.reduceEq, Nat.reduceMul, Nat.reduceAdd, Nat.reduceBEq, Int.reduceBEq, noteOk, List.mem_cons, List.not_mem_nil, true_or, or_true, or_false, true_and, and_true, Nat.reduceLT, Nat.reduceLeDiff, List.contains_cons, List.contains_nil, r3]
    · simp only [tf_66, ↓reduceIte, Nat.reduceEqDiff, reduceCtorEq, Int.reduceEq, Nat.reduceMul, Nat.reduceAdd, Nat.reduceBEq, Int.reduceBEq, noteOk, List.mem_cons, List.not_mem_nil, true_or, or_true, or_false, true_and, and_true, Nat.reduceLT, Nat.reduceLeDiff, List.contains_cons, List.contains_nil, r1]
    · simp only [tf_66, ↓reduceIte, Nat.reduceEqDiff, reduceCtorEq, Int.reduceEq, Nat.reduceMul, Nat.reduceAdd, Nat.reduceBEq, Int.reduceBEq, noteOk, List.mem_cons, List.not_mem_nil, true_or, or_true, or_false, true_and, and_true, Nat.reduceLT, Nat.reduceLeDiff, List.contains_cons, List.contains_nil, r2]
    · simp only [tf_66, ↓reduceIte, Nat.reduceEqDiff, reduceCtorEq, Int.reduceEq, Nat.reduceMul, Nat.reduceAdd, Nat.reduceBEq, Int.reduceBEq, noteOk, List.mem_cons, List.not_mem_nil, true_or, or_true, or_false, true_and, and_true, Nat.reduceLT, Nat.reduceLeDiff, List.contains_cons, List.contains_nil]
    · simp [hM]
    · rw [hc]
      show M ++ cutFrom 32 [] (l ++ 32 :: t) = _
      rw [hcut]
      simp
    · omega
    · have : (M.map str ++ List.replicate (N + 1 - j) (str [])).set j (str l) = (M ++ [l]).map str ++ List.replicate (N + 1 - (j + 1)) (str []) := by
        obtain ⟨k, hk⟩ : ∃ k, N + 1 - j = k + 1 := ⟨N - j, by omega⟩
        rw [hk, show N + 1 - (j + 1) = k by omega]
        have := rep_set (k := k) (M := M.map str) (v := str l) (z := str [])
        rw [List.length_map, hM] at this
        rw [this]
        simp
      rw [← this]
      exact o2
    · exact hk.step k2 fun g hg => .inr (by rw [List.mem_singleton.1 hg]; exact hs.fresh _ (Nat.le_refl _))
  · rintro a s' ⟨r10, r9, r3, r1, r2, M, r, r0, hM, hc, hrl, O, hk⟩
    refine hΨ12e _ _ (hΨ11 _ _ ?_)
    have hcr : (cut 32 r).length = 1 := by
      have := congrArg List.length hc
      rw [hcl, List.length_append] at this
      omega
    have hno : (32 : UInt8) ∉ r := by
      have h1 : (cut 32 r).length = r.count 32 + 1 := cut_len 32 r []
      exact fun h => by have := List.count_pos_iff.2 h; omega
    have hce : cut 32 r = [r] := cut_end 32 r [] hno
    rw [hce] at hc
    have hlt : N < (M.map str ++ List.replicate (N + 1 - N) (str [])).length := by simp; omega
    obtain ⟨s2, e4, o2, k2⟩ := O.store1 hk.ok (i := N) (v := str r) hlt rfl
    have p1 : (0 : Int) ≤ (N : Int) := Int.natCast_nonneg _
    have p2 : (N : Int) < ((N + 1 : Nat) : Int) := by omega
    have hk2 := hk.step k2 (F := []) fun g hg => .inr (by rw [List.mem_singleton.1 hg]; exact hs.fresh _ (Nat.le_refl _))
    have o2' : Obj s2 s.next ((cut 32 S).map str) := by
      have h1 : (M.map str ++ List.replicate (N + 1 - N) (str [])).set N (str r) = (cut 32 S).map str := by
        rw [show N + 1 - N = 0 + 1 by omega]
        have := rep_set (k := 0) (M := M.map str) (v := str r) (z := str [])
        rw [List.length_map, hM] at this
        rw [this, hc]
        simp
      rw [← h1]
      exact o2
    refine okC_seq_g fun Ψ17 hΨ17 hΨ17' => ?_
    simp only [tf_66, ↓reduceIte, Nat.reduceEqDiff, reduceCtorEq, Int.reduceEq, Nat.reduceMul, Nat.reduceAdd, Nat.reduceBEq, Int.reduceBEq, noteOk, List.mem_cons, List.not_mem_nil, true_or, or_true, or_false, true_and, and_true, Nat.reduceLT, Nat.reduceLeDiff, List.contains_cons, List.contains_nil, r9, r10, r0, p1, p2, and_self, addr_add, Int.toNat_natCast, Nat.mul_one, Nat.zero_add, cells_s, e4]
    refine hΨ17 _ _ ?_
    refine okC_seq_g fun Ψ18 hΨ18 hΨ18' => ?_
    have hcells : ∃ c z n e room ro ver, s2.look s.next = some (.cells c z n e room ro ver) := by
      obtain ⟨e, c, z, room, ver, h, _⟩ := o2'
      exact ⟨c, z, _, e, room, false, ver, h⟩
    have e5 := slice_upto (X := X) (H := s2.look) (t := 45) (e := 9) (N := 1) (b := s.next) (off := 0) (n := N + 1) (c := N + 1) (h := N + 1) (by kernel_rfl) (by kernel_rfl) hcells (Nat.le_refl _) (by omega)
    simp only [tf_66, ↓reduceIte, Nat.reduceEqDiff, reduceCtorEq, Int.reduceEq, Nat.reduceMul, Nat.reduceAdd, Nat.reduceBEq, Int.reduceBEq, noteOk, List.mem_cons, List.not_mem_nil, true_or, or_true, or_false, true_and, and_true, Nat.reduceLT, Nat.reduceLeDiff, List.contains_cons, List.contains_nil, r9, r10, w1, e5]
    refine hΨ18 _ _ ?_
    simp only [tf_66, ↓reduceIte, Nat.reduceEqDiff, reduceCtorEq, Int.reduceEq, Nat.reduceMul, Nat.reduceAdd, Nat.reduceBEq, Int.reduceBEq, noteOk, List.mem_cons, List.not_mem_nil, true_or, or_true, or_false, true_and, and_true, Nat.reduceLT, Nat.reduceLeDiff, List.contains_cons, List.contains_nil]
    rw [← hcl]
    refine hΦ _ _ s2 (o2'.sl (m := 1) (by simp)) hk2 fun b hb => ?_
    rw [List.mem_singleton.1 (show b ∈ [s.next] from hb)]
    exact Nat.le_refl _
  · refine ⟨?_, ?_, ?_, ?_, ?_, [], S, ?_, rfl, rfl, Nat.le_refl _, c1, k1⟩
    · simp only [tf_66, ↓reduceIte, Nat.reduceEqDiff, reduceCtorEq, Int.reduceEq, Nat.reduceMul, Nat.reduceAdd, Nat.reduceBEq, Int.reduceBEq, noteOk, List.mem_cons, List.not_mem_nil, true_or, or_true, or_false, true_and, and_true, Nat.reduceLT, Nat.reduceLeDiff, List.contains_cons, List.contains_nil]
      rfl
    · simp only [tf_66, ↓reduceIte, Nat.reduceEqDiff, reduceCtorEq, Int.reduceEq, Nat.reduceMul, Nat.reduceAdd, Nat.reduceBEq, Int.reduceBEq, noteOk, List.mem_cons, List.not_mem_nil, true_or, or_true, or_false, true_and, and_true, Nat.reduceLT, Nat.reduceLeDiff, List.contains_cons, List.contains_nil]
    · simp only [tf_66, ↓reduceIte, Nat.reduceEqDiff, reduceCtorEq, Int.reduceEq, Nat.reduceMul, Nat.reduceAdd, Nat.reduceBEq, Int.reduceBEq, noteOk, List.mem_cons, List.not_mem_nil, true_or, or_true, or_false, true_and, and_true, Nat.reduceLT, Nat.reduceLeDiff, List.contains_cons, List.contains_nil]
    · simp only [tf_66, ↓reduceIte, Nat.reduceEqDiff, reduceCtorEq, Int.reduceEq, Nat.reduceMul, Nat.reduceAdd, Nat.reduceBEq, Int.reduceBEq, noteOk, List.mem_cons, List.not_mem_nil, true_or, or_true, or_false, true_and, and_true, Nat.reduceLT, Nat.reduceLeDiff, List.contains_cons, List.contains_nil]
    · simp only [tf_66, ↓reduceIte, Nat.reduceEqDiff, reduceCtorEq, Int.reduceEq, Nat.reduceMul, Nat.reduceAdd, Nat.reduceBEq, Int.reduceBEq, noteOk, List.mem_cons, List.not_mem_nil, true_or, or_true, or_false, true_and, and_true, Nat.reduceLT, Nat.reduceLeDiff, List.contains_cons, List.contains_nil]
    · simp only [tf_66, ↓reduceIte, Nat.reduceEqDiff, reduceCtorEq, Int.reduceEq, Nat.reduceMul, Nat.reduceAdd, Nat.reduceBEq, Int.reduceBEq, noteOk, List.mem_cons, List.not_mem_nil, true_or, or_true, or_false, true_and, and_true, Nat.reduceLT, Nat.reduceLeDiff, List.contains_cons, List.contains_nil]
theorem tf_26 : type_of% (And.intro @RC <| And.intro @RO <| And.intro @RD <| And.intro @RV <| And.intro @RB <| @RG) := And.intro @RC <| And.intro @RO <| And.intro @RD <| And.intro @RV <| And.intro @RB <| @RG
theorem split_ok {S : List UInt8} (hs : Ok s) (hS : S.length ≤ 100000) (hΦ : ∀ a c s', Strs s' (.slice a (cut 32 S).length c) (cut 32 S) → Keeps [] s s' → (∀ b ∈ nameOf (.slice a (cut 32 S).length c), s.next ≤ b) → Φ (.slice a (cut 32 S).length c) s') : okF q X KT 26 [str S, str [32]] s Φ := by
  refine okF_body rfl fn_26 rfl (rs := [.tmp 4]) rfl (N := 8) rfl rfl ?_
  refine okC_seq_g fun Ψ0 hΨ0 hΨ0' => ?_
  simp only [tf_26, ↓reduceIte, Nat.reduceEqDiff, reduceCtorEq, Int.reduceEq, Nat.reduceMul, Nat.reduceAdd, Nat.reduceBEq, Int.reduceBEq, noteOk, List.mem_cons, List.not_mem_nil, true_or, or_true, or_false, true_and, and_true, Nat.reduceLT, Nat.reduceLeDiff, List.contains_cons, List.contains_nil]
  refine hΨ0 _ _ ?_
  refine okC_seq_g fun Ψ1 hΨ1 hΨ1' => ?_
  simp only [tf_26, ↓reduceIte, Nat.reduceEqDiff, reduceCtorEq, Int.reduceEq, Nat.reduceMul, Nat.reduceAdd, Nat.reduceBEq, Int.reduceBEq, noteOk, List.mem_cons, List.not_mem_nil, true_or, or_true, or_false, true_and, and_true, Nat.reduceLT, Nat.reduceLeDiff, List.contains_cons, List.contains_nil]
  refine okO_callx ?_ (gen_ok (S := S) hs hS fun a c s' h k n => ?_)
  · simp only [tf_26, ↓reduceIte, Nat.reduceEqDiff, reduceCtorEq, Int.reduceEq, Nat.reduceMul, Nat.reduceAdd, Nat.reduceBEq, Int.reduceBEq, noteOk, List.mem_cons, List.not_mem_nil, true_or, or_true, or_false, true_and, and_true, Nat.reduceLT, Nat.reduceLeDiff, List.contains_cons, List.contains_nil]
  simp only [tf_26, ↓reduceIte, Nat.reduceEqDiff, reduceCtorEq, Int.reduceEq, Nat.reduceMul, Nat.reduceAdd, Nat.reduceBEq, Int.reduceBEq, noteOk, List.mem_cons, List.not_mem_nil, true_or, or_true, or_false, true_and, and_true, Nat.reduceLT, Nat.reduceLeDiff, List.contains_cons, List.contains_nil]
  refine hΨ1 _ _ ?_
  simp only [tf_26, ↓reduceIte, Nat.reduceEqDiff, reduceCtorEq, Int.reduceEq, Nat.reduceMul, Nat.reduceAdd, Nat.reduceBEq, Int.reduceBEq, noteOk, List.mem_cons, List.not_mem_nil, true_or, or_true, or_false, true_and, and_true, Nat.reduceLT, Nat.reduceLeDiff, List.contains_cons, List.contains_nil]
  exact hΦ a c s' h k n
theorem tf_29 : type_of% (And.intro @RC <| And.intro @RO <| And.intro @RD <| And.intro @RV <| And.intro @RB <| And.intro @RG <| And.intro @len_45 <| And.intro @ix_45 <| @ld_9) := And.intro @RC <| And.intro @RO <| And.intro @RD <| And.intro @RV <| And.intro @RB <| And.intro @RG <| And.intro @len_45 <| And.intro @ix_45 <| @ld_9
theorem idx_ok {a : Option Addr} {c : Nat} {L : List (List UInt8)} {v : List UInt8} (hs : Ok s) (hL : L.length ≤ 100000) (H : Strs s (.slice a L.length c) L) (h1 : ∀ (i : Nat), L[i]? = some v → (∀ j, j < i → L[j]? ≠ some v) → Φ (int i) s) (h2 : v ∉ L → Φ (int (-1)) s) : okF q X KT 29 [.slice a L.length c, str v] s Φ := by
  refine okF_body rfl fn_29 rfl (rs := [.tmp 4]) rfl (N := 19) rfl rfl ?_
  refine okC_seq_g fun Ψ0 hΨ0 hΨ0' => ?_
  simp only [tf_29, ↓reduceIte, Nat.reduceEqDiff, reduceCtorEq, Int.reduceEq, Nat.reduceMul, Nat.reduceAdd, Nat.reduceBEq, Int.reduceBEq, noteOk, List.mem_cons, List.not_mem_nil, true_or, or_true, or_false, true_and, and_true, Nat.reduceLT, Nat.reduceLeDiff, List.contains_cons, List.contains_nil]
  refine hΨ0 _ _ ?_
  refine okC_seq_g fun Ψ1 hΨ1 hΨ1' => ?_
  refine okC_seq_g fun Ψ2 hΨ2 hΨ2' => ?_
  simp only [tf_29, ↓reduceIte, Nat.reduceEqDiff, reduceCtorEq, Int.reduceEq, Nat.reduceMul, Nat.reduceAdd, Nat.reduceBEq, Int.reduceBEq, noteOk, List.mem_cons, List.not_mem_nil, true_or, or_true, or_false, true_and, and_true, Nat.reduceLT, Nat.reduceLeDiff, List.contains_cons, List.contains_nil]
  refine hΨ2 _ _ ?_
  refine okC_block_g fun Ψ3 hΨ3 hΨ3e hΨ3' => ?_
  refine okC_rng (n := L.length) 8 [4, 5] [] (fun j _ s' => s' = s ∧ ∀ i, i < j → L[i]? ≠ some v) rfl (by omega) ?_ ?_ ⟨rfl, fun i hi => absurd hi (Nat.not_lt_zero _)⟩ ?_ ?_
  · simp only [tf_29, ↓reduceIte, Nat.reduceEqDiff, reduceCtorEq, Int.reduceEq, Nat.reduceMul, Nat.reduceAdd, Nat.reduceBEq, Int.reduceBEq, noteOk, List.mem_cons, List.not_mem_nil, true_or, or_true, or_false, true_and, and_true, Nat.reduceLT, Nat.reduceLeDiff, List.contains_cons, List.contains_nil]
  · simp only [tf_29, ↓reduceIte, Nat.reduceEqDiff, reduceCtorEq, Int.reduceEq, Nat.reduceMul, Nat.reduceAdd, Nat.reduceBEq, Int.reduceBEq, noteOk, List.mem_cons, List.not_mem_nil, true_or, or_true, or_false, true_and, and_true, Nat.reduceLT, Nat.reduceLeDiff, List.contains_cons, List.contains_nil]
  · rintro j a' s' hj hA hc ⟨rfl, hno⟩ Ψ w w3
    obtain ⟨y, hy⟩ : ∃ y, L[j]? = some y := ⟨_, List.getElem?_eq_getElem hj⟩
    obtain ⟨b, off, rfl⟩ := H.addr (by omega)
    have hl := H.get hy
    have p1 : (0 : Int) ≤ (j : Int) := Int.natCast_nonneg _
    have p2 : (j : Int) < (L.length : Int) := by omega
    refine okC_seq_g fun Ψ13 hΨ13 hΨ13' => ?_
    simp only [tf_29, ↓reduceIte, Nat.reduceEqDiff, reduceCtorEq, Int.reduceEq, Nat.reduceMul, Nat.reduceAdd, Nat.reduceBEq, Int.reduceBEq, noteOk, List.mem_cons, List.not_mem_nil, true_or, or_true, or_false, true_and, and_true, Nat.reduceLT, Nat.reduceLeDiff, List.contains_cons, List.contains_nil, hc]
    refine hΨ13 _ _ ?_
    refine okC_seq_g fun Ψ14 hΨ14 hΨ14' => ?_
    simp only [tf_29, ↓reduceIte, Nat.reduceEqDiff, reduceCtorEq, Int.reduceEq, Nat.reduceMul, Nat.reduceAdd, Nat.reduceBEq, Int.reduceBEq, noteOk, List.mem_cons, List.not_mem_nil, true_or, or_true, or_false, true_and, and_true, Nat.reduceLT, Nat.reduceLeDiff, List.contains_cons, List.contains_nil, hA.get, hc, p1, p2, and_self, addr_add, Int.toNat_natCast, Nat.mul_one, hl, eq_str, bn_s]
    refine hΨ14 _ _ ?_
    cases hvy : (v == y) with
    | true =>
      have e : v = y := eq_of_beq hvy
      simp only [okC_cnd, RV, RG, ↓reduceIte, Nat.reduceEqDiff, reduceCtorEq, Int.reduceEq, Nat.reduceMul, Nat.reduceAdd, Nat.reduceBEq, Int.reduceBEq, noteOk, List.mem_cons, List.not_mem_nil, true_or, or_true, or_false, true_and, and_true, Nat.reduceLT, Nat.reduceLeDiff, List.contains_cons, List.contains_nil]
      refine okC_seq_g fun Ψ15 hΨ15 hΨ15' => ?_
      simp only [tf_29, ↓reduceIte, Nat.reduceEqDiff, reduceCtorEq, Int.reduceEq, Nat.reduceMul, Nat.reduceAdd, Nat.reduceBEq, Int.reduceBEq, noteOk, List.mem_cons, List.not_mem_nil, true_or, or_true, or_false, true_and, and_true, Nat.reduceLT, Nat.reduceLeDiff, List.contains_cons, List.contains_nil, hc]
      refine hΨ15 _ _ ?_
      simp only [tf_29, ↓reduceIte, Nat.reduceEqDiff, reduceCtorEq, Int.reduceEq, Nat.reduceMul, Nat.reduceAdd, Nat.reduceBEq, Int.reduceBEq, noteOk, List.mem_cons, List.not_mem_nil, true_or, or_true, or_false, true_and, and_true, Nat.reduceLT, Nat.reduceLeDiff, List.contains_cons, List.contains_nil]
      refine w3 _ _ _ (by simp) (by simp) (hΨ3' _ _ _ (by simp) (by simp) (hΨ1' _ _ _ (by simp) ?_))
      simp only [tf_29, ↓reduceIte, Nat.reduceEqDiff, reduceCtorEq, Int.reduceEq, Nat.reduceMul, Nat.reduceAdd, Nat.reduceBEq, Int.reduceBEq, noteOk, List.mem_cons, List.not_mem_nil, true_or, or_true, or_false, true_and, and_true, Nat.reduceLT, Nat.reduceLeDiff, List.contains_cons, List.contains_nil]
      exact h1 j (by rw [hy, e]) hno
    | false =>
      simp only [tf_29, ↓reduceIte, Nat.reduceEqDiff, reduceCtorEq, Int.reduceEq, Nat.reduceMul, Nat.reduceAdd, Nat.reduceBEq, Int.reduceBEq, noteOk, List.mem_cons, List.not_mem_nil, true_or, or_true, or_false, true_and, and_true, Nat.reduceLT, Nat.reduceLeDiff, List.contains_cons, List.contains_nil]
      refine (w _ _ ?_ ?_ ⟨rfl, fun i hi => ?_⟩).1
      · simp only [tf_29, ↓reduceIte, Nat.reduceEqDiff, reduceCtorEq, Int.reduceEq, Nat.reduceMul, Nat.reduceAdd, Nat.reduceBEq, Int.reduceBEq, noteOk, List.mem_cons, List.not_mem_nil, true_or, or_true, or_false, true_and, and_true, Nat.reduceLT, Nat.reduceLeDiff, List.contains_cons, List.contains_nil, agr_put, hA]
      · simp only [tf_29, ↓reduceIte, Nat.reduceEqDiff, reduceCtorEq, Int.reduceEq, Nat.reduceMul, Nat.reduceAdd, Nat.reduceBEq, Int.reduceBEq, noteOk, List.mem_cons, List.not_mem_nil, true_or, or_true, or_false, true_and, and_true, Nat.reduceLT, Nat.reduceLeDiff, List.contains_cons, List.contains_nil, hc]
      · by_cases e : i = j
        · subst e
          rw [hy]
          intro h
          rw [Option.some.inj h] at hvy
          simp at hvy
        · exact hno i (by omega)
  · rintro a' s' hA ⟨rfl, hno⟩
    refine hΨ3e _ _ (hΨ1 _ _ ?_)
    refine okC_seq_g fun Ψ6 hΨ6 hΨ6' => ?_
    simp only [tf_29, ↓reduceIte, Nat.reduceEqDiff, reduceCtorEq, Int.reduceEq, Nat.reduceMul, Nat.reduceAdd, Nat.reduceBEq, Int.reduceBEq, noteOk, List.mem_cons, List.not_mem_nil, true_or, or_true, or_false, true_and, and_true, Nat.reduceLT, Nat.reduceLeDiff, List.contains_cons, List.contains_nil]
    refine hΨ6 _ _ ?_
    simp only [tf_29, ↓reduceIte, Nat.reduceEqDiff, reduceCtorEq, Int.reduceEq, Nat.reduceMul, Nat.reduceAdd, Nat.reduceBEq, Int.reduceBEq, noteOk, List.mem_cons, List.not_mem_nil, true_or, or_true, or_false, true_and, and_true, Nat.reduceLT, Nat.reduceLeDiff, List.contains_cons, List.contains_nil]
    refine h2 fun h => ?_
    obtain ⟨i, hi⟩ := List.getElem?_of_mem h
    exact hno i (List.getElem?_eq_some_iff.1 hi).1 hi
end
end Go.Dust
end
