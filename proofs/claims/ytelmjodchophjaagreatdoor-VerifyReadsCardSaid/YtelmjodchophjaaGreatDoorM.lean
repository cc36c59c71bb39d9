/- UJ UK -/
import Derived.Test.YtelmjodchophjaaGreatDoorL
set_option linter.unusedVariables false
set_option linter.unusedSimpArgs false
section
/- Go's strings.Lines. -/
namespace Go.Dust
open Go.Proofs
set_option maxRecDepth 100000
set_option maxHeartbeats 4000000
set_option linter.unusedSimpArgs false
set_option linter.unusedVariables false
theorem okC_meas {q : Bool} {X : Env} {K : Orc} {r : Option Nat} {G body : Code} {c : Operand} {e b : Nat} {Φ : AExit → ACt → St → Prop} (I J : Nat → ACt → St → Prop) (E : ACt → St → Prop)
    (hG : ∀ k a s, I k a s → ∀ Ψ : AExit → ACt → St → Prop, (∀ a' s' bb, a'.eval c = .bool bb → (bb = true → J k a' s') → (bb = false → E a' s') → Ψ .normal a' s') → okC q X K r G a s Ψ)
    (hB : ∀ k a s, J k a s → ∀ Ψ : AExit → ACt → St → Prop, (∀ a s j, j < k → I j a s → Ψ .normal a s) → (∀ a s j, j < k → I j a s → Ψ (.exit b) a s) → (∀ e' a s, e' ≠ .normal → e' ≠ .exit b → Φ e' a s → Ψ e' a s) → okC q X K r body a s Ψ)
    (hE : ∀ a s, E a s → Φ (.exit e) a s) {k0 : Nat} {a : ACt} {s : St} (h0 : I k0 a s) :
    okC q X K r (.loop (.seq (.seq G (.cond c .skip (.exit e))) (.block b body))) a s Φ := by
  refine okC.loop I ?_ k0 h0
  rintro k a s hI
  refine okC_seq_g fun Ψ1 h1 h1' => ?_
  refine okC_seq_g fun Ψ2 h2 h2' => ?_
  refine hG k a s hI _ fun a' s' bb hb hJ hEx => h2 _ _ ?_
  rw [okC_cond]
  refine ⟨bb, hb, ?_⟩
  cases bb with
  | true =>
    rw [if_pos rfl, okC_skip]
    refine h1 _ _ ?_
    refine okC_block_g fun Ψ4 h4 h4e h4' => ?_
    refine hB k a' s' (hJ rfl) Ψ4 (fun a s j hj hi => h4 _ _ ⟨j, hj, hi⟩) (fun a s j hj hi => h4e _ _ ⟨j, hj, hi⟩) fun e' a s hn hb hΦ => h4' _ _ _ hn hb ?_
    cases e' with
    | normal => exact absurd rfl hn
    | _ => exact hΦ
  | false =>
    rw [if_neg (by simp), okC_exit]
    exact h1' _ _ _ (by simp) (hE _ _ (hEx rfl))
theorem okCallV.mono {q : Bool} {X : Env} {K : Orc} {s : St} {f : Value} {args : List Value} {Ψ Ψ' : Value → St → Prop} (h : okCallV q X K s f args Ψ) (hm : ∀ v s, Ψ v s → Ψ' v s) : okCallV q X K s f args Ψ' := by
  obtain ⟨n, h⟩ := h
  exact ⟨n, h.mono fun p hp => hm _ _ hp⟩
theorem nextL_at {r : List UInt8} : (Lib.indexByte r 10 = -1 ∧ nextL r = (r, [])) ∨ ∃ k : Nat, Lib.indexByte r 10 = k ∧ k < r.length ∧ nextL r = (r.take (k + 1), r.drop (k + 1)) := by
  by_cases hm : (10 : UInt8) ∈ r
  · obtain ⟨l, t, rfl, hl⟩ := split_at hm
    refine .inr ⟨l.length, idx_free 10 l t hl, by simp, ?_⟩
    unfold nextL
    rw [idx_free 10 l t hl, if_pos (by omega), Int.toNat_natCast]
  · exact .inl ⟨idx_none 10 r hm, nextL_none hm⟩
section
variable {s : St} {Φ : Value → St → Prop}
theorem tf_25 : type_of% (And.intro @RC <| And.intro @RO <| And.intro @RD <| And.intro @RV <| And.intro @RB <| @RG) := And.intro @RC <| And.intro @RO <| And.intro @RD <| And.intro @RV <| And.intro @RB <| @RG
theorem lines_ok {q : Bool} {S : List UInt8} (hs : Ok s) (hΦ : ∀ s', Keeps [] s s' → s'.next = s.next + 2 → Obj s' s.next [str S] → Φ (.func (.func 64) #[] #[ptr s.next]) s') : okF q X KT 25 [str S] s Φ := by
  refine okF_body rfl fn_25 rfl (rs := [.tmp 2]) rfl (N := 4) rfl rfl ?_
  refine okC_seq_g fun Ψ0 hΨ0 hΨ0' => ?_
  obtain ⟨s1, e1, k1, c1, n1⟩ := new_obj hs (L := [str S]) (n := 1) (e := 9) rfl
  simp only [tf_25, ↓reduceIte, Nat.reduceEqDiff, reduceCtorEq, Int.reduceEq, Nat.reduceMul, Nat.reduceAdd, Nat.reduceBEq, Int.reduceBEq, noteOk, List.mem_cons, List.not_mem_nil, true_or, or_true, or_false, true_and, and_true, cells_s]
  rw [e1]
  refine hΨ0 _ _ ?_
  refine okC_seq_g fun Ψ1 hΨ1 hΨ1' => ?_
  simp only [tf_25, ↓reduceIte, Nat.reduceEqDiff, reduceCtorEq, Int.reduceEq, Nat.reduceMul, Nat.reduceAdd, Nat.reduceBEq, Int.reduceBEq, noteOk, List.mem_cons, List.not_mem_nil, true_or, or_true, or_false, true_and, and_true]
  refine hΨ1 _ _ ?_
  simp only [tf_25, ↓reduceIte, Nat.reduceEqDiff, reduceCtorEq, Int.reduceEq, Nat.reduceMul, Nat.reduceAdd, Nat.reduceBEq, Int.reduceBEq, noteOk, List.mem_cons, List.not_mem_nil, true_or, or_true, or_false, true_and, and_true]
  exact hΦ s1 k1 n1 c1
theorem tf_64 : type_of% (And.intro @RC <| And.intro @RO <| And.intro @RD <| And.intro @RV <| And.intro @RB <| And.intro @RG <| And.intro @ld_9 <| @st_9) := And.intro @RC <| And.intro @RO <| And.intro @RD <| And.intro @RV <| And.intro @RB <| And.intro @RG <| And.intro @ld_9 <| @st_9
theorem lines1_ok {q : Bool} {x : Nat} {y : Value} {J : List UInt8 → St → Prop} {E : St → Prop} {r0 : List UInt8} (hs : Ok s) (hx : Obj s x [str r0]) (hr : r0.length ≤ 100000) (h0 : J r0 s)
    (hJ : ∀ r s' s'', J r s' → Keeps [x] s' s'' → J r s'')
    (hy : ∀ q' r s' Ψ, r ≠ [] → r.length ≤ r0.length → Ok s' → Obj s' x [str (nextL r).2] → J r s' → (∀ s'', Ok s'' → Obj s'' x [str (nextL r).2] → J (nextL r).2 s'' → Ψ (.bool true) s'') → (∀ s'', Ok s'' → E s'' → Ψ (.bool false) s'') → okCallV q' X KT s' y [str (nextL r).1] Ψ)
    (hΦJ : ∀ s', Ok s' → J [] s' → Φ (.tuple #[]) s') (hΦE : ∀ s', Ok s' → E s' → Φ (.tuple #[]) s') : okF q X KT 64 [y, ptr x] s Φ := by
  refine okF_body rfl fn_64 rfl (rs := []) rfl (N := 25) rfl rfl ?_
  refine okC_block_g fun Ψ0 hΨ0 hΨ0e hΨ0' => ?_
  refine okC_meas (k0 := r0.length) (fun k a s' => a.getT 0 = y ∧ a.getT 1 = ptr x ∧ Ok s' ∧ ∃ r, r.length = k ∧ r.length ≤ r0.length ∧ Obj s' x [str r] ∧ J r s')
    (fun k a s' => a.getT 0 = y ∧ a.getT 1 = ptr x ∧ Ok s' ∧ ∃ r, r ≠ [] ∧ r.length = k ∧ r.length ≤ r0.length ∧ Obj s' x [str r] ∧ J r s') (fun _ s' => Ok s' ∧ J [] s') ?_ ?_ ?_ ?_
  · rintro k a s' ⟨g0, g1, ho, r, hk, hle, O, hj⟩ Ψ w
    have l0 := O.load (i := 0) rfl
    simp only [tf_64, ↓reduceIte, Nat.reduceEqDiff, reduceCtorEq, Int.reduceEq, Nat.reduceMul, Nat.reduceAdd, Nat.reduceBEq, Int.reduceBEq, noteOk, List.mem_cons, List.not_mem_nil, true_or, or_true, or_false, true_and, and_true, g1, l0, lenS]
    refine w _ _ (decide ((r.length : Int) > 0)) ?_ (fun h => ⟨?_, ?_, ho, r, ?_, hk, hle, O, hj⟩) (fun h => ⟨ho, ?_⟩)
    · simp only [tf_64, ↓reduceIte, Nat.reduceEqDiff, reduceCtorEq, Int.reduceEq, Nat.reduceMul, Nat.reduceAdd, Nat.reduceBEq, Int.reduceBEq, noteOk, List.mem_cons, List.not_mem_nil, true_or, or_true, or_false, true_and, and_true]
    · simp only [tf_64, ↓reduceIte, Nat.reduceEqDiff, reduceCtorEq, Int.reduceEq, Nat.reduceMul, Nat.reduceAdd, Nat.reduceBEq, Int.reduceBEq, noteOk, List.mem_cons, List.not_mem_nil, true_or, or_true, or_false, true_and, and_true, g0]
    · simp only [tf_64, ↓reduceIte, Nat.reduceEqDiff, reduceCtorEq, Int.reduceEq, Nat.reduceMul, Nat.reduceAdd, Nat.reduceBEq, Int.reduceBEq, noteOk, List.mem_cons, List.not_mem_nil, true_or, or_true, or_false, true_and, and_true, g1]
    · intro e
      rw [e] at h
      simp at h
    · have : r = [] := by
        cases r with
        | nil => rfl
        | cons => simp at h
      rw [← this]
      exact hj
  · rintro k a s' ⟨g0, g1, ho, r, hne, hk, hle, O, hj⟩ Ψ w1 w2 w3
    have l0 := O.load (i := 0) rfl
    have hnl := nextL_len hne
    refine okC_seq_g fun Ψ1 hΨ1 hΨ1' => ?_
    simp only [tf_64, ↓reduceIte, Nat.reduceEqDiff, reduceCtorEq, Int.reduceEq, Nat.reduceMul, Nat.reduceAdd, Nat.reduceBEq, Int.reduceBEq, noteOk, List.mem_cons, List.not_mem_nil, true_or, or_true, or_false, true_and, and_true]
    refine hΨ1 _ _ ?_
    refine okC_seq_g fun Ψ2 hΨ2 hΨ2' => ?_
    have main : ∀ a2 s2, a2.getT 0 = y → a2.getT 1 = ptr x → a2.getT 3 = str (nextL r).1 → Ok s2 → Obj s2 x [str (nextL r).2] → J r s2 → Ψ2 .normal a2 s2 := by
      intro a2 s2 f0 f1 f3 ho2 O2 j2
      refine hΨ2 _ _ ?_
      refine okC_seq_g fun Ψ5 hΨ5 hΨ5' => ?_
      simp only [tf_64, ↓reduceIte, Nat.reduceEqDiff, reduceCtorEq, Int.reduceEq, Nat.reduceMul, Nat.reduceAdd, Nat.reduceBEq, Int.reduceBEq, noteOk, List.mem_cons, List.not_mem_nil, true_or, or_true, or_false, true_and, and_true, f0, f3]
      rw [o_callv]
      simp only [tf_64, ↓reduceIte, Nat.reduceEqDiff, reduceCtorEq, Int.reduceEq, Nat.reduceMul, Nat.reduceAdd, Nat.reduceBEq, Int.reduceBEq, noteOk, List.mem_cons, List.not_mem_nil, true_or, or_true, or_false, true_and, and_true, f0, f3]
      refine (hy q r s2 _ hne hle ho2 O2 j2 (fun s3 ho3 O3 j3 => ?_) fun s3 ho3 e3 => ?_)
      · simp only [tf_64, ↓reduceIte, Nat.reduceEqDiff, reduceCtorEq, Int.reduceEq, Nat.reduceMul, Nat.reduceAdd, Nat.reduceBEq, Int.reduceBEq, noteOk, List.mem_cons, List.not_mem_nil, true_or, or_true, or_false, true_and, and_true]
        refine hΨ5 _ _ ?_
        simp only [tf_64, ↓reduceIte, Nat.reduceEqDiff, reduceCtorEq, Int.reduceEq, Nat.reduceMul, Nat.reduceAdd, Nat.reduceBEq, Int.reduceBEq, noteOk, List.mem_cons, List.not_mem_nil, true_or, or_true, or_false, true_and, and_true]
        refine w1 _ _ _ (by omega : (nextL r).2.length < k) ⟨?_, ?_, ho3, _, rfl, by omega, O3, j3⟩
        · simp only [tf_64, ↓reduceIte, Nat.reduceEqDiff, reduceCtorEq, Int.reduceEq, Nat.reduceMul, Nat.reduceAdd, Nat.reduceBEq, Int.reduceBEq, noteOk, List.mem_cons, List.not_mem_nil, true_or, or_true, or_false, true_and, and_true, f0]
        · simp only [tf_64, ↓reduceIte, Nat.reduceEqDiff, reduceCtorEq, Int.reduceEq, Nat.reduceMul, Nat.reduceAdd, Nat.reduceBEq, Int.reduceBEq, noteOk, List.mem_cons, List.not_mem_nil, true_or, or_true, or_false, true_and, and_true, f1]
      · simp only [tf_64, ↓reduceIte, Nat.reduceEqDiff, reduceCtorEq, Int.reduceEq, Nat.reduceMul, Nat.reduceAdd, Nat.reduceBEq, Int.reduceBEq, noteOk, List.mem_cons, List.not_mem_nil, true_or, or_true, or_false, true_and, and_true]
        refine hΨ5 _ _ ?_
        simp only [okC_cnd, RV, RG, ↓reduceIte, Nat.reduceEqDiff, reduceCtorEq, Int.reduceEq, Nat.reduceMul, Nat.reduceAdd, Nat.reduceBEq, Int.reduceBEq, noteOk, List.mem_cons, List.not_mem_nil, true_or, or_true, or_false, true_and, and_true]
        simp only [tf_64, ↓reduceIte, Nat.reduceEqDiff, reduceCtorEq, Int.reduceEq, Nat.reduceMul, Nat.reduceAdd, Nat.reduceBEq, Int.reduceBEq, noteOk, List.mem_cons, List.not_mem_nil, true_or, or_true, or_false, true_and, and_true]
        refine w3 _ _ _ (by simp) (by simp) (hΨ0' _ _ _ (by simp) (by simp) ?_)
        simp only [tf_64, ↓reduceIte, Nat.reduceEqDiff, reduceCtorEq, Int.reduceEq, Nat.reduceMul, Nat.reduceAdd, Nat.reduceBEq, Int.reduceBEq, noteOk, List.mem_cons, List.not_mem_nil, true_or, or_true, or_false, true_and, and_true]
        exact hΦE s3 ho3 e3
    refine okC_seq_g fun Ψ3 hΨ3 hΨ3' => ?_
    simp only [tf_64, ↓reduceIte, Nat.reduceEqDiff, reduceCtorEq, Int.reduceEq, Nat.reduceMul, Nat.reduceAdd, Nat.reduceBEq, Int.reduceBEq, noteOk, List.mem_cons, List.not_mem_nil, true_or, or_true, or_false, true_and, and_true, g1, l0]
    refine okO_callx ?_ (ibyte_ok (l := r) (c := 10) ?_)
    · simp only [tf_64, ↓reduceIte, Nat.reduceEqDiff, reduceCtorEq, Int.reduceEq, Nat.reduceMul, Nat.reduceAdd, Nat.reduceBEq, Int.reduceBEq, noteOk, List.mem_cons, List.not_mem_nil, true_or, or_true, or_false, true_and, and_true, g1, l0]
    rw [show (10 : Int).toNat.toUInt8 = 10 from rfl]
    simp only [tf_64, ↓reduceIte, Nat.reduceEqDiff, reduceCtorEq, Int.reduceEq, Nat.reduceMul, Nat.reduceAdd, Nat.reduceBEq, Int.reduceBEq, noteOk, List.mem_cons, List.not_mem_nil, true_or, or_true, or_false, true_and, and_true]
    refine hΨ3 _ _ ?_
    refine okC_seq_g fun Ψ4 hΨ4 hΨ4' => ?_
    rcases nextL_at (r := r) with ⟨hi, hn⟩ | ⟨m, hi, hm, hn⟩
    · have d0 : decide ((-1 : Int) ≥ 0) = false := rfl
      obtain ⟨s2, e2, o2, k2⟩ := O.store1 ho (i := 0) (v := str []) (by simp) rfl
      rw [hi]
      simp only [tf_64, ↓reduceIte, Nat.reduceEqDiff, reduceCtorEq, Int.reduceEq, Nat.reduceMul, Nat.reduceAdd, Nat.reduceBEq, Int.reduceBEq, noteOk, List.mem_cons, List.not_mem_nil, true_or, or_true, or_false, true_and, and_true, d0]
      refine hΨ4 _ _ ?_
      simp only [tf_64, ↓reduceIte, Nat.reduceEqDiff, reduceCtorEq, Int.reduceEq, Nat.reduceMul, Nat.reduceAdd, Nat.reduceBEq, Int.reduceBEq, noteOk, List.mem_cons, List.not_mem_nil, true_or, or_true, or_false, true_and, and_true, g1, l0, k_no, cells_s, e2]
      refine main _ _ ?_ ?_ ?_ k2.ok ?_ (hJ _ _ _ hj k2)
      · simp only [tf_64, ↓reduceIte, Nat.reduceEqDiff, reduceCtorEq, Int.reduceEq, Nat.reduceMul, Nat.reduceAdd, Nat.reduceBEq, Int.reduceBEq, noteOk, List.mem_cons, List.not_mem_nil, true_or, or_true, or_false, true_and, and_true, g0]
      · simp only [tf_64, ↓reduceIte, Nat.reduceEqDiff, reduceCtorEq, Int.reduceEq, Nat.reduceMul, Nat.reduceAdd, Nat.reduceBEq, Int.reduceBEq, noteOk, List.mem_cons, List.not_mem_nil, true_or, or_true, or_false, true_and, and_true, g1]
      · simp only [tf_64, ↓reduceIte, Nat.reduceEqDiff, reduceCtorEq, Int.reduceEq, Nat.reduceMul, Nat.reduceAdd, Nat.reduceBEq, Int.reduceBEq, noteOk, List.mem_cons, List.not_mem_nil, true_or, or_true, or_false, true_and, and_true]
        rw [hn]
      · rw [hn]; exact o2
    · have d0 : decide ((m : Int) ≥ 0) = true := decide_eq_true (by omega)
      have wm : IntKind.i64.wrap ((m : Int) + 1) = ((m + 1 : Nat) : Int) := by rw [wrapI (by omega) (by omega)]; rfl
      have sa : ∀ H, sliceA X H 9 (str r) none (some (int ((m + 1 : Nat) : Int))) none = some (str (r.take (m + 1))) := fun H => slice_to (by omega)
      have sb : ∀ H, sliceA X H 9 (str r) (some (int ((m + 1 : Nat) : Int))) none none = some (str (r.drop (m + 1))) := fun H => slice_from (by omega)
      have ks := Keeps.skip (F := [x]) ho 20
      obtain ⟨s2, e2, o2, k2⟩ := (O.keep (F := []) (.skip ho 20) (by simp)).store1 ks.ok (i := 0) (v := str (r.drop (m + 1))) (by simp) rfl
      rw [hi]
      simp only [tf_64, ↓reduceIte, Nat.reduceEqDiff, reduceCtorEq, Int.reduceEq, Nat.reduceMul, Nat.reduceAdd, Nat.reduceBEq, Int.reduceBEq, noteOk, List.mem_cons, List.not_mem_nil, true_or, or_true, or_false, true_and, and_true, d0]
      refine hΨ4 _ _ ?_
      simp only [okC_cnd, RV, RG, ↓reduceIte, Nat.reduceEqDiff, reduceCtorEq, Int.reduceEq, Nat.reduceMul, Nat.reduceAdd, Nat.reduceBEq, Int.reduceBEq, noteOk, List.mem_cons, List.not_mem_nil, true_or, or_true, or_false, true_and, and_true]
      refine okC_drawn_d [] [x] [] (by kernel_rfl) (by kernel_rfl) (by rfl) fun O hO ΨR hR => ?_
      simp only [tf_64, ↓reduceIte, Nat.reduceEqDiff, reduceCtorEq, Int.reduceEq, Nat.reduceMul, Nat.reduceAdd, Nat.reduceBEq, Int.reduceBEq, noteOk, List.mem_cons, List.not_mem_nil, true_or, or_true, or_false, true_and, and_true, g1, l0, wm, sa, sb, cells_s, e2]
      refine hR _ _ (main _ _ ?_ ?_ ?_ k2.ok ?_ (hJ _ _ _ hj (ks.trans k2)))
      · simp only [tf_64, ↓reduceIte, Nat.reduceEqDiff, reduceCtorEq, Int.reduceEq, Nat.reduceMul, Nat.reduceAdd, Nat.reduceBEq, Int.reduceBEq, noteOk, List.mem_cons, List.not_mem_nil, true_or, or_true, or_false, true_and, and_true, g0]
      · simp only [tf_64, ↓reduceIte, Nat.reduceEqDiff, reduceCtorEq, Int.reduceEq, Nat.reduceMul, Nat.reduceAdd, Nat.reduceBEq, Int.reduceBEq, noteOk, List.mem_cons, List.not_mem_nil, true_or, or_true, or_false, true_and, and_true, g1]
      · simp only [tf_64, ↓reduceIte, Nat.reduceEqDiff, reduceCtorEq, Int.reduceEq, Nat.reduceMul, Nat.reduceAdd, Nat.reduceBEq, Int.reduceBEq, noteOk, List.mem_cons, List.not_mem_nil, true_or, or_true, or_false, true_and, and_true]
        rw [hn]
      · rw [hn]; exact o2
  · rintro a s' ⟨ho, hj⟩
    refine hΨ0e _ _ ?_
    simp only [tf_64, ↓reduceIte, Nat.reduceEqDiff, reduceCtorEq, Int.reduceEq, Nat.reduceMul, Nat.reduceAdd, Nat.reduceBEq, Int.reduceBEq, noteOk, List.mem_cons, List.not_mem_nil, true_or, or_true, or_false, true_and, and_true]
    exact hΦJ s' ho hj
  · refine ⟨?_, ?_, hs, r0, rfl, Nat.le_refl _, hx, h0⟩
    · simp only [tf_64, ↓reduceIte, Nat.reduceEqDiff, reduceCtorEq, Int.reduceEq, Nat.reduceMul, Nat.reduceAdd, Nat.reduceBEq, Int.reduceBEq, noteOk, List.mem_cons, List.not_mem_nil, true_or, or_true, or_false, true_and, and_true]
    · simp only [tf_64, ↓reduceIte, Nat.reduceEqDiff, reduceCtorEq, Int.reduceEq, Nat.reduceMul, Nat.reduceAdd, Nat.reduceBEq, Int.reduceBEq, noteOk, List.mem_cons, List.not_mem_nil, true_or, or_true, or_false, true_and, and_true]
end
end Go.Dust
end
section
/- verify.Parse. -/
namespace Go.Dust
open Go.Proofs
set_option maxRecDepth 100000
set_option maxHeartbeats 8000000
set_option linter.unusedSimpArgs false
set_option linter.unusedVariables false
theorem putArgs1 (a : ACt) (x : Nat) (v : Value) : ({ tmps := putArgs a.tmps ((#[x] : Array Tmp).toList.zip [v]), nt := a.nt } : ACt) = a.put (some x) v := rfl
theorem GlobAt.nine {s : St} (G : GlobAt s) (hs : Ok s) : 9 ≤ s.next := by
  obtain ⟨v, h⟩ := G.pow
  have := hs.lt h
  omega
theorem glob_strs {s : St} (G : GlobAt s) : Strs s (.slice (some ⟨0, 0, none⟩) nm12.length 12) nm12 := by
  obtain ⟨v, h⟩ := G.names
  refine .cells rfl fun i hi => ?_
  have hi' : i < 12 := hi
  show load1 s.look ⟨0, 0 + i, none⟩ = _
  rw [Nat.zero_add]
  unfold load1
  simp only [St.look, h, cellAt]
  rw [if_pos hi', PT.get_ofList, List.getElem?_eq_getElem hi]
theorem slice_arr {X : Env} {H : Look} {t e N b n : Nat} (hd : ((X.ty t).map fun i => i.desc) = some (.array n e)) (he : ((X.ty e).map fun i => i.size) = some N) (hn : 0 < n)
    (ho : ∃ c z n e ro ver, H b = some (.cells c z n e false ro ver)) : sliceA X H t (.pointer (some ⟨b, 0, none⟩)) none none none = some (.slice (some ⟨b, 0, none⟩) n n) := by
  obtain ⟨cc, z, m, e0, ro, ver, ho⟩ := ho
  cases hi : X.ty t with
  | none => rw [hi] at hd; cases hd
  | some i =>
    cases hj : X.ty e with
    | none => rw [hj] at he; cases he
    | some j =>
      rw [hi] at hd
      rw [hj] at he
      obtain ⟨d, sz, bs, zz, ag, ms, cm⟩ := i
      simp only [Option.map_some, Option.some.injEq] at hd he
      subst hd
      have hb : bounds2 n n none none = some (0, n) := rfl
      simp only [sliceA, hi, hj, optInt, hb, ho]
      rw [if_pos (Nat.zero_le _), if_neg (by omega), addr_add]
      simp
theorem glob_slice {s : St} (G : GlobAt s) : sliceA X s.look 42 (.pointer (some ⟨0, 0, none⟩)) none none none = some (.slice (some ⟨0, 0, none⟩) 12 12) := by
  obtain ⟨v, h⟩ := G.names
  exact slice_arr (e := 9) (N := 1) (by kernel_rfl) (by kernel_rfl) (by omega) ⟨_, _, _, _, _, _, h⟩
theorem neI (H : Look) (t : TypeId) (p : Value) : binop X H .neq 39 (.iface t p) .nilIface = some (.bool true) := by kernel_rfl
theorem bnI (t : TypeId) (p y : Value) : bothNil (.iface t p) y = false := rfl
theorem bnN : bothNil .nilIface .nilIface = true := rfl
theorem cnN : isConstO (.const .nilIface) = true := by kernel_rfl
theorem neN (H : Look) : binop X H .neq 39 .nilIface .nilIface = some (.bool false) := by kernel_rfl
theorem atoi_is {q : Bool} {s : St} {Φ : Value → St → Prop} {l : List UInt8} (hs : Ok s) (G : GlobAt s) (hl : l.length ≤ 1000000) (h : ∀ m ev s', Keeps [] s s' → ((ev = .nilIface ∧ Lib.atoiAll l = .ok m) ∨ ((∃ p, ev = .iface 145 p) ∧ ∀ v, Lib.atoiAll l ≠ .ok v)) → Φ (.tuple #[int m, ev]) s') : okF q X KT 28 [str l] s Φ := by
  refine atoi_ok G hl ?_
  unfold atoiR
  have k : Keeps [] s (s.new fun _ => .dead) := (Keeps.refl hs).new (.inl rfl)
  split
  · rename_i v hv
    exact h v _ s (.refl hs) (.inl ⟨rfl, hv⟩)
  · rename_i hv
    exact h _ _ _ k (.inr ⟨⟨_, rfl⟩, fun v e => by rw [hv] at e; cases e⟩)
  · rename_i hv1 hv2
    exact h _ _ _ k (.inr ⟨⟨_, rfl⟩, fun v e => hv1 v e⟩)
theorem idx_is {q : Bool} {s : St} {Φ : Value → St → Prop} {x0 : List UInt8} (hs : Ok s) (G : GlobAt s) (h : ∀ k : Int, ((k < 0 ∧ x0 ∉ nm12) ∨ ∃ i : Nat, i < 12 ∧ k = i ∧ nm12[i]? = some x0) → Φ (int k) s) : okF q X KT 29 [.slice (some ⟨0, 0, none⟩) 12 12, str x0] s Φ :=
  idx_ok (L := nm12) hs (by decide) (glob_strs G) (fun i hi _ => h i (.inr ⟨i, (List.getElem?_eq_some_iff.1 hi).1, rfl, hi⟩)) (fun hn => h _ (.inl ⟨by decide, hn⟩))
section
variable {q : Bool} {s : St} {Φ : Value → St → Prop}
theorem tf_8 : type_of% (And.intro @RC <| And.intro @RO <| And.intro @RD <| And.intro @RV <| And.intro @RB <| And.intro @RG <| And.intro @al_22 <| And.intro @al_23 <| And.intro @st_22 <| And.intro @st_23 <| And.intro @len_45 <| And.intro @ix_45 <| And.intro @ld_9 <| And.intro @ld_22 <| And.intro @bd_37_0_1_2 <| And.intro @bs_22_1_0 <| @ld_23) := And.intro @RC <| And.intro @RO <| And.intro @RD <| And.intro @RV <| And.intro @RB <| And.intro @RG <| And.intro @al_22 <| And.intro @al_23 <| And.intro @st_22 <| And.intro @st_23 <| And.intro @len_45 <| And.intro @ix_45 <| And.intro @ld_9 <| And.intro @ld_22 <| And.intro @bd_37_0_1_2 <| And.intro @bs_22_1_0 <| @ld_23
theorem parse_ok {S : List UInt8} (hs : Ok s) (G : GlobAt s) (hS : S.length ≤ 40000) (hlong : tooLong S → ∀ s', Keeps [] s s' → Φ (.tuple #[.slice none 0 0, int 3]) s')
    (htext : ¬ tooLong S → ∀ L, (∀ f ∈ L, ftGood f) → S = ftText L → ∀ a c s', Keeps [] s s' → Sl s' 3 (.slice a L.length c) (L.flatMap ftV) → Φ (.tuple #[.slice a L.length c, int 0]) s')
    (hform : ¬ tooLong S → (∀ L, (∀ f ∈ L, ftGood f) → S ≠ ftText L) → ∀ s', Keeps [] s s' → Φ (.tuple #[.slice none 0 0, int 2]) s') : okF q X KT 8 [str S] s Φ := by
  have g9 := G.nine hs
  obtain ⟨N, hN⟩ : ∃ N, N = S.count 10 := ⟨_, rfl⟩
  have hNS : N ≤ S.length := by rw [hN]; exact List.count_le_length
  obtain ⟨s1, e1, k1, c1, n1⟩ := new_obj hs (L := [Value.slice none 0 0]) (n := 1) (e := 22) rfl
  obtain ⟨s2, e2, k2, c2, n2⟩ := new_obj k1.ok (L := [int 0]) (n := 1) (e := 23) rfl
  have d1 := c1.keep k2 (by simp)
  have k02 := k1.trans k2
  refine okF_body rfl fn_8 rfl (rs := [.cell 2 22, .cell 3 23]) rfl (N := 82) rfl rfl ?_
  refine okC_seq_g fun Ψ0 hΨ0 hΨ0' => ?_
  simp only [tf_8, ↓reduceIte, Nat.reduceEqDiff, reduceCtorEq, Int.reduceEq, Nat.reduceMul, Nat.reduceAdd, Nat.reduceBEq, Int.reduceBEq, noteOk, List.mem_cons, List.not_mem_nil, true_or, or_true, or_false, true_and, and_true]
  rw [e1, e2]
  refine hΨ0 _ _ ?_
  refine okC_seq_g fun Ψ1 hΨ1 hΨ1' => ?_
  refine okC_seq_g fun Ψ2 hΨ2 hΨ2' => ?_
  simp only [tf_8, ↓reduceIte, Nat.reduceEqDiff, reduceCtorEq, Int.reduceEq, Nat.reduceMul, Nat.reduceAdd, Nat.reduceBEq, Int.reduceBEq, noteOk, List.mem_cons, List.not_mem_nil, true_or, or_true, or_false, true_and, and_true, k_nl]
  refine okO_callx ?_ (count_ok (l := S) (c := 10) ?_)
  · simp only [tf_8, ↓reduceIte, Nat.reduceEqDiff, reduceCtorEq, Int.reduceEq, Nat.reduceMul, Nat.reduceAdd, Nat.reduceBEq, Int.reduceBEq, noteOk, List.mem_cons, List.not_mem_nil, true_or, or_true, or_false, true_and, and_true, k_nl]
  rw [show Lib.countByte S 10 = N from hN.symm]
  simp only [tf_8, ↓reduceIte, Nat.reduceEqDiff, reduceCtorEq, Int.reduceEq, Nat.reduceMul, Nat.reduceAdd, Nat.reduceBEq, Int.reduceBEq, noteOk, List.mem_cons, List.not_mem_nil, true_or, or_true, or_false, true_and, and_true]
  refine hΨ2 _ _ ?_
  refine okC_seq_g fun Ψ3 hΨ3 hΨ3' => ?_
  have long : tooLong S → ∀ a', a'.getT 27 = .bool true → a'.getT 2 = ptr s.next → a'.getT 3 = ptr s1.next → Ψ3 .normal a' s2 := by
    intro hl a' q27 q2 q3
    obtain ⟨t1, f1, o1, m1⟩ := d1.store1 k2.ok (i := 0) (v := .slice none 0 0) (by simp) rfl
    obtain ⟨t2, f2, o2, m2⟩ := (c2.keep m1 (by simp; omega)).store1 m1.ok (i := 0) (v := int 3) (by simp) rfl
    refine hΨ3 _ _ ?_
    simp only [okC_cnd, RV, RG, ↓reduceIte, Nat.reduceEqDiff, reduceCtorEq, Int.reduceEq, Nat.reduceMul, Nat.reduceAdd, Nat.reduceBEq, Int.reduceBEq, noteOk, List.mem_cons, List.not_mem_nil, true_or, or_true, or_false, true_and, and_true, q27]
    refine okC_seq_g fun Ψ4 hΨ4 hΨ4' => ?_
    simp only [tf_8, ↓reduceIte, Nat.reduceEqDiff, reduceCtorEq, Int.reduceEq, Nat.reduceMul, Nat.reduceAdd, Nat.reduceBEq, Int.reduceBEq, noteOk, List.mem_cons, List.not_mem_nil, true_or, or_true, or_false, true_and, and_true, q2, q3, f1]
    simp only [tf_8, ↓reduceIte, Nat.reduceEqDiff, reduceCtorEq, Int.reduceEq, Nat.reduceMul, Nat.reduceAdd, Nat.reduceBEq, Int.reduceBEq, noteOk, List.mem_cons, List.not_mem_nil, true_or, or_true, or_false, true_and, and_true, q2, q3, f2]
    refine hΨ4 _ _ ?_
    simp only [tf_8, ↓reduceIte, Nat.reduceEqDiff, reduceCtorEq, Int.reduceEq, Nat.reduceMul, Nat.reduceAdd, Nat.reduceBEq, Int.reduceBEq, noteOk, List.mem_cons, List.not_mem_nil, true_or, or_true, or_false, true_and, and_true]
    refine hΨ1' _ _ _ (by simp) ?_
    have r1 := (o1.keep m2 (by simp; omega)).load (i := 0) rfl
    have r2 := o2.load (i := 0) rfl
    simp only [tf_8, ↓reduceIte, Nat.reduceEqDiff, reduceCtorEq, Int.reduceEq, Nat.reduceMul, Nat.reduceAdd, Nat.reduceBEq, Int.reduceBEq, noteOk, List.mem_cons, List.not_mem_nil, true_or, or_true, or_false, true_and, and_true, q2, q3, r1, r2]
    exact hlong hl t2 ((k02.step m1 fun g hg => .inr (by rw [List.mem_singleton.1 hg]; exact hs.fresh _ (Nat.le_refl _))).step m2 fun g hg => .inr (by rw [List.mem_singleton.1 hg]; exact hs.fresh _ (by omega)))
  have rest : ¬ tooLong S → ∀ a', a'.getT 27 = .bool false → a'.getT 0 = str S → a'.getT 2 = ptr s.next → a'.getT 3 = ptr s1.next → Ψ3 .normal a' s2 := by
    intro hns a' q27 q0 q2 q3
    refine hΨ3 _ _ ?_
    simp only [tf_8, ↓reduceIte, Nat.reduceEqDiff, reduceCtorEq, Int.reduceEq, Nat.reduceMul, Nat.reduceAdd, Nat.reduceBEq, Int.reduceBEq, noteOk, List.mem_cons, List.not_mem_nil, true_or, or_true, or_false, true_and, and_true, q27]
    refine hΨ1 _ _ ?_
    obtain ⟨s3, e3, k3, c3, n3⟩ := new_obj k2.ok (L := [Value.slice none 0 0]) (n := 1) (e := 22) rfl
    refine okC_seq_g fun Ψ4 hΨ4 hΨ4' => ?_
    simp only [tf_8, ↓reduceIte, Nat.reduceEqDiff, reduceCtorEq, Int.reduceEq, Nat.reduceMul, Nat.reduceAdd, Nat.reduceBEq, Int.reduceBEq, noteOk, List.mem_cons, List.not_mem_nil, true_or, or_true, or_false, true_and, and_true]
    rw [e3]
    refine hΨ4 _ _ ?_
    refine okC_seq_g fun Ψ5 hΨ5 hΨ5' => ?_
    refine okC_seq_g fun Ψ6 hΨ6 hΨ6' => ?_
    simp only [tf_8, ↓reduceIte, Nat.reduceEqDiff, reduceCtorEq, Int.reduceEq, Nat.reduceMul, Nat.reduceAdd, Nat.reduceBEq, Int.reduceBEq, noteOk, List.mem_cons, List.not_mem_nil, true_or, or_true, or_false, true_and, and_true, q0]
    refine okO_callx ?_ (lines_ok (S := S) k3.ok fun s4 k4 n4 cx => ?_)
    · simp only [tf_8, ↓reduceIte, Nat.reduceEqDiff, reduceCtorEq, Int.reduceEq, Nat.reduceMul, Nat.reduceAdd, Nat.reduceBEq, Int.reduceBEq, noteOk, List.mem_cons, List.not_mem_nil, true_or, or_true, or_false, true_and, and_true, q0]
    simp only [tf_8, ↓reduceIte, Nat.reduceEqDiff, reduceCtorEq, Int.reduceEq, Nat.reduceMul, Nat.reduceAdd, Nat.reduceBEq, Int.reduceBEq, noteOk, List.mem_cons, List.not_mem_nil, true_or, or_true, or_false, true_and, and_true]
    refine hΨ6 _ _ ?_
    refine okC_block_g fun Ψ7 hΨ7 hΨ7e hΨ7' => ?_
    refine okC_rfJ (f := 64) (first := #[]) (captured := #[ptr s3.next]) k4.ok ?_ rfl ?_
    · simp only [tf_8, ↓reduceIte, Nat.reduceEqDiff, reduceCtorEq, Int.reduceEq, Nat.reduceMul, Nat.reduceAdd, Nat.reduceBEq, Int.reduceBEq, noteOk, List.mem_cons, List.not_mem_nil, true_or, or_true, or_false, true_and, and_true]
    intro LA DA s5 hLA hDA k5 n5 hloop hyield
    have h04 : Keeps [] s s4 := (k02.trans k3).trans k4
    have n02 := k02.next
    have e2n := k2.next
    have good_keep : ∀ {F : List Nat} {s' s''}, Keeps [] s s' → Keeps F s' s'' → (∀ x ∈ F, s.next ≤ x) → Keeps [] s s'' := fun k k' hF => k.step k' fun g hg => .inr (hs.fresh g (hF g hg))
    refine (lines1_ok (x := s3.next) (y := .func (.yield s4.next) #[] #[]) (r0 := S)
      (J := fun r s' => Ok s' ∧ LA s' ∧ Keeps [] s s' ∧ Obj s' s.next [.slice none 0 0] ∧ Obj s' s1.next [int 0] ∧ ∃ (a : Option Addr) (c : Nat) (L : List Ft), Obj s' s2.next [.slice a L.length c] ∧ Buf s' 37 3 (.slice a L.length c) (L.flatMap ftV) ∧ (s5.next ≤ s'.next ∧ ∀ b ∈ nameOf (.slice a L.length c), s5.next ≤ b) ∧ (∀ f ∈ L, ftGood f) ∧ L.length + r.length ≤ S.length ∧ (∀ M, (∀ f ∈ M, ftGood f) → S = ftText M → ∃ M2, M = L ++ M2 ∧ r = ftText M2))
      (E := fun s' => Ok s' ∧ DA s' ∧ Keeps [] s s' ∧ Obj s' s.next [.slice none 0 0] ∧ Obj s' s1.next [int 2] ∧ ∀ M, (∀ f ∈ M, ftGood f) → S ≠ ftText M)
      k5.ok (cx.keep k5 (by simp)) (by omega) ?_ ?_ ?_ ?_ ?_)
    · refine ⟨k5.ok, hloop, h04.trans k5, ?_, ?_, none, 0, [], ?_, .nil, ?_, ?_, ?_, ?_⟩
      · exact ((d1.keep k3 (by simp)).keep k4 (by simp)).keep k5 (by simp)
      · exact ((c2.keep k3 (by simp)).keep k4 (by simp)).keep k5 (by simp)
      · exact (c3.keep k4 (by simp)).keep k5 (by simp)
      · exact ⟨Nat.le_refl _, fun b hb => by cases hb⟩
      · intro f hf; cases hf
      · simp
      · exact fun M _ e => ⟨M, rfl, e⟩
    · rintro r s' s'' ⟨ho, la, k, o1, o2, a, c, L, o3, B, ⟨h5', hnm⟩, hL, hlen, hrel⟩ kx
      refine ⟨kx.ok, hLA _ _ _ la kx (by simp; omega), good_keep k kx (by simp; omega), o1.keep kx (by simp; omega), o2.keep kx (by simp; omega), a, c, L, o3.keep kx (by simp; omega), B.keep kx (fun b hb hb' => ?_), ⟨Nat.le_trans h5' kx.next, hnm⟩, hL, hlen, hrel⟩
      have := hnm b hb
      rw [List.mem_singleton.1 hb'] at this
      have := k5.next
      omega
    · rintro q' r s' Ψ hne hrl ho Ox ⟨_, la, hk, o1, o2, a, c, L, o3, B, ⟨h5', hnm⟩, hL, hlen, hrel⟩ ht hf
      refine hyield q' s' _ _ ho la rfl ?_
      rw [putArgs1]
      refine okC_region_g [] (by kernel_rfl) fun O hO ΨR hR => ?_
      simp only [tf_8, ↓reduceIte, Nat.reduceEqDiff, reduceCtorEq, Int.reduceEq, Nat.reduceMul, Nat.reduceAdd, Nat.reduceBEq, Int.reduceBEq, noteOk, List.mem_cons, List.not_mem_nil, true_or, or_true, or_false, true_and, and_true]
      refine hR _ _ ⟨rfl, [], .refl ho, by simp, fun s7 k7 => ?_⟩
      have hx4 : s4.next < s5.next := n5
      have h7 := good_keep hk k7 (by simp; omega)
      have G7 := G.keep h7 (by simp)
      have p1 := o1.keep k7 (by simp; omega)
      have p2 := o2.keep k7 (by simp; omega)
      have p3 := o3.keep k7 (by simp; omega)
      have px := Ox.keep k7 (by simp; omega)
      have B7 := B.keep k7 (fun b hb hb' => by
        have := hnm b hb
        rw [List.mem_singleton.1 hb'] at this
        omega)
      obtain ⟨w, hw⟩ : ∃ w, w = Lib.trimSuffix (nextL r).1 [10] := ⟨_, rfl⟩
      have hll := (nextL_len hne).2
      have hwl : w.length ≤ (nextL r).1.length := by
        rw [hw]
        unfold Lib.trimSuffix
        split
        · rw [List.length_take]; omega
        · exact Nat.le_refl _
      obtain ⟨P, hP⟩ : ∃ P, P = cut 32 w := ⟨_, rfl⟩
      have cn : ∀ M, (∀ f ∈ M, ftGood f) → S = ftText M → ∃ f M2, M = L ++ f :: M2 ∧ ftGood f ∧ P = [nmAt f, Lib.itoa f.2.1, Lib.itoa f.2.2] ∧ (nextL r).2 = ftText M2 := fun M hM e => by
        obtain ⟨M2, h1, h2⟩ := hrel M hM e
        cases M2 with
        | nil => exact absurd h2 hne
        | cons f M3 =>
          have h3 := nextL_ft f M3
          rw [← h2] at h3
          refine ⟨f, M3, h1, hM f (by rw [h1]; simp), ?_, by rw [h3]⟩
          rw [hP, hw, h3, trim_line, body_cut]
      refine okC_block_g fun Ψ8 hΨ8 hΨ8e hΨ8' => ?_
      refine okC_seq_g fun Ψ9 hΨ9 hΨ9' => ?_
      simp only [tf_8, ↓reduceIte, Nat.reduceEqDiff, reduceCtorEq, Int.reduceEq, Nat.reduceMul, Nat.reduceAdd, Nat.reduceBEq, Int.reduceBEq, noteOk, List.mem_cons, List.not_mem_nil, true_or, or_true, or_false, true_and, and_true, k_nl]
      refine okO_callx ?_ (trim_ok (l := (nextL r).1) (m := [10]) (by omega) ?_)
      · simp only [tf_8, ↓reduceIte, Nat.reduceEqDiff, reduceCtorEq, Int.reduceEq, Nat.reduceMul, Nat.reduceAdd, Nat.reduceBEq, Int.reduceBEq, noteOk, List.mem_cons, List.not_mem_nil, true_or, or_true, or_false, true_and, and_true, k_nl]
      rw [← hw]
      simp only [tf_8, ↓reduceIte, Nat.reduceEqDiff, reduceCtorEq, Int.reduceEq, Nat.reduceMul, Nat.reduceAdd, Nat.reduceBEq, Int.reduceBEq, noteOk, List.mem_cons, List.not_mem_nil, true_or, or_true, or_false, true_and, and_true, k_sp]
      refine okO_callx ?_ (split_ok (S := w) k7.ok (by omega) fun va vc s8 hl8 k8 n8 => ?_)
      · simp only [tf_8, ↓reduceIte, Nat.reduceEqDiff, reduceCtorEq, Int.reduceEq, Nat.reduceMul, Nat.reduceAdd, Nat.reduceBEq, Int.reduceBEq, noteOk, List.mem_cons, List.not_mem_nil, true_or, or_true, or_false, true_and, and_true, k_sp]
      rw [← hP] at hl8 n8
      rw [← hP]
      simp only [tf_8, ↓reduceIte, Nat.reduceEqDiff, reduceCtorEq, Int.reduceEq, Nat.reduceMul, Nat.reduceAdd, Nat.reduceBEq, Int.reduceBEq, noteOk, List.mem_cons, List.not_mem_nil, true_or, or_true, or_false, true_and, and_true]
      refine hΨ9 _ _ ?_
      have exitE : (∀ M, (∀ f ∈ M, ftGood f) → S ≠ ftText M) → ∀ t, Keeps [] s7 t → ∃ t1 t2, storeN t ⟨s.next, 0, none⟩ [.slice none 0 0] = some t1 ∧ storeN t1 ⟨s1.next, 0, none⟩ [int 2] = some t2 ∧ ∀ a2, Ψ8 .ret a2 t2 := by
        intro no t kt
        obtain ⟨t1, f1, u1, m1⟩ := (p1.keep kt (by simp)).store1 kt.ok (i := 0) (v := .slice none 0 0) (by simp) rfl
        obtain ⟨t2, f2, u2, m2⟩ := ((p2.keep kt (by simp)).keep m1 (by simp; omega)).store1 m1.ok (i := 0) (v := int 2) (by simp) rfl
        refine ⟨t1, t2, f1, f2, fun a2 => ?_⟩
        have k7t : Keeps [s.next, s1.next] s7 t2 := (kt.any.trans (m1.mono (by simp))).trans (m2.mono (by simp))
        have h0t : Keeps [] s t2 := good_keep h7 k7t (by simp; omega)
        refine hΨ8' _ _ _ (by simp) (by simp) ?_
        refine ⟨⟨_, k7t, by simp; omega⟩, .inr ⟨rfl, fun s9 k9 da => hf _ k9.ok ⟨k9.ok, da, good_keep h0t k9 (by simp; omega), ?_, ?_, no⟩⟩⟩
        · exact (u1.keep m2 (by simp; omega)).keep k9 (by simp; omega)
        · exact u2.keep k9 (by simp; omega)
      refine okC_seq_g fun Ψ10 hΨ10 hΨ10' => ?_
      refine okC_seq_g fun Ψ11 hΨ11 hΨ11' => ?_
      by_cases hP3 : P.length = 3
      case neg =>
        have d3 : ((P.length : Int) == 3) = false := by simp; omega
        obtain ⟨t1, t2, f1, f2, fin⟩ := exitE (fun M hM e => by
          obtain ⟨f, M2, _, _, h3, _⟩ := cn M hM e
          rw [h3] at hP3
          exact hP3 rfl) s8 k8
        simp only [tf_8, ↓reduceIte, Nat.reduceEqDiff, reduceCtorEq, Int.reduceEq, Nat.reduceMul, Nat.reduceAdd, Nat.reduceBEq, Int.reduceBEq, noteOk, List.mem_cons, List.not_mem_nil, true_or, or_true, or_false, true_and, and_true, d3]
        refine hΨ11 _ _ ?_
        simp only [okC_cnd, RV, RG, ↓reduceIte, Nat.reduceEqDiff, reduceCtorEq, Int.reduceEq, Nat.reduceMul, Nat.reduceAdd, Nat.reduceBEq, Int.reduceBEq, noteOk, List.mem_cons, List.not_mem_nil, true_or, or_true, or_false, true_and, and_true]
        refine okC_seq_g fun Ψ12 hΨ12 hΨ12' => ?_
        simp only [tf_8, ↓reduceIte, Nat.reduceEqDiff, reduceCtorEq, Int.reduceEq, Nat.reduceMul, Nat.reduceAdd, Nat.reduceBEq, Int.reduceBEq, noteOk, List.mem_cons, List.not_mem_nil, true_or, or_true, or_false, true_and, and_true, q2, f1]
        simp only [tf_8, ↓reduceIte, Nat.reduceEqDiff, reduceCtorEq, Int.reduceEq, Nat.reduceMul, Nat.reduceAdd, Nat.reduceBEq, Int.reduceBEq, noteOk, List.mem_cons, List.not_mem_nil, true_or, or_true, or_false, true_and, and_true, q3, f2]
        refine hΨ12 _ _ ?_
        simp only [tf_8, ↓reduceIte, Nat.reduceEqDiff, reduceCtorEq, Int.reduceEq, Nat.reduceMul, Nat.reduceAdd, Nat.reduceBEq, Int.reduceBEq, noteOk, List.mem_cons, List.not_mem_nil, true_or, or_true, or_false, true_and, and_true]
        refine hΨ10' _ _ _ (by simp) ?_
        exact fin _
      have d3 : (((3 : Nat) : Int) == 3) = true := rfl
      obtain ⟨x0, x1, x2, rfl⟩ : ∃ x0 x1 x2, P = [x0, x1, x2] := by
        match P, hP3 with
        | [x0, x1, x2], _ => exact ⟨_, _, _, rfl⟩
      simp only [tf_8, ↓reduceIte, Nat.reduceEqDiff, reduceCtorEq, Int.reduceEq, Nat.reduceMul, Nat.reduceAdd, Nat.reduceBEq, Int.reduceBEq, noteOk, List.mem_cons, List.not_mem_nil, true_or, or_true, or_false, true_and, and_true, d3]
      refine hΨ11 _ _ ?_
      simp only [tf_8, ↓reduceIte, Nat.reduceEqDiff, reduceCtorEq, Int.reduceEq, Nat.reduceMul, Nat.reduceAdd, Nat.reduceBEq, Int.reduceBEq, noteOk, List.mem_cons, List.not_mem_nil, true_or, or_true, or_false, true_and, and_true]
      refine hΨ10 _ _ ?_
      obtain ⟨b3, o3', rfl⟩ := hl8.addr (show 0 < 3 by omega)
      have v0 : (0 : Int) ≤ 0 := Int.le_refl _
      have v0' : (0 : Int) < ((3 : Nat) : Int) := by decide
      have v1 : (0 : Int) ≤ 1 := by decide
      have v2 : (1 : Int) < ((3 : Nat) : Int) := by decide
      have v3 : (0 : Int) ≤ 2 := by decide
      have v4 : (2 : Int) < ((3 : Nat) : Int) := by decide
      have t1 : (1 : Int).toNat = 1 := rfl
      have t2 : (2 : Int).toNat = 2 := rfl
      have hxl : x1.length ≤ w.length ∧ x2.length ≤ w.length := by
        have h1 := cut_mem_len (c := 32) w [] x1 (by show x1 ∈ cut 32 w; rw [← hP]; simp)
        have h2 := cut_mem_len (c := 32) w [] x2 (by show x2 ∈ cut 32 w; rw [← hP]; simp)
        simp at h1 h2
        exact ⟨h1, h2⟩
      have hw1 := Strs.get hl8 (i := 1) rfl
      refine okC_seq_g fun Ψ12 hΨ12 hΨ12' => ?_
      simp only [tf_8, ↓reduceIte, Nat.reduceEqDiff, reduceCtorEq, Int.reduceEq, Nat.reduceMul, Nat.reduceAdd, Nat.reduceBEq, Int.reduceBEq, noteOk, List.mem_cons, List.not_mem_nil, true_or, or_true, or_false, true_and, and_true, v1, v2, and_self, addr_add, t1, Nat.mul_one, hw1]
      refine okO_callx ?_ (atoi_is (l := x1) k8.ok (G7.keep k8 (by simp)) (by omega) fun m1 ev1 s9 k9 hv1 => ?_)
      · simp only [tf_8, ↓reduceIte, Nat.reduceEqDiff, reduceCtorEq, Int.reduceEq, Nat.reduceMul, Nat.reduceAdd, Nat.reduceBEq, Int.reduceBEq, noteOk, List.mem_cons, List.not_mem_nil, true_or, or_true, or_false, true_and, and_true]
      simp only [tf_8, ↓reduceIte, Nat.reduceEqDiff, reduceCtorEq, Int.reduceEq, Nat.reduceMul, Nat.reduceAdd, Nat.reduceBEq, Int.reduceBEq, noteOk, List.mem_cons, List.not_mem_nil, true_or, or_true, or_false, true_and, and_true]
      refine hΨ12 _ _ ?_
      have hw2 := Strs.get (hl8.keep k9 (by simp)) (i := 2) rfl
      refine okC_seq_g fun Ψ13 hΨ13 hΨ13' => ?_
      simp only [tf_8, ↓reduceIte, Nat.reduceEqDiff, reduceCtorEq, Int.reduceEq, Nat.reduceMul, Nat.reduceAdd, Nat.reduceBEq, Int.reduceBEq, noteOk, List.mem_cons, List.not_mem_nil, true_or, or_true, or_false, true_and, and_true, v3, v4, and_self, addr_add, t2, Nat.mul_one, hw2]
      refine okO_callx ?_ (atoi_is (l := x2) k9.ok ((G7.keep k8 (by simp)).keep k9 (by simp)) (by omega) fun m2 ev2 s10 k10 hv2 => ?_)
      · simp only [tf_8, ↓reduceIte, Nat.reduceEqDiff, reduceCtorEq, Int.reduceEq, Nat.reduceMul, Nat.reduceAdd, Nat.reduceBEq, Int.reduceBEq, noteOk, List.mem_cons, List.not_mem_nil, true_or, or_true, or_false, true_and, and_true]
      simp only [tf_8, ↓reduceIte, Nat.reduceEqDiff, reduceCtorEq, Int.reduceEq, Nat.reduceMul, Nat.reduceAdd, Nat.reduceBEq, Int.reduceBEq, noteOk, List.mem_cons, List.not_mem_nil, true_or, or_true, or_false, true_and, and_true]
      refine hΨ13 _ _ ?_
      have k7t := (k8.trans k9).trans k10
      have Gt := G7.keep k7t (by simp)
      have ks := Keeps.skip (F := []) k10.ok 12
      have kt := k7t.trans ks
      refine okC_seq_g fun Ψ14 hΨ14 hΨ14' => ?_
      refine okC_drawn_d [] [] [] (by kernel_rfl) (by kernel_rfl) (by rfl) fun O hO ΨR hR => ?_
      have hsl := glob_slice Gt
      have hw0 : load1 s10.look ⟨b3, o3', none⟩ = some (str x0) := Strs.get (((hl8.keep k9 (by simp)).keep k10 (by simp))) (i := 0) rfl
      simp only [tf_8, ↓reduceIte, Nat.reduceEqDiff, reduceCtorEq, Int.reduceEq, Nat.reduceMul, Nat.reduceAdd, Nat.reduceBEq, Int.reduceBEq, noteOk, List.mem_cons, List.not_mem_nil, true_or, or_true, or_false, true_and, and_true, hsl, v0, v0', and_self, addr_add, Int.toNat_zero, Nat.zero_mul, Nat.mul_one, Nat.add_zero, hw0]
      refine okD_callx ?_ (idx_is (x0 := x0) ks.ok (Gt.keep ks (by simp)) fun ix hix => ?_)
      · simp only [tf_8, ↓reduceIte, Nat.reduceEqDiff, reduceCtorEq, Int.reduceEq, Nat.reduceMul, Nat.reduceAdd, Nat.reduceBEq, Int.reduceBEq, noteOk, List.mem_cons, List.not_mem_nil, true_or, or_true, or_false, true_and, and_true, hsl, v0, v0', and_self, addr_add, Int.toNat_zero, Nat.zero_mul, Nat.mul_one, Nat.add_zero, hw0]
      simp only [tf_8, ↓reduceIte, Nat.reduceEqDiff, reduceCtorEq, Int.reduceEq, Nat.reduceMul, Nat.reduceAdd, Nat.reduceBEq, Int.reduceBEq, noteOk, List.mem_cons, List.not_mem_nil, true_or, or_true, or_false, true_and, and_true]
      refine hR _ _ (hΨ14 _ _ ?_)
      refine okC_seq_g fun Ψ15 hΨ15 hΨ15' => ?_
      refine okC_seq_g fun Ψ16 hΨ16 hΨ16' => ?_
      have bad : (∀ M, (∀ f ∈ M, ftGood f) → S ≠ ftText M) → ∀ a', a'.getT 65 = .bool true → a'.getT 2 = ptr s.next → a'.getT 3 = ptr s1.next → Ψ16 .normal a' (s10.skip 12) := by
        intro no a' g65 g2 g3
        obtain ⟨t1, t2, f1, f2, fin⟩ := exitE no _ kt
        refine hΨ16 _ _ ?_
        simp only [okC_cnd, RV, RG, ↓reduceIte, Nat.reduceEqDiff, reduceCtorEq, Int.reduceEq, Nat.reduceMul, Nat.reduceAdd, Nat.reduceBEq, Int.reduceBEq, noteOk, List.mem_cons, List.not_mem_nil, true_or, or_true, or_false, true_and, and_true, g65]
        refine okC_seq_g fun Ψ17 hΨ17 hΨ17' => ?_
        simp only [tf_8, ↓reduceIte, Nat.reduceEqDiff, reduceCtorEq, Int.reduceEq, Nat.reduceMul, Nat.reduceAdd, Nat.reduceBEq, Int.reduceBEq, noteOk, List.mem_cons, List.not_mem_nil, true_or, or_true, or_false, true_and, and_true, g2, f1]
        simp only [tf_8, ↓reduceIte, Nat.reduceEqDiff, reduceCtorEq, Int.reduceEq, Nat.reduceMul, Nat.reduceAdd, Nat.reduceBEq, Int.reduceBEq, noteOk, List.mem_cons, List.not_mem_nil, true_or, or_true, or_false, true_and, and_true, g3, f2]
        refine hΨ17 _ _ ?_
        simp only [tf_8, ↓reduceIte, Nat.reduceEqDiff, reduceCtorEq, Int.reduceEq, Nat.reduceMul, Nat.reduceAdd, Nat.reduceBEq, Int.reduceBEq, noteOk, List.mem_cons, List.not_mem_nil, true_or, or_true, or_false, true_and, and_true]
        refine hΨ15' _ _ _ (by simp) ?_
        exact fin _
      have cn3 : ∀ M, (∀ f ∈ M, ftGood f) → S = ftText M → ∃ f M2, M = L ++ f :: M2 ∧ ftGood f ∧ (x0 = nmAt f ∧ x1 = Lib.itoa f.2.1 ∧ x2 = Lib.itoa f.2.2) ∧ (nextL r).2 = ftText M2 := fun M hM e => by
        obtain ⟨f, M2, h1, h2, h3, h4⟩ := cn M hM e
        simp only [List.cons.injEq, and_true] at h3
        exact ⟨f, M2, h1, h2, h3, h4⟩
      refine okC_region_g [(2, 58), (6, 62)] (by kernel_rfl) fun O hO ΨR hR => ?_
      have y2 : ∀ a, yieldedA O a 2 = boolOf (a.getT 58) := hO (2, 58) (by simp)
      have y6 : ∀ a, yieldedA O a 6 = boolOf (a.getT 62) := hO (6, 62) (by simp)
      rcases hv1 with ⟨rfl, hv1⟩ | ⟨⟨pe1, rfl⟩, hv1⟩
      case inr =>
        simp only [tf_8, ↓reduceIte, Nat.reduceEqDiff, reduceCtorEq, Int.reduceEq, Nat.reduceMul, Nat.reduceAdd, Nat.reduceBEq, Int.reduceBEq, noteOk, List.mem_cons, List.not_mem_nil, true_or, or_true, or_false, true_and, and_true, neI, neN, bnI, bnN, cnN, Bool.or_true, Bool.not_true, Bool.and_false, Bool.false_and, y2, y6]
        refine hR _ _ (bad (fun M hM e => ?_) _ ?_ ?_ ?_)
        · obtain ⟨f, M2, _, hf, ⟨_, e1, _⟩, _⟩ := cn3 M hM e
          exact hv1 _ (by rw [e1]; exact atoi_itoa hf.2.1)
        · simp only [tf_8, ↓reduceIte, Nat.reduceEqDiff, reduceCtorEq, Int.reduceEq, Nat.reduceMul, Nat.reduceAdd, Nat.reduceBEq, Int.reduceBEq, noteOk, List.mem_cons, List.not_mem_nil, true_or, or_true, or_false, true_and, and_true]
        · simp only [tf_8, ↓reduceIte, Nat.reduceEqDiff, reduceCtorEq, Int.reduceEq, Nat.reduceMul, Nat.reduceAdd, Nat.reduceBEq, Int.reduceBEq, noteOk, List.mem_cons, List.not_mem_nil, true_or, or_true, or_false, true_and, and_true, q2]
        · simp only [tf_8, ↓reduceIte, Nat.reduceEqDiff, reduceCtorEq, Int.reduceEq, Nat.reduceMul, Nat.reduceAdd, Nat.reduceBEq, Int.reduceBEq, noteOk, List.mem_cons, List.not_mem_nil, true_or, or_true, or_false, true_and, and_true, q3]
      rcases hv2 with ⟨rfl, hv2⟩ | ⟨⟨pe2, rfl⟩, hv2⟩
      case inr =>
        simp only [tf_8, ↓reduceIte, Nat.reduceEqDiff, reduceCtorEq, Int.reduceEq, Nat.reduceMul, Nat.reduceAdd, Nat.reduceBEq, Int.reduceBEq, noteOk, List.mem_cons, List.not_mem_nil, true_or, or_true, or_false, true_and, and_true, neI, neN, bnI, bnN, cnN, Bool.or_true, Bool.not_true, Bool.and_false, Bool.false_and, y2, y6]
        refine hR _ _ (bad (fun M hM e => ?_) _ ?_ ?_ ?_)
        · obtain ⟨f, M2, _, hf, ⟨_, _, e2⟩, _⟩ := cn3 M hM e
          exact hv2 _ (by rw [e2]; exact atoi_itoa hf.2.2)
        · simp only [tf_8, ↓reduceIte, Nat.reduceEqDiff, reduceCtorEq, Int.reduceEq, Nat.reduceMul, Nat.reduceAdd, Nat.reduceBEq, Int.reduceBEq, noteOk, List.mem_cons, List.not_mem_nil, true_or, or_true, or_false, true_and, and_true]
        · simp only [tf_8, ↓reduceIte, Nat.reduceEqDiff, reduceCtorEq, Int.reduceEq, Nat.reduceMul, Nat.reduceAdd, Nat.reduceBEq, Int.reduceBEq, noteOk, List.mem_cons, List.not_mem_nil, true_or, or_true, or_false, true_and, and_true, q2]
        · simp only [tf_8, ↓reduceIte, Nat.reduceEqDiff, reduceCtorEq, Int.reduceEq, Nat.reduceMul, Nat.reduceAdd, Nat.reduceBEq, Int.reduceBEq, noteOk, List.mem_cons, List.not_mem_nil, true_or, or_true, or_false, true_and, and_true, q3]
      rcases hix with ⟨hi0, hix⟩ | ⟨i, hi12, rfl, hix⟩
      case inl =>
        have e0 : decide (ix < 0) = true := decide_eq_true hi0
        simp only [tf_8, ↓reduceIte, Nat.reduceEqDiff, reduceCtorEq, Int.reduceEq, Nat.reduceMul, Nat.reduceAdd, Nat.reduceBEq, Int.reduceBEq, noteOk, List.mem_cons, List.not_mem_nil, true_or, or_true, or_false, true_and, and_true, neI, neN, bnI, bnN, cnN, Bool.or_true, Bool.not_true, Bool.and_false, Bool.false_and, y2, y6, e0]
        refine hR _ _ (bad (fun M hM e => ?_) _ ?_ ?_ ?_)
        · obtain ⟨f, M2, _, hf, ⟨e0, _, _⟩, _⟩ := cn3 M hM e
          obtain ⟨f1, f2⟩ := hf.1
          refine hix ?_
          rw [e0]
          unfold nmAt
          rw [List.getD_eq_getElem?_getD, List.getElem?_eq_getElem (show f.1.toNat < nm12.length by show f.1.toNat < 12; omega)]
          exact List.getElem_mem _
        · simp only [tf_8, ↓reduceIte, Nat.reduceEqDiff, reduceCtorEq, Int.reduceEq, Nat.reduceMul, Nat.reduceAdd, Nat.reduceBEq, Int.reduceBEq, noteOk, List.mem_cons, List.not_mem_nil, true_or, or_true, or_false, true_and, and_true]
        · simp only [tf_8, ↓reduceIte, Nat.reduceEqDiff, reduceCtorEq, Int.reduceEq, Nat.reduceMul, Nat.reduceAdd, Nat.reduceBEq, Int.reduceBEq, noteOk, List.mem_cons, List.not_mem_nil, true_or, or_true, or_false, true_and, and_true, q2]
        · simp only [tf_8, ↓reduceIte, Nat.reduceEqDiff, reduceCtorEq, Int.reduceEq, Nat.reduceMul, Nat.reduceAdd, Nat.reduceBEq, Int.reduceBEq, noteOk, List.mem_cons, List.not_mem_nil, true_or, or_true, or_false, true_and, and_true, q3]
      have e0 : decide ((i : Int) < 0) = false := decide_eq_false (by omega)
      simp only [tf_8, ↓reduceIte, Nat.reduceEqDiff, reduceCtorEq, Int.reduceEq, Nat.reduceMul, Nat.reduceAdd, Nat.reduceBEq, Int.reduceBEq, noteOk, List.mem_cons, List.not_mem_nil, true_or, or_true, or_false, true_and, and_true, neI, neN, bnI, bnN, cnN, Bool.or_true, Bool.not_true, Bool.and_false, Bool.false_and, y2, y6, e0]
      refine hR _ _ (hΨ16 _ _ ?_)
      simp only [tf_8, ↓reduceIte, Nat.reduceEqDiff, reduceCtorEq, Int.reduceEq, Nat.reduceMul, Nat.reduceAdd, Nat.reduceBEq, Int.reduceBEq, noteOk, List.mem_cons, List.not_mem_nil, true_or, or_true, or_false, true_and, and_true]
      refine hΨ15 _ _ ?_
      obtain ⟨s12, e12, k12, o12, n12⟩ := new_obj kt.ok (L := ftV ((i : Int), m1, m2)) (n := 3) (e := 37) rfl
      have kb := kt.trans k12
      obtain ⟨a9, c9, s13, e13, B13, k13, m13⟩ := push_ft k12.ok (B7.keep kb (by simp)) ((i : Int), m1, m2) o12 (by omega)
      have pk := p3.keep kb (by simp)
      have lp3 : load1 s10.look ⟨s2.next, 0, none⟩ = some (.slice a L.length c) := (p3.keep k7t (by simp)).load (i := 0) rfl
      unfold ftV at e12
      have hn3 : ∀ b ∈ nameOf (.slice a L.length c), s2.next + 2 < b := fun b hb => by have := hnm b hb; have := k4.next; omega
      obtain ⟨s14, e14, o14, k14⟩ := (pk.keep k13 (fun h => by have := hn3 _ h; omega)).store1 k13.ok (i := 0) (v := .slice a9 (L.length + 1) c9) (by simp) rfl
      simp only [tf_8, ↓reduceIte, Nat.reduceEqDiff, reduceCtorEq, Int.reduceEq, Nat.reduceMul, Nat.reduceAdd, Nat.reduceBEq, Int.reduceBEq, noteOk, List.mem_cons, List.not_mem_nil, true_or, or_true, or_false, true_and, and_true, lp3]
      rw [e12]
      refine o_appx ?_ e13 ?_
      · simp only [tf_8, ↓reduceIte, Nat.reduceEqDiff, reduceCtorEq, Int.reduceEq, Nat.reduceMul, Nat.reduceAdd, Nat.reduceBEq, Int.reduceBEq, noteOk, List.mem_cons, List.not_mem_nil, true_or, or_true, or_false, true_and, and_true]
      simp only [tf_8, ↓reduceIte, Nat.reduceEqDiff, reduceCtorEq, Int.reduceEq, Nat.reduceMul, Nat.reduceAdd, Nat.reduceBEq, Int.reduceBEq, noteOk, List.mem_cons, List.not_mem_nil, true_or, or_true, or_false, true_and, and_true, e14]
      have hgood : ftGood ((i : Int), m1, m2) := ⟨⟨Int.natCast_nonneg _, by show (i : Int) < 12; omega⟩, Lib.atoiAll_bounds hv1, Lib.atoiAll_bounds hv2⟩
      have hnmi : nmAt ((i : Int), m1, m2) = x0 := by
        unfold nmAt
        show nm12.getD (i : Int).toNat [] = x0
        rw [Int.toNat_natCast, List.getD_eq_getElem?_getD, hix]; rfl
      have hn9 : ∀ y ∈ nameOf (.slice a9 (L.length + 1) c9), s5.next ≤ y := fun y hy => by
        rcases m13 y hy with h | h
        · exact hnm y h
        · have := k12.next; have := kt.next; have := k7.next; omega
      have k14' : Keeps (s2.next :: nameOf (.slice a L.length c)) s7 s14 := ((kb.any.trans (k13.mono fun y hy => List.mem_cons_of_mem _ hy))).trans (k14.mono (by simp))
      have hge : ∀ y ∈ s2.next :: nameOf (.slice a L.length c), s.next ≤ y := fun y hy => by
        rcases List.mem_cons.1 hy with h | h
        · omega
        · have := hn3 y h; omega
      have hn4 : s4.next ∉ s2.next :: nameOf (.slice a L.length c) := fun hy => by
        rcases List.mem_cons.1 hy with h | h
        · have := k3.next; have := k4.next; omega
        · have := hnm _ h; omega
      have hoth : ∀ z, z = s.next ∨ z = s1.next ∨ z = s3.next → z ∉ s2.next :: nameOf (.slice a L.length c) := fun z hz hy => by
        rcases List.mem_cons.1 hy with h | h
        · omega
        · have := hnm _ h; have := k4.next; omega
      refine hΨ8 _ _ ⟨⟨_, k14', hn4⟩, .inl ⟨rfl, fun s9 k9 la9 => ?_⟩⟩
      have k49 := k9
      refine ht _ k49.ok ((px.keep k14' (hoth _ (.inr (.inr rfl)))).keep k49 (by simp; omega)) ⟨k49.ok, la9, good_keep (good_keep h7 k14' hge) k49 (by simp; omega), (p1.keep k14' (hoth _ (.inl rfl))).keep k49 (by simp; omega), (p2.keep k14' (hoth _ (.inr (.inl rfl)))).keep k49 (by simp; omega), a9, c9, L ++ [((i : Int), m1, m2)], ?_, ?_, ?_, ?_, ?_, ?_⟩
      · rw [List.length_append]
        exact o14.keep k49 (by simp; omega)
      · rw [List.length_append]
        refine (B13.keep k14 fun b hb hb' => ?_).keep k49 fun b hb hb' => ?_
        · have := hn9 b hb
          have := List.mem_singleton.1 hb'
          have := k4.next
          omega
        · have := hn9 b hb
          have := List.mem_singleton.1 hb'
          omega
      · rw [List.length_append]
        exact ⟨by have := k14'.next; have := k7.next; have := k49.next; omega, hn9⟩
      · intro f hf
        rcases List.mem_append.1 hf with h | h
        · exact hL f h
        · rw [List.mem_singleton.1 h]; exact hgood
      · have := (nextL_len hne).1
        rw [List.length_append, List.length_singleton]
        omega
      · intro M hM e
        obtain ⟨f, M2, h1, hf, ⟨e0, e1, e2⟩, h3⟩ := cn3 M hM e
        have g1 := atoi_itoa hf.2.1
        have g2 := atoi_itoa hf.2.2
        rw [← e1, hv1] at g1
        rw [← e2, hv2] at g2
        have g0 : (i : Int) = f.1 := nmAt_inj (f := ((i : Int), m1, m2)) hgood.1 hf.1 (hnmi.trans e0)
        have hfe : f = ((i : Int), m1, m2) := Prod.ext g0.symm (Prod.ext (Lib.NumEnd.ok.inj g1).symm (Lib.NumEnd.ok.inj g2).symm)
        exact ⟨M2, by rw [h1, hfe]; simp, h3⟩
    · rintro s' ho ⟨_, la, hk, o1, o2, a, c, L, o3, B, ⟨h5', hnm⟩, hL, hlen, hrel⟩
      refine ⟨ho, .inl ⟨la, fun s'' kx => ?_⟩⟩
      have hx := good_keep hk kx (by simp; omega)
      have Gx := G.keep hx (by simp)
      have p1 := o1.keep kx (by simp; omega)
      have p2 := o2.keep kx (by simp; omega)
      have p3 := o3.keep kx (by simp; omega)
      have Bx := B.keep kx (fun b hb hb' => by
        have := hnm b hb
        rw [List.mem_singleton.1 hb'] at this
        omega)
      have lp3 := p3.load (i := 0) rfl
      refine hΨ7 _ _ (hΨ5 _ _ ?_)
      refine okC_seq_g fun Ψ8 hΨ8 hΨ8' => ?_
      refine okC_seq_g fun Ψ9 hΨ9 hΨ9' => ?_
      simp only [tf_8, ↓reduceIte, Nat.reduceEqDiff, reduceCtorEq, Int.reduceEq, Nat.reduceMul, Nat.reduceAdd, Nat.reduceBEq, Int.reduceBEq, noteOk, List.mem_cons, List.not_mem_nil, true_or, or_true, or_false, true_and, and_true, lp3]
      refine okO_callx ?_ (text_ok (L := L) ⟨⟨a, c, rfl, Bx.sl⟩, Gx, by simp at hlen; omega, fun f hf => (hL f hf).2⟩ ?_)
      · simp only [tf_8, ↓reduceIte, Nat.reduceEqDiff, reduceCtorEq, Int.reduceEq, Nat.reduceMul, Nat.reduceAdd, Nat.reduceBEq, Int.reduceBEq, noteOk, List.mem_cons, List.not_mem_nil, true_or, or_true, or_false, true_and, and_true, lp3]
      unfold textV
      rw [if_pos (fun f hf => (hL f hf).1)]
      simp only [tf_8, ↓reduceIte, Nat.reduceEqDiff, reduceCtorEq, Int.reduceEq, Nat.reduceMul, Nat.reduceAdd, Nat.reduceBEq, Int.reduceBEq, noteOk, List.mem_cons, List.not_mem_nil, true_or, or_true, or_false, true_and, and_true]
      refine hΨ9 _ _ ?_
      refine okC_seq_g fun Ψ10 hΨ10 hΨ10' => ?_
      have fin : ∀ M, (∀ f ∈ M, ftGood f) → S = ftText M → L = M := fun M hM e => by
        obtain ⟨M2, h1, h2⟩ := hrel M hM e
        rw [ftText_nil h2.symm] at h1
        rw [h1, List.append_nil]
      cases he : (ftText L == S) with
      | true =>
        have he' : ftText L = S := eq_of_beq he
        simp only [tf_8, ↓reduceIte, Nat.reduceEqDiff, reduceCtorEq, Int.reduceEq, Nat.reduceMul, Nat.reduceAdd, Nat.reduceBEq, Int.reduceBEq, noteOk, List.mem_cons, List.not_mem_nil, true_or, or_true, or_false, true_and, and_true, q0, ne_str, bn_s, he, Bool.not_true, Bool.not_false]
        refine hΨ10 _ _ ?_
        simp only [tf_8, ↓reduceIte, Nat.reduceEqDiff, reduceCtorEq, Int.reduceEq, Nat.reduceMul, Nat.reduceAdd, Nat.reduceBEq, Int.reduceBEq, noteOk, List.mem_cons, List.not_mem_nil, true_or, or_true, or_false, true_and, and_true]
        refine hΨ8 _ _ ?_
        refine okC_seq_g fun Ψ11 hΨ11 hΨ11' => ?_
        obtain ⟨t1, f1, u1, m1⟩ := p1.store1 kx.ok (i := 0) (v := .slice a L.length c) (by simp) rfl
        obtain ⟨t2, f2, u2, m2⟩ := (p2.keep m1 (by simp; omega)).store1 m1.ok (i := 0) (v := int 0) (by simp) rfl
        have hnx : ∀ b ∈ nameOf (.slice a L.length c), s1.next < b := fun b hb => by have := hnm b hb; have := k3.next; have := k4.next; omega
        simp only [tf_8, ↓reduceIte, Nat.reduceEqDiff, reduceCtorEq, Int.reduceEq, Nat.reduceMul, Nat.reduceAdd, Nat.reduceBEq, Int.reduceBEq, noteOk, List.mem_cons, List.not_mem_nil, true_or, or_true, or_false, true_and, and_true, lp3, q2, f1]
        simp only [tf_8, ↓reduceIte, Nat.reduceEqDiff, reduceCtorEq, Int.reduceEq, Nat.reduceMul, Nat.reduceAdd, Nat.reduceBEq, Int.reduceBEq, noteOk, List.mem_cons, List.not_mem_nil, true_or, or_true, or_false, true_and, and_true, q3, f2]
        refine hΨ11 _ _ ?_
        have r1 := (u1.keep m2 (by simp; omega)).load (i := 0) rfl
        have r2 := u2.load (i := 0) rfl
        simp only [tf_8, ↓reduceIte, Nat.reduceEqDiff, reduceCtorEq, Int.reduceEq, Nat.reduceMul, Nat.reduceAdd, Nat.reduceBEq, Int.reduceBEq, noteOk, List.mem_cons, List.not_mem_nil, true_or, or_true, or_false, true_and, and_true, q2, q3, r1, r2]
        refine htext hns L hL he'.symm a c t2 ((hx.step m1 fun g hg => .inr (by rw [List.mem_singleton.1 hg]; exact hs.fresh _ (Nat.le_refl _))).step m2 fun g hg => .inr (by rw [List.mem_singleton.1 hg]; exact hs.fresh _ (by omega))) ((Bx.sl.keep m1 fun b hb hb' => ?_).keep m2 fun b hb hb' => ?_)
        · have := hnx b hb
          have := List.mem_singleton.1 hb'
          omega
        · have := hnx b hb
          have := List.mem_singleton.1 hb'
          omega
      | false =>
        simp only [tf_8, ↓reduceIte, Nat.reduceEqDiff, reduceCtorEq, Int.reduceEq, Nat.reduceMul, Nat.reduceAdd, Nat.reduceBEq, Int.reduceBEq, noteOk, List.mem_cons, List.not_mem_nil, true_or, or_true, or_false, true_and, and_true, q0, ne_str, bn_s, he, Bool.not_true, Bool.not_false]
        refine hΨ10 _ _ ?_
        simp only [okC_cnd, RV, RG, ↓reduceIte, Nat.reduceEqDiff, reduceCtorEq, Int.reduceEq, Nat.reduceMul, Nat.reduceAdd, Nat.reduceBEq, Int.reduceBEq, noteOk, List.mem_cons, List.not_mem_nil, true_or, or_true, or_false, true_and, and_true]
        obtain ⟨t1, f1, u1, m1⟩ := p1.store1 kx.ok (i := 0) (v := .slice none 0 0) (by simp) rfl
        obtain ⟨t2, f2, u2, m2⟩ := (p2.keep m1 (by simp; omega)).store1 m1.ok (i := 0) (v := int 2) (by simp) rfl
        refine okC_seq_g fun Ψ11 hΨ11 hΨ11' => ?_
        simp only [tf_8, ↓reduceIte, Nat.reduceEqDiff, reduceCtorEq, Int.reduceEq, Nat.reduceMul, Nat.reduceAdd, Nat.reduceBEq, Int.reduceBEq, noteOk, List.mem_cons, List.not_mem_nil, true_or, or_true, or_false, true_and, and_true, q2, f1]
        simp only [tf_8, ↓reduceIte, Nat.reduceEqDiff, reduceCtorEq, Int.reduceEq, Nat.reduceMul, Nat.reduceAdd, Nat.reduceBEq, Int.reduceBEq, noteOk, List.mem_cons, List.not_mem_nil, true_or, or_true, or_false, true_and, and_true, q3, f2]
        refine hΨ11 _ _ ?_
        simp only [tf_8, ↓reduceIte, Nat.reduceEqDiff, reduceCtorEq, Int.reduceEq, Nat.reduceMul, Nat.reduceAdd, Nat.reduceBEq, Int.reduceBEq, noteOk, List.mem_cons, List.not_mem_nil, true_or, or_true, or_false, true_and, and_true]
        refine hΨ8' _ _ _ (by simp) ?_
        have r1 := (u1.keep m2 (by simp; omega)).load (i := 0) rfl
        have r2 := u2.load (i := 0) rfl
        simp only [tf_8, ↓reduceIte, Nat.reduceEqDiff, reduceCtorEq, Int.reduceEq, Nat.reduceMul, Nat.reduceAdd, Nat.reduceBEq, Int.reduceBEq, noteOk, List.mem_cons, List.not_mem_nil, true_or, or_true, or_false, true_and, and_true, q2, q3, r1, r2]
        refine hform hns (fun M hM e => ?_) t2 ((hx.step m1 fun g hg => .inr (by rw [List.mem_singleton.1 hg]; exact hs.fresh _ (Nat.le_refl _))).step m2 fun g hg => .inr (by rw [List.mem_singleton.1 hg]; exact hs.fresh _ (by omega)))
        rw [← fin M hM e] at e
        rw [e] at he
        simp at he
    · rintro s' ho ⟨_, da, hk, o1, o2, hno⟩
      refine ⟨ho, .inr ⟨da, fun s'' kx => ?_⟩⟩
      have r1 := (o1.keep kx (by simp; omega)).load (i := 0) rfl
      have r2 := (o2.keep kx (by simp; omega)).load (i := 0) rfl
      refine hΨ7' _ _ _ (by simp) (by simp) (hΨ5' _ _ _ (by simp) ?_)
      simp only [tf_8, ↓reduceIte, Nat.reduceEqDiff, reduceCtorEq, Int.reduceEq, Nat.reduceMul, Nat.reduceAdd, Nat.reduceBEq, Int.reduceBEq, noteOk, List.mem_cons, List.not_mem_nil, true_or, or_true, or_false, true_and, and_true, q2, q3, r1, r2]
      exact hform hns hno s'' (good_keep hk kx (by simp; omega))
  refine okC_region_g [(2, 19), (5, 22)] (by kernel_rfl) fun O hO ΨR hR => ?_
  have y2 : ∀ a, yieldedA O a 2 = boolOf (a.getT 19) := hO (2, 19) (by simp)
  have y5 : ∀ a, yieldedA O a 5 = boolOf (a.getT 22) := hO (5, 22) (by simp)
  have hts : tooLong S ↔ (4000 < N ∨ (N = 4000 ∧ Lib.hasSuffix S [10] = false)) := by unfold tooLong; rw [hN]
  by_cases h4 : 4000 < N
  · have e0 : decide ((N : Int) > 4000) = true := decide_eq_true (by omega)
    simp only [tf_8, ↓reduceIte, Nat.reduceEqDiff, reduceCtorEq, Int.reduceEq, Nat.reduceMul, Nat.reduceAdd, Nat.reduceBEq, Int.reduceBEq, noteOk, List.mem_cons, List.not_mem_nil, true_or, or_true, or_false, true_and, and_true, e0, y2, y5, boU]
    refine hR _ _ (long (hts.2 (.inl h4)) _ ?_ ?_ ?_)
    · simp only [tf_8, ↓reduceIte, Nat.reduceEqDiff, reduceCtorEq, Int.reduceEq, Nat.reduceMul, Nat.reduceAdd, Nat.reduceBEq, Int.reduceBEq, noteOk, List.mem_cons, List.not_mem_nil, true_or, or_true, or_false, true_and, and_true]
    · simp only [tf_8, ↓reduceIte, Nat.reduceEqDiff, reduceCtorEq, Int.reduceEq, Nat.reduceMul, Nat.reduceAdd, Nat.reduceBEq, Int.reduceBEq, noteOk, List.mem_cons, List.not_mem_nil, true_or, or_true, or_false, true_and, and_true]
    · simp only [tf_8, ↓reduceIte, Nat.reduceEqDiff, reduceCtorEq, Int.reduceEq, Nat.reduceMul, Nat.reduceAdd, Nat.reduceBEq, Int.reduceBEq, noteOk, List.mem_cons, List.not_mem_nil, true_or, or_true, or_false, true_and, and_true]
  have e0 : decide ((N : Int) > 4000) = false := decide_eq_false (by omega)
  by_cases h5 : N = 4000
  · have e1 : ((N : Int) == 4000) = true := by simp; omega
    simp only [tf_8, ↓reduceIte, Nat.reduceEqDiff, reduceCtorEq, Int.reduceEq, Nat.reduceMul, Nat.reduceAdd, Nat.reduceBEq, Int.reduceBEq, noteOk, List.mem_cons, List.not_mem_nil, true_or, or_true, or_false, true_and, and_true, e0, e1, y2, y5, k_nl]
    refine okO_callx ?_ (suffix_ok (l := S) (m := [10]) (by omega) ?_)
    · simp only [tf_8, ↓reduceIte, Nat.reduceEqDiff, reduceCtorEq, Int.reduceEq, Nat.reduceMul, Nat.reduceAdd, Nat.reduceBEq, Int.reduceBEq, noteOk, List.mem_cons, List.not_mem_nil, true_or, or_true, or_false, true_and, and_true, k_nl]
    cases hsf : Lib.hasSuffix S [10] with
    | true =>
      simp only [tf_8, ↓reduceIte, Nat.reduceEqDiff, reduceCtorEq, Int.reduceEq, Nat.reduceMul, Nat.reduceAdd, Nat.reduceBEq, Int.reduceBEq, noteOk, List.mem_cons, List.not_mem_nil, true_or, or_true, or_false, true_and, and_true, y2, y5]
      refine hR _ _ (rest (fun h => by rcases hts.1 h with h | ⟨_, h⟩; exact absurd h h4; rw [hsf] at h; cases h) _ ?_ ?_ ?_ ?_)
      · simp only [tf_8, ↓reduceIte, Nat.reduceEqDiff, reduceCtorEq, Int.reduceEq, Nat.reduceMul, Nat.reduceAdd, Nat.reduceBEq, Int.reduceBEq, noteOk, List.mem_cons, List.not_mem_nil, true_or, or_true, or_false, true_and, and_true]
      · simp only [tf_8, ↓reduceIte, Nat.reduceEqDiff, reduceCtorEq, Int.reduceEq, Nat.reduceMul, Nat.reduceAdd, Nat.reduceBEq, Int.reduceBEq, noteOk, List.mem_cons, List.not_mem_nil, true_or, or_true, or_false, true_and, and_true]
      · simp only [tf_8, ↓reduceIte, Nat.reduceEqDiff, reduceCtorEq, Int.reduceEq, Nat.reduceMul, Nat.reduceAdd, Nat.reduceBEq, Int.reduceBEq, noteOk, List.mem_cons, List.not_mem_nil, true_or, or_true, or_false, true_and, and_true]
      · simp only [tf_8, ↓reduceIte, Nat.reduceEqDiff, reduceCtorEq, Int.reduceEq, Nat.reduceMul, Nat.reduceAdd, Nat.reduceBEq, Int.reduceBEq, noteOk, List.mem_cons, List.not_mem_nil, true_or, or_true, or_false, true_and, and_true]
    | false =>
      simp only [tf_8, ↓reduceIte, Nat.reduceEqDiff, reduceCtorEq, Int.reduceEq, Nat.reduceMul, Nat.reduceAdd, Nat.reduceBEq, Int.reduceBEq, noteOk, List.mem_cons, List.not_mem_nil, true_or, or_true, or_false, true_and, and_true, y2, y5]
      refine hR _ _ (long (hts.2 (.inr ⟨h5, hsf⟩)) _ ?_ ?_ ?_)
      · simp only [tf_8, ↓reduceIte, Nat.reduceEqDiff, reduceCtorEq, Int.reduceEq, Nat.reduceMul, Nat.reduceAdd, Nat.reduceBEq, Int.reduceBEq, noteOk, List.mem_cons, List.not_mem_nil, true_or, or_true, or_false, true_and, and_true]
      · simp only [tf_8, ↓reduceIte, Nat.reduceEqDiff, reduceCtorEq, Int.reduceEq, Nat.reduceMul, Nat.reduceAdd, Nat.reduceBEq, Int.reduceBEq, noteOk, List.mem_cons, List.not_mem_nil, true_or, or_true, or_false, true_and, and_true]
      · simp only [tf_8, ↓reduceIte, Nat.reduceEqDiff, reduceCtorEq, Int.reduceEq, Nat.reduceMul, Nat.reduceAdd, Nat.reduceBEq, Int.reduceBEq, noteOk, List.mem_cons, List.not_mem_nil, true_or, or_true, or_false, true_and, and_true]
  · have e1 : ((N : Int) == 4000) = false := by simp; omega
    simp only [tf_8, ↓reduceIte, Nat.reduceEqDiff, reduceCtorEq, Int.reduceEq, Nat.reduceMul, Nat.reduceAdd, Nat.reduceBEq, Int.reduceBEq, noteOk, List.mem_cons, List.not_mem_nil, true_or, or_true, or_false, true_and, and_true, e0, e1, y2, y5]
    refine hR _ _ (rest (fun h => by rcases hts.1 h with h | ⟨h, _⟩; exact absurd h h4; exact absurd h h5) _ ?_ ?_ ?_ ?_)
    · simp only [tf_8, ↓reduceIte, Nat.reduceEqDiff, reduceCtorEq, Int.reduceEq, Nat.reduceMul, Nat.reduceAdd, Nat.reduceBEq, Int.reduceBEq, noteOk, List.mem_cons, List.not_mem_nil, true_or, or_true, or_false, true_and, and_true]
    · simp only [tf_8, ↓reduceIte, Nat.reduceEqDiff, reduceCtorEq, Int.reduceEq, Nat.reduceMul, Nat.reduceAdd, Nat.reduceBEq, Int.reduceBEq, noteOk, List.mem_cons, List.not_mem_nil, true_or, or_true, or_false, true_and, and_true]
    · simp only [tf_8, ↓reduceIte, Nat.reduceEqDiff, reduceCtorEq, Int.reduceEq, Nat.reduceMul, Nat.reduceAdd, Nat.reduceBEq, Int.reduceBEq, noteOk, List.mem_cons, List.not_mem_nil, true_or, or_true, or_false, true_and, and_true]
    · simp only [tf_8, ↓reduceIte, Nat.reduceEqDiff, reduceCtorEq, Int.reduceEq, Nat.reduceMul, Nat.reduceAdd, Nat.reduceBEq, Int.reduceBEq, noteOk, List.mem_cons, List.not_mem_nil, true_or, or_true, or_false, true_and, and_true]
end
end Go.Dust
end
