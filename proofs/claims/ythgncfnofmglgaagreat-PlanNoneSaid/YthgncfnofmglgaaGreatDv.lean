/- From D's word on a law to the statement: a law that gives true and leaves everything as it lies. -/
import Derived.Test.YthgncfnofmglgaaGreatDu
import Derived.Carry
import Derived.WideKeyArgs
import Derived.ChangeSame
import Derived.OpenShut
namespace Go.Dust
open Go.ChangeShapes Go.RowKit Go.WideShapes

def ι₀ : Inj := fun b => if b % 2 = 0 then some ⟨b / 2, 0, 0, true⟩ else none
def st₀ : St := { heap := .nil, next := 1, clk := 0 }
theorem look₀ (b : Nat) : st₀.look b = none := rfl
theorem tie₀ (P : Program) (W : World) : RS P ι₀ st₀ W := by
  refine ⟨fun b => ?_, rfl, fun b _ hb => ?_, fun b l hl hro => ?_, fun b o h => ?_, fun b b' o o' l l' h => ?_⟩
  · unfold ι₀
    rw [if_pos (by omega)]
    simp
  · unfold ι₀
    rw [if_neg (by omega)]
  · unfold ι₀ at hl
    split at hl
    · cases hl; cases hro
    · cases hl
  · rw [look₀] at h; cases h
  · rw [look₀] at h; cases h

def isTrue : Res (Value × St) → Bool
  | .ret (.bool true, _) => true
  | _ => false
theorem isTrue_all {r : Res (Value × St)} (h : isTrue r = true) : r.All fun p => p.1 = .bool true := by
  unfold isTrue at h
  split at h
  · rfl
  · cases h

/-- A run that D follows to 'true', whatever lies in the memory. -/
theorem calls_all {P : Program} (hm : P.follows .mixedOrders = true) {N : Nat} {f : FuncId} {fn : Func} (hf : P.funcs[f]? = some fn) (hb : fn.body.isSome = true) {args : List Value} {args' : Array Value} {W : World}
    (hargs : VRs ι₀ args args'.toList) (hrun : (callA (env P) N f args st₀).All fun p => p.1 = .bool true) : Calls P f args' W fun e W' => e = .returned (.bool true) ∧ Below W.heap.size W W' := by
  obtain ⟨_, _, hc, _⟩ := all_sound (drawn_sound hm) N
  obtain ⟨fn', h1, _⟩ := hc.fn f args st₀ _ hrun
  have h2 := (fn_some h1).1
  rw [hf] at h2; cases h2
  have := hc.calls f fn args args' st₀ W ι₀ _ none 0 h1 hb hrun hargs (tie₀ P W)
  refine (callsIn_wide.1 this).mono ?_
  rintro e W' ⟨v, u, s', ι', rfl, hv, hu, _, hE⟩
  simp only at hv
  subst hv
  refine ⟨by rw [hu.bool_eq], hE.os, hE.tape, hE.output, hE.size, fun k hk => hE.keep k hk ?_⟩
  rintro ⟨b, o, l, h, _⟩
  rw [look₀] at h; cases h
theorem calls_true {P : Program} (hm : P.follows .mixedOrders = true) {N : Nat} {f : FuncId} {fn : Func} (hf : P.funcs[f]? = some fn) (hb : fn.body.isSome = true) {args : List Value} {args' : Array Value} {W : World}
    (hargs : VRs ι₀ args args'.toList) (hrun : isTrue (callA (env P) N f args st₀) = true) : Calls P f args' W fun e W' => e = .returned (.bool true) ∧ Below W.heap.size W W' := calls_all hm hf hb hargs (isTrue_all hrun)

section
variable {H : Type} {enc : TypeId × Value → H} {P : Program}
theorem trodAll_stays (hl : laidOutB P = true) {W W' : World} {sp' : Nat → Bool} : ∀ {ts : List TypeId} {vs : List Value} {ds : List (DataW H)} {ps : List MemPlace}, (∀ t ∈ ts, P.readableRec t = true ∧ t < P.types.size) →
    DataW.TrodAll enc P W 0 (fun _ => true) true ts vs ds ps → (∀ p ∈ ps, W.sameAt W' p) → (∀ p ∈ ps, sp' p.block = true) → DataW.TrodAll enc P W' 0 sp' true ts vs ds ps
  | [], _, _, _, _, h, _, _ => by
    obtain ⟨rfl, rfl, rfl⟩ := trodAll_nil h
    exact h
  | t :: ts, _, _, _, ht, h, hs, hsp => by
    obtain ⟨v, vs1, d, ds1, a, b, rfl, rfl, rfl, h1, h2⟩ := trodAll_cons h
    obtain ⟨k1, k2⟩ := ht t (by simp)
    exact ⟨a, b, WideElems.Trod_stays hl k1 k2 h1 (fun p hp => hs p (List.mem_append_left _ hp)) (fun p hp => hsp p (List.mem_append_left _ hp)),
      trodAll_stays hl (fun t ht' => ht t (List.mem_cons_of_mem _ ht')) h2 (fun p hp => hs p (List.mem_append_right _ hp)) (fun p hp => hsp p (List.mem_append_right _ hp)), rfl⟩

theorem trodAll_length {W : World} {base : Nat} {spare : Nat → Bool} {held : Bool} : ∀ {ts : List TypeId} {vs : List Value} {ds : List (DataW H)} {ps : List MemPlace}, DataW.TrodAll enc P W base spare held ts vs ds ps → ds.length = ts.length
  | [], _, _, _, h => by obtain ⟨rfl, rfl, rfl⟩ := trodAll_nil h; rfl
  | t :: ts, _, _, _, h => by
    obtain ⟨v, vs1, d, ds1, a, b, rfl, rfl, rfl, h1, h2⟩ := trodAll_cons h
    simp [trodAll_length h2]

/-- The postcondition of a law. -/
theorem post_true (hl : laidOutB P = true) {f : Func} {s : ChangeSpec} {apart fresh handsOn again : Bool} {W W' : World} {args : Array Value} {ds gs : List (DataW H)} {before : List MemPlace} {tb : TypeId}
    (hpar : ∀ t ∈ f.params.toList, P.readableRec t = true ∧ t < P.types.size) (hvars : s.vars = []) (hrt : f.resultTypes = #[tb]) (htb : P.underlying tb = some .bool)
    (hfn : ∀ ds : List (DataW H), ds.length = f.params.size → s.fn H ds = { results := [.lit (.bool true)], args := ds })
    (hW : DataW.Whole enc P f.params.toList s.vars apart W args.toList ds gs before) (hb : Below W.heap.size W W') : s.post enc P f apart fresh handsOn again W args (.bool true) W' := by
  have hW' := hW
  obtain ⟨p, q, hA, hV, rfl, hfz, hnd⟩ := hW
  rw [hvars] at hV
  cases gs with
  | cons g gs => exact hV.elim
  | nil =>
  have hq : q = [] := hV
  subst hq
  have hlt := hW'.lt
  have hsp := hfn ds (by rw [trodAll_length hA]; simp)
  have hargs : ∀ sp : Nat → Bool, (∀ x ∈ p, sp x.block = true) → DataW.TrodAll enc P W' 0 sp true f.params.toList args.toList ds p := fun sp h =>
    trodAll_stays hl hpar hA (fun x hx => hb.same (hlt x (by simpa using hx))) h
  have hres : ∀ (b : Nat) (sp : Nat → Bool) (hd : Bool), DataW.TrodAll enc P W' b sp hd f.resultTypes.toList ((Value.bool true).resultList f.resultTypes.size) [.lit (.bool true)] [] := by
    intro b sp hd
    rw [hrt]
    exact trodAll_mk1 (shut_bool htb _)
  have hok : ∀ (j : Nat) (t : TypeId) (r : Value), f.resultTypes[j]? = some t → ((Value.bool true).resultList f.resultTypes.size)[j]? = some r → Value.okWide P W' .any 0 t r :=
    ok_one (t := tb) hrt rfl (okWide_bool_mk htb _)
  have hvar : ∀ sp : Nat → Bool, DataW.TrodVars enc P W' sp s.vars ([] : List (DataW H)) [] := fun sp => by rw [hvars]; rfl
  have hp : ∀ x ∈ p, (fun b => decide (b < W.heap.size)) x.block = true := fun x hx => by
    have := hlt x (List.mem_append_left _ hx)
    simp only [decide_eq_true_eq]; exact this
  have hsp' : s.fn H (ds ++ []) = { results := [.lit (.bool true)], args := ds } := by rw [List.append_nil]; exact hsp
  refine ⟨ds, [], p ++ [], [], p, [], hW', by rw [hsp']; exact hres _ _ _, by rw [hsp']; exact hargs _ hp, by rw [hsp']; exact hvar _, hb.frame _, fun _ => ?_⟩
  refine ⟨hok, [.lit (.bool true)] ++ ds, [], ([] ++ p) ++ [], ⟨[] ++ p, [], trodAll_append (hargs _ (fun _ _ => rfl)) (hres _ _ _), hvar _, rfl, ?_, ?_⟩, ?_⟩
  · intro b off hx
    have hx' : MemPlace.cell b off ∈ p ++ [] := by simpa using hx
    rw [hb.frozen (p := ⟨b, off, none⟩) (hlt _ hx')]
    exact hfz b off hx'
  · intro ha
    have := hnd ha
    simpa using this
  · intro x hx _
    simpa using hx
end

/-! ### Arguments: each is named as it lies -/
theorem vr_int {P : Program} {w : World} {r : Reach} {b : Nat} {t : TypeId} {k : IntKind} {v : Value} (ht : P.underlying t = some (.int k)) (h : Value.okWide P w r b t v) : ∃ x, VR ι₀ x v := by
  simp only [Value.okWide, ht, Cell.okWide] at h
  cases v <;> simp_all [Cell.ok]
  exact ⟨_, .int _ _⟩
theorem vr_bool {P : Program} {w : World} {r : Reach} {b : Nat} {t : TypeId} {v : Value} (ht : P.underlying t = some .bool) (h : Value.okWide P w r b t v) : ∃ x, VR ι₀ x v := by
  simp only [Value.okWide, ht, Cell.okWide] at h
  cases v <;> simp_all [Cell.ok]
  exact ⟨_, .bool _⟩
theorem vr_string {P : Program} {w : World} {r : Reach} {b : Nat} {t : TypeId} {v : Value} (ht : P.underlying t = some .string) (h : Value.okWide P w r b t v) : ∃ x, VR ι₀ x v := by
  simp only [Value.okWide, ht, Cell.okWide] at h
  cases v <;> simp_all [Cell.ok]
  exact ⟨_, .string _⟩
theorem vr_slice {P : Program} {w : World} {r : Reach} {b : Nat} {t e : TypeId} {v : Value} (ht : P.underlying t = some (.slice e)) (h : Value.okWide P w r b t v) : ∃ x, VR ι₀ x v := by
  simp only [Value.okWide, ht, Cell.okWide] at h
  cases v with
  | slice a len cap =>
    cases a with
    | none => exact ⟨_, .nilslice len cap⟩
    | some a =>
      simp only [Cell.ok, ht, World.has] at h
      obtain ⟨blk, off, spot⟩ := a
      obtain ⟨_, _, _, hs, _⟩ := h
      simp only at hs
      subst hs
      refine ⟨.slice (some ⟨2 * blk, off, none⟩) len cap, ?_⟩
      have := VR.slice (ι := ι₀) (b := 2 * blk) (o := off) (l := ⟨blk, 0, 0, true⟩) len cap (by unfold ι₀; rw [if_pos (by omega)]; simp)
      simpa using this
  | _ => simp [Cell.ok, ht] at h
end Go.Dust
