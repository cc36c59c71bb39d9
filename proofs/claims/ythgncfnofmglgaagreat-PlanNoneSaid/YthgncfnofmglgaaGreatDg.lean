/- Operations that make memory. -/
import Derived.Test.YthgncfnofmglgaaGreatDf
import Derived.IntWalk
namespace Go.Dust
variable {P : Program} {ι : Inj} {H : Look} {n : Nat} {w : World}

/-- The place of a new block. -/
abbrev newLoc (w : World) : Loc := ⟨w.heap.size, 0, 0, false⟩

theorem objR_row {X : Env} {l l' : List Value} (hl : VRs ι l l') (e e' : TypeId) (ver m : Nat) (hm : m = l.length) (arr : Array Value) (harr : arr.toList = l') :
    ObjR X ι (w.alloc (.cells arr e' (0, 0))) (newLoc w) (.cells (PT.ofList l) [] m e false false ver) := by
  subst hm
  have hlen := hl.length
  have hsz : arr.size = l.length := by rw [hlen, ← harr]; simp
  refine ⟨arr, e', (0, 0), heap_alloc_new, fun _ => rfl, rfl, fun _ => rfl, ?_, ?_, ?_⟩
  · intro ei _; simp [hsz]
  · simp [hsz]
  · intro i hi
    have hg : l[i]? = some l[i] := List.getElem?_eq_getElem hi
    obtain ⟨u, h1, h2⟩ := hl.getSome i hg
    refine ⟨l[i], u, ?_, ?_, h2⟩
    · unfold cellAt
      rw [if_pos hi, PT.get_ofList, hg]
    · simp only [Nat.zero_add]
      rw [← harr] at h1
      simpa using h1

theorem fillBase_closed {z : Value} (hz : closedV z = true) (m : Nat) : VRs ι ((Array.range m).map (z.cells[· % z.cells.size]!)).toList ((Array.range m).map (z.cells[· % z.cells.size]!)).toList := by
  simp only [Array.toList_map]
  refine .map₂ _ fun i _ => ?_
  have hc : VRs ι z.cells.toList z.cells.toList := VR.cells (.closed hz)
  by_cases h : i % z.cells.size < z.cells.size
  · rw [getElem!_pos z.cells _ h]
    exact hc.arr (i % z.cells.size) _ _ (by simp [h]) (by simp [h])
  · rw [getElem!_neg z.cells _ h]
    exact .bool _

theorem wrap_small {x : Int} (h0 : 0 ≤ x) (h1 : x < 2 ^ 40) : IntKind.i64.wrap x = x := IntWalk.i64_in _ (by omega)
theorem map_range0 {α : Type} (f : Nat → α) : (Array.range 0).map f = #[] := by simp

theorem run_makeSlice {t e : TypeId} {i ei : Ty} {z : Value} {l c : Int} (ht : (env P).ty t = some i) (hd : i.desc = .slice e) (he : (env P).ty e = some ei) (hz : ei.zero = some z)
    (h0 : 0 ≤ l) (h1 : l ≤ c) (h2 : c < 2 ^ 40) (h3 : ei.bytes * c ≤ 2 ^ 48) (_ : z.cells.size = ei.size) :
    (Instr.makeSlice t (.int .i64 l) (.int .i64 c)).run P w =
      .ok (.slice (some ⟨w.heap.size, 0, none⟩) l.toNat c.toNat) (w.alloc (.cells ((Array.range (c.toNat * ei.size)).map (z.cells[· % z.cells.size]!)) e (0, 0))) := by
  obtain ⟨inf, e1, e2, _⟩ := run_bytesA (w := w) he
  unfold Instr.makeSlice
  simp only [Sem.run_bind, run_underlyingA ht, hd, Result.andThen_ok, asInt, asIntOf, Sem.run_pure, e1, e2, wrap_small (x := l) h0 (by omega), wrap_small (x := c) (by omega) h2]
  have k1 : (decide (c < 0) || decide ((ei.bytes : Int) * c > 2 ^ 48)) = false := by
    simp only [Bool.or_eq_false_iff, decide_eq_false_iff_not]
    constructor <;> omega
  rw [k1]
  rw [if_neg (by simp; omega)]
  simp only [Sem.run_bind, run_askRoom, Result.andThen_ok, run_sizeOfA he]
  by_cases hn : c.toNat * ei.size = 0
  · rw [if_pos hn]
    simp only [Sem.run_pure, Result.andThen_ok, newRow, Sem.run_bind, run_newObj, hn, map_range0]
    rfl
  · rw [if_neg hn]
    simp only [Sem.run_bind, run_zeroA he hz, Sem.run_pure, Result.andThen_ok, newRow, run_newObj]
    rfl

/-- **AN OPERATION THAT MAKES A BLOCK.** -/
theorem alloc_sound {nm : Nat} {ρ ρc : Operand → Value} {o : Oper} (hfree : ι nm = none) (hρ : ∀ x ∈ o.op.operands.toList, VR ι (ρ x) (ρc x)) {v : Value} {f : Nat → AObj}
    (h : allocA (env P) nm ρ o.op = some (v, f)) :
    ∃ u x, (execOp ρc o).run P w = .ok (.value u) (w.alloc x) ∧ VR (ι.add nm (newLoc w)) v u ∧ ∀ ver, (f ver).isDead = false ∧ ObjR (env P) (ι.add nm (newLoc w)) (w.alloc x) (newLoc w) (f ver) := by
  have hle : ι.le (ι.add nm (newLoc w)) := Inj.le_add hfree
  have hptr : VR (ι.add nm (newLoc w)) (.pointer (some ⟨nm, 0, none⟩)) (.pointer (some ⟨w.heap.size, 0, none⟩)) := by
    have := VR.ptr (ι := ι.add nm (newLoc w)) (o := 0) (Inj.add_same ι nm (newLoc w))
    simpa [newLoc] using this
  have hsl : ∀ a b, VR (ι.add nm (newLoc w)) (.slice (some ⟨nm, 0, none⟩) a b) (.slice (some ⟨w.heap.size, 0, none⟩) a b) := by
    intro a b
    have := VR.slice (ι := ι.add nm (newLoc w)) (o := 0) a b (Inj.add_same ι nm (newLoc w))
    simpa [newLoc] using this
  unfold execOp
  cases hop : o.op <;> rw [hop] at h hρ <;> simp only [allocA] at h <;> simp only [Op.operands] at hρ
  case alloc e =>
    split at h
    · rename_i d sz by_ z ag me cm ht
      simp only [Option.some.injEq, Prod.mk.injEq] at h
      obtain ⟨rfl, rfl⟩ := h
      have hz : VRs (ι.add nm (newLoc w)) z.cells.toList z.cells.toList := VR.cells (.closed (zero_closed ht rfl))
      refine ⟨_, .cells z.cells e (0, 0), ?_, hptr, fun ver => ⟨rfl, objR_row hz e e ver _ (by simp) _ rfl⟩⟩
      simp only [Instr.alloc, Sem.run_bind, run_zeroA ht rfl, Result.andThen_ok, newVar, newRow, run_newObj, Sem.run_pure]
      rfl
    · cases h
  case box e x =>
    simp only [Option.some.injEq, Prod.mk.injEq] at h
    obtain ⟨rfl, rfl⟩ := h
    have hv := ((hρ x (by simp)).mono hle).cells
    refine ⟨_, .cells (ρc x).cells e (0, 0), ?_, hptr, fun ver => ⟨rfl, objR_row hv e e ver _ (by simp) _ rfl⟩⟩
    simp only [Instr.box, Sem.run_bind, Result.andThen_ok, newVar, newRow, run_newObj, Sem.run_pure]
    rfl
  case buildSlice t len parts =>
    split at h
    · rename_i e sz by_ ze ag me cm ht
      split at h
      · rename_i d esz eb z ea em ec he
        split at h
        · rename_i hlen
          split at h
          · rename_i cs hf
            simp only [Option.some.injEq, Prod.mk.injEq] at h
            obtain ⟨rfl, rfl⟩ := h
            have hpr : ∀ (l : List (Nat × Operand)), (∀ x ∈ l, VR ι (ρ x.2) (ρc x.2)) → PRs ι (l.map fun (i, x) => (i, ρ x)) (l.map fun (i, x) => (i, ρc x)) := by
              intro l
              induction l with
              | nil => intro _; exact .nil
              | cons y l ih => intro hl; exact .cons (hl y (by simp)) (ih fun z hz => hl z (by simp [hz]))
            obtain ⟨r', g1, g2⟩ := fill_sound (hpr parts.toList fun x hx => hρ _ (by simp; exact ⟨x.1, by simpa using hx⟩)) (fillBase_closed (ι := ι) (zero_closed he rfl) (len * esz)) hf
            have g1' : Instr.fill (fun i => some (i * esz, esz)) ((Array.range (len * esz)).map (z.cells[· % z.cells.size]!)) (parts.map fun (i, x) => (i, ρc x)).toList = some r' := by
              rw [Array.toList_map]; exact g1
            refine ⟨_, .cells r' e (0, 0), ?_, hsl len len, fun ver => ⟨rfl, objR_row (VRs.mono hle g2) e e ver _ (by simp) _ rfl⟩⟩
            have hsize : (sizeOf e).run P w = .ok esz w := run_sizeOfA he
            simp only [Instr.buildSlice, Sem.run_bind, run_underlyingA ht, Result.andThen_ok, hsize]
            rw [if_neg (by omega)]
            by_cases h0 : len * esz = 0
            · rw [if_pos h0]
              rw [h0] at g1'
              simp only [Sem.run_pure, Sem.run_bind, Result.andThen_ok]
              simp only [h0]
              have g3 : Instr.fill (fun i => some (i * esz, esz)) ((Array.range 0).map ((#[] : Array Value)[· % (#[] : Array Value).size]!)) (parts.map fun (i, x) => (i, ρc x)).toList = some r' := by
                rw [map_range0] at g1' ⊢; exact g1'
              simp only [g3, newRow, Sem.run_bind, run_newObj, Result.andThen_ok, Sem.run_pure]
              rfl
            · rw [if_neg h0]
              simp only [Sem.run_pure, Sem.run_bind, Result.andThen_ok, run_zeroA he rfl, g1', newRow, run_newObj]
              rfl
          · cases h
        · cases h
      · cases h
    · cases h
  case makeMap t r =>
    have hmap : VR (ι.add nm (newLoc w)) (.map (some nm)) (.map (some w.heap.size)) := .map (Inj.add_same ι nm (newLoc w))
    have hobj : ∀ ver, ((fun v => AObj.map [] 0 v) ver).isDead = false ∧ ObjR (env P) (ι.add nm (newLoc w)) (w.alloc (.map #[] 0)) (newLoc w) (.map [] 0 ver) := fun ver =>
      ⟨rfl, rfl, rfl, rfl, #[], heap_alloc_new, .nil⟩
    split at h
    · rename_i k e sz by_ ze ag me cm ht hr
      simp only [Option.some.injEq, Prod.mk.injEq] at h
      obtain ⟨rfl, rfl⟩ := h
      cases r with
      | some _ => cases hr
      | none =>
        exact ⟨_, .map #[] 0, rfl, hmap, hobj⟩
    · rename_i k e sz by_ ze ag me cm kk m ht hr
      simp only [Option.some.injEq, Prod.mk.injEq] at h
      obtain ⟨rfl, rfl⟩ := h
      cases r with
      | none => cases hr
      | some x =>
        simp only [Option.map_some, Option.some.injEq] at hr
        have hv := hρ x (by simp)
        rw [hr] at hv
        refine ⟨_, .map #[] 0, ?_, hmap, hobj⟩
        simp only [Option.map_some, hv.int_eq, Instr.makeMap, Sem.run_bind, run_underlyingA ht, Result.andThen_ok, asInt, asIntOf, Sem.run_pure, run_newObj]
        rfl
    · cases h
  case makeSlice t len cap =>
    split at h
    · rename_i e sz by_ ze ag me cm l c ht hl hc
      split at h
      · rename_i d esz eb z ea em ec he
        split at h
        · rename_i hb
          simp only [Option.some.injEq, Prod.mk.injEq] at h
          obtain ⟨rfl, rfl⟩ := h
          have h1 := hρ len (by simp)
          have h2 := hρ cap (by simp)
          rw [hl] at h1
          rw [hc] at h2
          have hrun := run_makeSlice (w := w) ht rfl he rfl hb.1 hb.2.1 hb.2.2.1 hb.2.2.2.1 hb.2.2.2.2
          refine ⟨_, .cells ((Array.range (c.toNat * esz)).map (z.cells[· % z.cells.size]!)) e (0, 0), ?_, hsl _ _, fun ver => ⟨rfl, ?_⟩⟩
          · simp only [h1.int_eq, h2.int_eq, Sem.run_bind, hrun, Result.andThen_ok, Sem.run_pure]
          · refine ⟨_, e, (0, 0), heap_alloc_new, fun _ => rfl, rfl, fun _ => rfl, ?_, ?_, ?_⟩
            · intro ei hei; simp
            · simp
            · intro i hi
              have hzs : z.cells.size = esz := hb.2.2.2.2
              have hpos : 0 < z.cells.size := by
                rw [hzs]
                by_cases hz0 : esz = 0
                · rw [hz0] at hi; simp at hi
                · omega
              have hmod : i % z.cells.size < z.cells.size := Nat.mod_lt _ hpos
              have hcl : VRs (ι.add nm (newLoc w)) z.cells.toList z.cells.toList := VR.cells (.closed (zero_closed he rfl))
              refine ⟨z.cells[i % z.cells.size], z.cells[i % z.cells.size], ?_, ?_, hcl.arr (i % z.cells.size) _ _ (by simp [hmod]) (by simp [hmod])⟩
              · unfold cellAt
                rw [if_pos hi, PT.get_nil]
                simp [hmod]
              · simp only [Nat.zero_add]
                rw [Array.getElem?_map]
                simp only [Array.getElem?_range, hi, if_true, Option.map_some]; exact congrArg some (getElem!_pos z.cells (i % z.cells.size) hmod)
        · cases h
      · cases h
    · cases h
  all_goals cases h
end Go.Dust
