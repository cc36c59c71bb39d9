/- The tie between abstract memory and the model's: what it says, and how it abides what the operations do. -/
import Derived.Test.YthgncfnofmglgaaGreatDb
namespace Go.Dust
variable {P : Program}

/-- The types' table says what the program says. -/
theorem ty_some {t : TypeId} {i : Ty} (h : (env P).ty t = some i) :
    ∃ inf, P.info? t = some inf ∧ P.underlying t = some i.desc ∧ i.size = inf.size ∧ i.bytes = inf.bytes ∧ i.agg = aggOf i.desc ∧ i.methods = inf.methods ∧
      (∀ z, i.zero = some z → inf.zero = some z ∧ closedV z = true) ∧ (i.cmp = true → P.stoodInHeld t = false ∧ P.eqGuardType P.depth t = false) := by
  have h1 : mkTy P t = some i := by
    have h0 : (match (tyTab P).get t with | some x => x | none => none) = some i := h
    unfold tyTab at h0
    rw [PT.get_ofList] at h0
    simp only [List.getElem?_map] at h0
    by_cases ht : t < P.types.size
    · rw [List.getElem?_range ht] at h0; simpa using h0
    · rw [List.getElem?_eq_none (by simpa using ht)] at h0; simp at h0
  unfold mkTy at h1
  split at h1
  · rename_i inf d hi hd
    cases h1
    refine ⟨inf, hi, hd, rfl, rfl, rfl, rfl, ?_, by simp⟩
    intro z hz
    simp only at hz
    split at hz
    · rename_i z' hz'
      split at hz
      · rename_i hc
        cases hz
        exact ⟨hz', hc⟩
      · cases hz
    · cases hz
  · cases h1
theorem fn_some {f : FuncId} {fn : Func} (h : (env P).fn f = some fn) : P.funcs[f]? = some fn ∧ okFn fn = true := by
  have h0 : (match (fnTab P).get f with | some x => x | none => none) = some fn := h
  unfold fnTab at h0
  rw [PT.get_ofList] at h0
  simp only [List.getElem?_map, Array.getElem?_toList] at h0
  cases hf : P.funcs[f]? with
  | none => rw [hf] at h0; simp at h0
  | some g =>
    rw [hf] at h0
    simp only [Option.map_some] at h0
    by_cases hok : okFn g = true
    · rw [if_pos hok] at h0
      cases h0
      exact ⟨rfl, hok⟩
    · rw [if_neg hok] at h0
      cases h0

section typefacts
variable {t : TypeId} {i : Ty} {w : World}
theorem run_underlyingA (h : (env P).ty t = some i) : (underlying t).run P w = .ok i.desc w := by
  obtain ⟨inf, h1, h2, _⟩ := ty_some h
  simp [underlying, h2]
theorem run_sizeOfA (h : (env P).ty t = some i) : (sizeOf t).run P w = .ok i.size w := by
  obtain ⟨inf, h1, h2, h3, _⟩ := ty_some h
  simp [sizeOf, typeInfo, h1, h3]
theorem run_isAggA (h : (env P).ty t = some i) : (isAgg t).run P w = .ok i.agg w := by
  obtain ⟨inf, h1, h2, h3, h4, h5, _⟩ := ty_some h
  rw [h5]
  unfold isAgg
  rw [Sem.run_bind, run_underlyingA h]
  simp only [Result.andThen_ok]
  cases i.desc <;> rfl
theorem run_zeroA (h : (env P).ty t = some i) {z : Value} (hz : i.zero = some z) : (zeroValue t).run P w = .ok z w := by
  obtain ⟨inf, h1, h2, h3, h4, h5, h6, h7⟩ := ty_some h
  simp [zeroValue, typeInfo, h1, (h7.1 z hz).1]
theorem zero_closed (h : (env P).ty t = some i) {z : Value} (hz : i.zero = some z) : closedV z = true := by
  obtain ⟨inf, h1, h2, h3, h4, h5, h6, h7⟩ := ty_some h
  exact (h7.1 z hz).2
theorem run_bytesA (h : (env P).ty t = some i) : ∃ inf, (typeInfo t).run P w = .ok inf w ∧ inf.bytes = i.bytes ∧ inf.methods = i.methods := by
  obtain ⟨inf, h1, h2, h3, h4, h5, h6, _⟩ := ty_some h
  exact ⟨inf, by simp [typeInfo, h1], h4.symm, h6.symm⟩
end typefacts

/-! ### Worlds -/
def World.setBlk (w : World) (b : Nat) (o : Obj) : World := { w with heap := w.heap.setIfInBounds b o }
theorem heap_setBlk {w : World} {b c : Nat} {o : Obj} : (World.setBlk w b o).heap[c]? = if c = b ∧ b < w.heap.size then some o else w.heap[c]? := by
  unfold World.setBlk
  simp only [Array.getElem?_setIfInBounds]
  by_cases h : b = c
  · subst h
    by_cases hb : b < w.heap.size
    · simp [hb]
    · simp [hb]
  · rw [if_neg h, if_neg (by omega)]
theorem heap_setBlk_same {w : World} {b : Nat} {o : Obj} (h : b < w.heap.size) : (World.setBlk w b o).heap[b]? = some o := by rw [heap_setBlk, if_pos ⟨rfl, h⟩]
theorem heap_setBlk_ne {w : World} {b c : Nat} {o : Obj} (h : c ≠ b) : (World.setBlk w b o).heap[c]? = w.heap[c]? := by rw [heap_setBlk, if_neg (by omega)]
@[simp] theorem size_setBlk {w : World} {b : Nat} {o : Obj} : (World.setBlk w b o).heap.size = w.heap.size := by simp [World.setBlk]
theorem setBlk_setBlk {w : World} {b : Nat} {o o' : Obj} : World.setBlk (World.setBlk w b o) b o' = World.setBlk w b o' := by simp [World.setBlk]
theorem setBlk_self {w : World} {b : Nat} {o : Obj} (h : w.heap[b]? = some o) : World.setBlk w b o = w := by
  cases w with
  | mk heap tape drawn os output =>
    simp only [World.setBlk]
    congr 1
    apply Array.ext_getElem?
    intro i
    rw [Array.getElem?_setIfInBounds]
    by_cases e : b = i
    · subst e
      obtain ⟨hlt, _⟩ := Array.getElem?_eq_some_iff.1 h
      rw [if_pos rfl, if_pos hlt]; exact h.symm
    · rw [if_neg e]
theorem lt_of_heap {w : World} {b : Nat} {o : Obj} (h : w.heap[b]? = some o) : b < w.heap.size := (Array.getElem?_eq_some_iff.1 h).1
theorem heap_alloc_old {w : World} {o : Obj} {c : Nat} (h : c < w.heap.size) : (w.alloc o).heap[c]? = w.heap[c]? := by
  show (w.heap.push o)[c]? = _
  rw [Array.getElem?_push, if_neg (by omega)]
theorem heap_alloc_new {w : World} {o : Obj} : (w.alloc o).heap[w.heap.size]? = some o := World.alloc_heap_new w o

/-- Values laid into an array, one after the other. -/
def arrSet (arr : Array Value) (off : Nat) : List Value → Array Value
  | [] => arr
  | v :: vs => arrSet (arr.setIfInBounds off v) (off + 1) vs
@[simp] theorem size_arrSet : ∀ (vs : List Value) (arr : Array Value) (off : Nat), (arrSet arr off vs).size = arr.size
  | [], _, _ => rfl
  | _ :: vs, arr, off => by rw [arrSet, size_arrSet vs]; simp
theorem get_arrSet : ∀ (vs : List Value) (arr : Array Value) (off i : Nat), off + vs.length ≤ arr.size →
    (arrSet arr off vs)[i]? = if off ≤ i then (match vs[i - off]? with | some v => some v | none => arr[i]?) else arr[i]?
  | [], arr, off, i, _ => by simp [arrSet]
  | v :: vs, arr, off, i, h => by
    simp only [List.length_cons] at h
    rw [arrSet, get_arrSet vs _ _ _ (by simp; omega)]
    by_cases h1 : off + 1 ≤ i
    · obtain ⟨d, hd⟩ : ∃ d, i - off = d + 1 := ⟨i - off - 1, by omega⟩
      rw [if_pos h1, if_pos (by omega), hd, show i - (off + 1) = d from by omega, List.getElem?_cons_succ, Array.getElem?_setIfInBounds, if_neg (by omega)]
    · rw [if_neg h1]
      by_cases h2 : off ≤ i
      · have : i = off := by omega
        subst this
        rw [if_pos (Nat.le_refl _), Nat.sub_self, Array.getElem?_setIfInBounds, if_pos rfl, if_pos (by omega)]; rfl
      · rw [if_neg h2, Array.getElem?_setIfInBounds, if_neg (by omega)]

theorem Addr.add_none (b o n : Nat) : (⟨b, o, none⟩ : Addr).add n = ⟨b, o + n, none⟩ := by
  unfold Addr.add
  split
  · rename_i h; subst h; simp
  · rfl
theorem one1_oneCell {v : Value} (h : one1 v = true) : v.oneCell' = true := by
  cases v <;> first | rfl | (simp [one1] at h)
theorem VR.one1 {ι : Inj} {v u : Value} (h : VR ι v u) : one1 v = one1 u := by cases h <;> rfl
theorem VRs.one1 {ι : Inj} : ∀ {l l' : List Value}, VRs ι l l' → l.all Dust.one1 = l'.all Dust.one1
  | _, _, .nil => rfl
  | _, _, .cons h t => by simp [h.one1, t.one1]

theorem run_storeCells : ∀ (vs : List Value) (w : World) (b o i : Nat) (arr : Array Value) (e : TypeId), w.heap[b]? = some (.cells arr e (0, 0)) → vs.all one1 = true →
    o + i + vs.length ≤ arr.size → (storeCells ⟨b, o, none⟩ vs i).run P w = .ok () (World.setBlk w b (.cells (arrSet arr (o + i) vs) e (0, 0)))
  | [], w, b, o, i, arr, e, h, _, _ => by
    simp only [storeCells, arrSet, Sem.run_pure]
    rw [setBlk_self h]
  | v :: vs, w, b, o, i, arr, e, h, h1, h2 => by
    simp only [List.all_cons, Bool.and_eq_true] at h1
    simp only [List.length_cons] at h2
    have hc : w.cell? ⟨b, o + i, none⟩ = some arr[o + i] := by
      simp [World.cell?, h, show o + i < arr.size from by omega]
    have hf : w.frozen? ⟨b, o + i, none⟩ = false := by simp [World.frozen?, h]
    have hset : w.setCell ⟨b, o + i, none⟩ v = World.setBlk w b (.cells (arr.setIfInBounds (o + i) v) e (0, 0)) := by
      unfold World.setCell World.setBlk
      congr 1
      apply Array.ext_getElem?
      intro j
      rw [Array.getElem?_setIfInBounds, Array.getElem?_modify]
      by_cases ej : b = j
      · subst ej
        rw [if_pos rfl, if_pos rfl, if_pos (lt_of_heap h), h]
        simp
      · simp [ej]
    have hst : (Go.store ((⟨b, o, none⟩ : Addr).add i) v).run P w = .ok () (World.setBlk w b (.cells (arr.setIfInBounds (o + i) v) e (0, 0))) := by
      rw [Addr.add_none, ← hset]
      rw [run_store P w _ v _ (one1_oneCell h1.1)]
      simp [hc, hf]
    simp only [storeCells, Sem.run_bind, hst, Result.andThen_ok]
    rw [run_storeCells vs _ b o (i + 1) (arr.setIfInBounds (o + i) v) e (heap_setBlk_same (lt_of_heap h)) h1.2 (by simp; omega), setBlk_setBlk]
    simp only [arrSet, show o + (i + 1) = o + i + 1 from by omega]

theorem run_loadCellsFrom : ∀ (k : Nat) (w : World) (b o i : Nat) (arr : Array Value) (e : TypeId) (fz : Nat × Nat) (acc : Array Value), w.heap[b]? = some (.cells arr e fz) →
    o + i + k ≤ arr.size → (loadCellsFrom ⟨b, o, none⟩ i k acc).run P w = .ok (acc ++ ((arr.toList.drop (o + i)).take k).toArray) w
  | 0, w, b, o, i, arr, e, fz, acc, h, hk => by simp [loadCellsFrom]
  | k + 1, w, b, o, i, arr, e, fz, acc, h, hk => by
    have hc : w.cell? ⟨b, o + i, none⟩ = some arr[o + i] := by
      simp [World.cell?, h, show o + i < arr.size from by omega]
    simp only [loadCellsFrom, Sem.run_bind, Addr.add_none]
    have hl : (load ⟨b, o + i, none⟩).run P w = .ok arr[o + i] w := by simp [load, Sem.run, hc]
    rw [hl]
    simp only [Result.andThen_ok]
    rw [run_loadCellsFrom k w b o (i + 1) arr e fz _ h (by omega)]
    congr 1
    rw [List.drop_eq_getElem_cons (i := o + i) (by simp; omega), List.take_succ_cons]
    apply Array.toList_inj.1
    simp [show o + (i + 1) = o + i + 1 from by omega]
theorem run_loadCells {k : Nat} {w : World} {b o : Nat} {arr : Array Value} {e : TypeId} {fz : Nat × Nat} (h : w.heap[b]? = some (.cells arr e fz)) (hk : k = 0 ∨ o + k ≤ arr.size) :
    (loadCells ⟨b, o, none⟩ k).run P w = .ok ((arr.toList.drop o).take k).toArray w := by
  rcases hk with rfl | hk
  · simp [loadCells, loadCellsFrom]
  have := run_loadCellsFrom (P := P) k w b o 0 arr e fz #[] h (by omega)
  simpa [loadCells] using this

/-! ### Objects -/
structure ER (ι : Inj) (e e' : MapEntry) : Prop where
  key : VR ι e.key e'.key
  val : VR ι e.val e'.val
  born : e.born = e'.born
inductive ERs (ι : Inj) : List MapEntry → List MapEntry → Prop
  | nil : ERs ι [] []
  | cons {e e' : MapEntry} {l l' : List MapEntry} (h : ER ι e e') (t : ERs ι l l') : ERs ι (e :: l) (e' :: l')
theorem ER.mono {ι ι' : Inj} (hle : ι.le ι') {e e' : MapEntry} (h : ER ι e e') : ER ι' e e' := ⟨h.key.mono hle, h.val.mono hle, h.born⟩
theorem ERs.mono {ι ι' : Inj} (hle : ι.le ι') : ∀ {l l' : List MapEntry}, ERs ι l l' → ERs ι' l l'
  | _, _, .nil => .nil
  | _, _, .cons h t => .cons (h.mono hle) (ERs.mono hle t)

def ObjR (X : Env) (ι : Inj) (w : World) (l : Loc) : AObj → Prop
  | .cells c z n e room ro _ => ∃ arr e' fz, w.heap[l.blk]? = some (.cells arr e' fz) ∧ (ro = false → fz = (0, 0)) ∧ l.ro = ro ∧ (room = false → l.extra = 0) ∧
      (∀ ei, X.ty e = some ei → l.off + n + l.extra * ei.size ≤ arr.size) ∧ l.off + n ≤ arr.size ∧
      (∀ i, i < n → ∃ v u, cellAt c z n i = some v ∧ arr[l.off + i]? = some u ∧ VR ι v u)
  | .map es clock _ => l.ro = false ∧ l.off = 0 ∧ l.extra = 0 ∧ ∃ es', w.heap[l.blk]? = some (.map es' clock) ∧ ERs ι es es'.toList
  | .miter m since seen stepped _ => l.ro = false ∧ l.off = 0 ∧ l.extra = 0 ∧ (match m with
      | none => ∃ a b c, w.heap[l.blk]? = some (.mapIter none a b c)
      | some m => ∃ lm, ι m = some lm ∧ w.heap[l.blk]? = some (.mapIter (some lm.blk) since seen.reverse.toArray stepped))
  | .siter s pos _ => l.ro = false ∧ l.off = 0 ∧ l.extra = 0 ∧ w.heap[l.blk]? = some (.stringIter s pos)
  | .loop st pend t nt ps as bd _ => l.ro = false ∧ l.off = 0 ∧ l.extra = 0 ∧ okCode nt as = true ∧ okCode nt bd = true ∧ ps.toList.all (fun p => decide (p < nt)) = true ∧
      ∃ r : Loop, w.heap[l.blk]? = some (.loop r) ∧ r.state = st ∧ r.pending = pend ∧ r.params = ps ∧ r.assign = as ∧ r.body = bd ∧ r.tmps.size = nt ∧
        (∀ i, i < nt → VR ι ((t.get i).getD undef) (r.tmps.getD i undef))
  | .dead => True

theorem ObjR.mono {X : Env} {ι ι' : Inj} {w w' : World} {l : Loc} (hle : ι.le ι') (hw : w'.heap[l.blk]? = w.heap[l.blk]?) : ∀ {o : AObj}, ObjR X ι w l o → ObjR X ι' w' l o
  | .cells .., h => by
    obtain ⟨arr, e', fz, h1, h2, h3, h4, h5, h6, h7⟩ := h
    exact ⟨arr, e', fz, hw.trans h1, h2, h3, h4, h5, h6, fun i hi => let ⟨v, u, a, b, c⟩ := h7 i hi; ⟨v, u, a, b, c.mono hle⟩⟩
  | .map .., h => by
    obtain ⟨h0, h1, h2, es', h3, h4⟩ := h
    exact ⟨h0, h1, h2, es', hw.trans h3, h4.mono hle⟩
  | .miter none .., h => by
    obtain ⟨h0, h1, h2, a, b, c, h3⟩ := h
    exact ⟨h0, h1, h2, a, b, c, hw.trans h3⟩
  | .miter (some m) .., h => by
    obtain ⟨h0, h1, h2, lm, h3, h4⟩ := h
    exact ⟨h0, h1, h2, lm, hle _ _ h3, hw.trans h4⟩
  | .siter .., h => ⟨h.1, h.2.1, h.2.2.1, hw.trans h.2.2.2⟩
  | .loop .., h => by
    obtain ⟨h0, h1, h2, h3, h4, h4', r, h5, h6, h7, h8, h9, h10, h11, h12⟩ := h
    exact ⟨h0, h1, h2, h3, h4, h4', r, hw.trans h5, h6, h7, h8, h9, h10, h11, fun i hi => (h12 i hi).mono hle⟩
  | .dead, _ => trivial

def Own (ι : Inj) (H : Look) (c : Nat) : Prop := ∃ b o l, H b = some o ∧ o.isDead = false ∧ ι b = some l ∧ l.ro = false ∧ l.blk = c

/-- THE TIE. -/
structure R (X : Env) (ι : Inj) (H : Look) (n : Nat) (w : World) : Prop where
  even : ∀ b, ι (2 * b) = some ⟨b, 0, 0, true⟩
  odd : n % 2 = 1
  fresh : ∀ b, n ≤ b → b % 2 = 1 → ι b = none
  inb : ∀ b l, ι b = some l → l.ro = false → l.blk < w.heap.size
  obj : ∀ b o, H b = some o → o.isDead = false → ∃ l, ι b = some l ∧ ObjR X ι w l o
  inj : ∀ b b' o o' l l', H b = some o → o.isDead = false → H b' = some o' → o'.isDead = false → ι b = some l → ι b' = some l' → l.ro = false → l.blk = l'.blk → b = b'

/-- What a run may do: it makes names and memory, and writes what lives and is ours. -/
structure Ext (ι : Inj) (H : Look) (n : Nat) (w : World) (ι' : Inj) (H' : Look) (n' : Nat) (w' : World) : Prop where
  le : ι.le ι'
  new : ∀ b, ι b = none → (b < n ∨ n' ≤ b) → ι' b = none
  nxt : n ≤ n'
  os : w'.os = w.os
  tape : w'.tape = w.tape
  output : w'.output = w.output
  size : w.heap.size ≤ w'.heap.size
  keep : ∀ c, c < w.heap.size → ¬ Own ι H c → w'.heap[c]? = w.heap[c]?
  own : ∀ c, Own ι' H' c → Own ι H c ∨ w.heap.size ≤ c

section
variable {X : Env} {ι ι' ι'' : Inj} {H H' H'' : Look} {n n' n'' : Nat} {w w' w'' : World}
theorem Ext.refl : Ext ι H n w ι H n w := ⟨Inj.le_refl _, fun _ h _ => h, Nat.le_refl _, rfl, rfl, rfl, Nat.le_refl _, fun _ _ _ => rfl, fun _ h => .inl h⟩
theorem Ext.trans (h : Ext ι H n w ι' H' n' w') (k : Ext ι' H' n' w' ι'' H'' n'' w'') : Ext ι H n w ι'' H'' n'' w'' :=
  ⟨Inj.le_trans h.le k.le, fun b hb hn => k.new b (h.new b hb (by have := k.nxt; omega)) (by have := h.nxt; omega), Nat.le_trans h.nxt k.nxt,
   k.os.trans h.os, k.tape.trans h.tape, k.output.trans h.output, Nat.le_trans h.size k.size,
   fun c hc ho => (k.keep c (Nat.lt_of_lt_of_le hc h.size) (fun ho' => (h.own c ho').elim ho (by omega))).trans (h.keep c hc ho),
   fun c ho => (k.own c ho).elim (h.own c) (fun hs => .inr (Nat.le_trans h.size hs))⟩

def upd (H : Look) (b : Nat) (o : AObj) : Look := fun c => if c = b then some o else H c
theorem look_put (s : St) (b : Nat) (f : Nat → AObj) : (s.put b f).look = upd s.look b (f s.clk) := by
  funext c; simp [St.look, St.put, upd, PT.get_set]
theorem look_new (s : St) (f : Nat → AObj) : (s.new f).look = upd s.look s.next (f s.clk) := by
  funext c; simp [St.look, St.new, upd, PT.get_set]

/-- Fewer objects. -/
theorem R.fewer (h : R X ι H n w) (hs : ∀ b o, H' b = some o → o.isDead = false → H b = some o) : R X ι H' n w :=
  ⟨h.even, h.odd, h.fresh, h.inb, fun b o hb hd => h.obj b o (hs b o hb hd) hd,
   fun b b' o o' l l' hb hd hb' hd' => h.inj b b' o o' l l' (hs b o hb hd) hd (hs b' o' hb' hd') hd'⟩

/-- The world only drew. -/
theorem R.drew (h : R X ι H n w) (hh : w'.heap = w.heap) : R X ι H n w' :=
  ⟨h.even, h.odd, h.fresh, fun b l hb hr => hh ▸ h.inb b l hb hr, fun b o hb hd => let ⟨l, h1, h2⟩ := h.obj b o hb hd; ⟨l, h1, h2.mono (Inj.le_refl _) (by rw [hh])⟩, h.inj⟩

/-- An object of ours turned. -/
theorem R.put (h : R X ι H n w) {b : Nat} {o : AObj} {l : Loc} (hb : H b = some o) (hd : o.isDead = false) (hl : ι b = some l) (hro : l.ro = false) (x : Obj) {o' : AObj}
    (ho : ObjR X ι (World.setBlk w l.blk x) l o') : R X ι (upd H b o') n (World.setBlk w l.blk x) := by
  refine ⟨h.even, h.odd, h.fresh, fun b l hb hr => by rw [size_setBlk]; exact h.inb b l hb hr, ?_, ?_⟩
  · intro c oc hc hdc
    unfold upd at hc
    split at hc
    · rename_i e
      subst e
      cases hc
      exact ⟨l, hl, ho⟩
    · rename_i e
      obtain ⟨lc, h1, h2⟩ := h.obj c oc hc hdc
      refine ⟨lc, h1, h2.mono (Inj.le_refl _) (heap_setBlk_ne ?_)⟩
      intro he
      exact e (h.inj b c o oc l lc hb hd hc hdc hl h1 hro he.symm).symm
  · intro c c' oc oc' lc lc' hc hdc hc' hdc' h1 h2 hr he
    have key : ∀ d od, upd H b o' d = some od → od.isDead = false → ∃ od', H d = some od' ∧ od'.isDead = false := by
      intro d od hd1 hd2
      unfold upd at hd1
      split at hd1
      · rename_i e; subst e; exact ⟨o, hb, hd⟩
      · exact ⟨od, hd1, hd2⟩
    obtain ⟨x1, hx1, hx2⟩ := key c oc hc hdc
    obtain ⟨y1, hy1, hy2⟩ := key c' oc' hc' hdc'
    exact h.inj c c' x1 y1 lc lc' hx1 hx2 hy1 hy2 h1 h2 hr he
theorem Ext.put {b : Nat} {o : AObj} {l : Loc} (hb : H b = some o) (hd : o.isDead = false) (hl : ι b = some l) (hro : l.ro = false) (x : Obj) (o' : AObj) :
    Ext ι H n w ι (upd H b o') n (World.setBlk w l.blk x) := by
  refine ⟨Inj.le_refl _, fun _ h _ => h, Nat.le_refl _, rfl, rfl, rfl, by simp, ?_, ?_⟩
  · intro c hc ho
    exact heap_setBlk_ne fun e => ho ⟨b, o, l, hb, hd, hl, hro, e.symm⟩
  · rintro c ⟨d, od, ld, h1, h2, h3, h4, h5⟩
    unfold upd at h1
    split at h1
    · rename_i e
      subst e
      exact .inl ⟨d, o, l, hb, hd, hl, hro, by rw [hl] at h3; cases h3; exact h5⟩
    · exact .inl ⟨d, od, ld, h1, h2, h3, h4, h5⟩

/-- The names, with one more. -/
def Inj.add (ι : Inj) (n : Nat) (l : Loc) : Inj := fun b => if b = n then some l else ι b
theorem Inj.add_same (ι : Inj) (n : Nat) (l : Loc) : ι.add n l n = some l := by simp [Inj.add]
theorem Inj.le_add {l : Loc} (h : ι n = none) : ι.le (ι.add n l) := by
  intro b x hb
  unfold Inj.add
  split
  · rename_i e; subst e; rw [h] at hb; cases hb
  · exact hb

/-- A new object, in a new block, by a name that is free. -/
theorem R.newAt {ex : Nat} (h : R X ι H n w) (nm n' : Nat) (hfree : ι nm = none) (hodd : nm % 2 = 1) (hn : n ≤ n') (hn' : n' % 2 = 1) (hlt : nm < n') (x : Obj) {o' : AObj}
    (ho : ObjR X (ι.add nm ⟨w.heap.size, 0, ex, false⟩) (w.alloc x) ⟨w.heap.size, 0, ex, false⟩ o') :
    R X (ι.add nm ⟨w.heap.size, 0, ex, false⟩) (upd H nm o') n' (w.alloc x) := by
  have hle : ι.le (ι.add nm ⟨w.heap.size, 0, ex, false⟩) := Inj.le_add hfree
  refine ⟨?_, hn', ?_, ?_, ?_, ?_⟩
  · intro b
    unfold Inj.add
    rw [if_neg (by omega)]
    exact h.even b
  · intro b hb hb2
    unfold Inj.add
    rw [if_neg (by omega)]
    exact h.fresh b (by omega) hb2
  · intro b l hb hr
    unfold Inj.add at hb
    split at hb
    · cases hb; simp
    · have := h.inb b l hb hr; simp; omega
  · intro c oc hc hdc
    unfold upd at hc
    split at hc
    · rename_i e
      subst e
      cases hc
      exact ⟨_, Inj.add_same _ _ _, ho⟩
    · obtain ⟨lc, h1, h2⟩ := h.obj c oc hc hdc
      refine ⟨lc, hle _ _ h1, h2.mono hle ?_⟩
      by_cases hlt' : lc.blk < w.heap.size
      · exact heap_alloc_old hlt'
      · -- only what is not ours can lie beyond: nothing lies there
        exfalso
        cases oc with
        | cells => obtain ⟨_, _, _, h3, _⟩ := h2; exact hlt' (lt_of_heap h3)
        | map => obtain ⟨_, _, _, _, h3, _⟩ := h2; exact hlt' (lt_of_heap h3)
        | miter m =>
          cases m with
          | none => obtain ⟨_, _, _, _, _, _, h3⟩ := h2; exact hlt' (lt_of_heap h3)
          | some m => obtain ⟨_, _, _, _, _, h3⟩ := h2; exact hlt' (lt_of_heap h3)
        | siter => exact hlt' (lt_of_heap h2.2.2.2)
        | loop => obtain ⟨_, _, _, _, _, _, _, h3, _⟩ := h2; exact hlt' (lt_of_heap h3)
        | dead => cases hdc
  · have hblk : ∀ d od ld, H d = some od → od.isDead = false → ι d = some ld → ld.blk < w.heap.size := by
      intro d od ld h1 h2 h3
      obtain ⟨l', h4, h5⟩ := h.obj d od h1 h2
      rw [h3] at h4; cases h4
      cases od with
      | cells => obtain ⟨_, _, _, h3, _⟩ := h5; exact lt_of_heap h3
      | map => obtain ⟨_, _, _, _, h3, _⟩ := h5; exact lt_of_heap h3
      | miter m =>
        cases m with
        | none => obtain ⟨_, _, _, _, _, _, h3⟩ := h5; exact lt_of_heap h3
        | some m => obtain ⟨_, _, _, _, _, h3⟩ := h5; exact lt_of_heap h3
      | siter => exact lt_of_heap h5.2.2.2
      | loop => obtain ⟨_, _, _, _, _, _, _, h3, _⟩ := h5; exact lt_of_heap h3
      | dead => cases h2
    intro c c' oc oc' lc lc' hc hdc hc' hdc' h1 h2 hr he
    unfold upd at hc hc'
    unfold Inj.add at h1 h2
    by_cases e1 : c = nm <;> by_cases e2 : c' = nm
    · rw [e1, e2]
    · rw [if_pos e1] at h1
      rw [if_neg e2] at h2 hc'
      cases h1
      have := hblk c' oc' lc' hc' hdc' h2
      simp only at he; omega
    · rw [if_neg e1] at h1 hc
      rw [if_pos e2] at h2
      cases h2
      have := hblk c oc lc hc hdc h1
      simp only at he; omega
    · rw [if_neg e1] at h1 hc
      rw [if_neg e2] at h2 hc'
      exact h.inj c c' oc oc' lc lc' hc hdc hc' hdc' h1 h2 hr he
theorem Ext.newAt {ex : Nat} (nm n' : Nat) (hfree : ι nm = none) (hnm : n ≤ nm) (hn : n ≤ n') (hlt : nm < n') (x : Obj) (o' : AObj) :
    Ext ι H n w (ι.add nm ⟨w.heap.size, 0, ex, false⟩) (upd H nm o') n' (w.alloc x) := by
  refine ⟨Inj.le_add hfree, ?_, hn, rfl, rfl, rfl, by simp, fun c hc _ => heap_alloc_old hc, ?_⟩
  · intro b hb' hb2
    unfold Inj.add
    rw [if_neg (by omega)]
    exact hb'
  · rintro c ⟨d, od, ld, h1, h2, h3, h4, h5⟩
    unfold upd at h1
    unfold Inj.add at h3
    split at h1
    · rename_i e
      rw [if_pos e] at h3
      cases h3
      exact .inr (by simp only at h5; omega)
    · rename_i e
      rw [if_neg e] at h3
      exact .inl ⟨d, od, ld, h1, h2, h3, h4, h5⟩
end
end Go.Dust
