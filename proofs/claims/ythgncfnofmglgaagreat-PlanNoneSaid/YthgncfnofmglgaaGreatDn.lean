/- Code, calls, rounds. -/
import Derived.Test.YthgncfnofmglgaaGreatDm
import Derived.RangeFuncNested
namespace Go.Dust
variable {P : Program} {ι ι' : Inj} {s s' : St} {w w' : World}

def AExit.to : AExit → Exit
  | .normal => .normal
  | .exit i => .exit i
  | .ret => .ret

def RoundAt (ι : Inj) : Option Nat → Option Nat → Prop
  | none, none => True
  | some l, some b => ∃ loc, ι l = some loc ∧ loc.blk = b
  | _, _ => False
theorem RoundAt.mono {r r' : Option Nat} (h : RoundAt ι r r') (hle : ι.le ι') : RoundAt ι' r r' := by
  cases r <;> cases r' <;> simp only [RoundAt] at h ⊢
  obtain ⟨loc, h1, h2⟩ := h
  exact ⟨loc, hle _ _ h1, h2⟩

/-! ### Blocks that are nobody's -/
theorem ObjR.not_deferred {X : Env} {l : Loc} {x : Option (List Deferred)} (hw : w.heap[l.blk]? = some (.deferred x)) : ∀ {o : AObj}, o.isDead = false → ObjR X ι w l o → False
  | .cells .., _, h => by obtain ⟨_, _, _, h1, _⟩ := h; rw [hw] at h1; cases h1
  | .map .., _, h => by obtain ⟨_, _, _, _, h1, _⟩ := h; rw [hw] at h1; cases h1
  | .miter none .., _, h => by obtain ⟨_, _, _, _, _, _, h1⟩ := h; rw [hw] at h1; cases h1
  | .miter (some _) .., _, h => by obtain ⟨_, _, _, _, _, h1⟩ := h; rw [hw] at h1; cases h1
  | .siter .., _, h => by have h1 := h.2.2.2; rw [hw] at h1; cases h1
  | .loop .., _, h => by obtain ⟨_, _, _, _, _, _, _, h1, _⟩ := h; rw [hw] at h1; cases h1
  | .dead, h, _ => by cases h
theorem ObjR.lt {X : Env} {l : Loc} : ∀ {o : AObj}, o.isDead = false → ObjR X ι w l o → l.blk < w.heap.size
  | .cells .., _, h => by obtain ⟨_, _, _, h1, _⟩ := h; exact lt_of_heap h1
  | .map .., _, h => by obtain ⟨_, _, _, _, h1, _⟩ := h; exact lt_of_heap h1
  | .miter none .., _, h => by obtain ⟨_, _, _, _, _, _, h1⟩ := h; exact lt_of_heap h1
  | .miter (some _) .., _, h => by obtain ⟨_, _, _, _, _, h1⟩ := h; exact lt_of_heap h1
  | .siter .., _, h => lt_of_heap h.2.2.2
  | .loop .., _, h => by obtain ⟨_, _, _, _, _, _, _, h1, _⟩ := h; exact lt_of_heap h1
  | .dead, h, _ => by cases h
theorem not_own {X : Env} {H : Look} {n : Nat} (hR : R X ι H n w) {D : Nat} {x : Option (List Deferred)} (hw : w.heap[D]? = some (.deferred x)) : ¬ Own ι H D := by
  rintro ⟨b, o, l, h1, h2, h3, h4, rfl⟩
  obtain ⟨l', h5, h6⟩ := hR.obj b o h1 h2
  rw [h3] at h5; cases h5
  exact h6.not_deferred hw h2
theorem R.raw {X : Env} {H : Look} {n : Nat} (hR : R X ι H n w) (x : Obj) : R X ι H n (w.alloc x) := by
  refine ⟨hR.even, hR.odd, hR.fresh, fun b l hb hr => by have := hR.inb b l hb hr; simp; omega, fun b o hb hd => ?_, hR.inj⟩
  obtain ⟨l, h1, h2⟩ := hR.obj b o hb hd
  exact ⟨l, h1, h2.mono (Inj.le_refl _) (heap_alloc_old (h2.lt hd))⟩
theorem Ext.raw {H : Look} {n : Nat} (x : Obj) : Ext ι H n w ι H n (w.alloc x) :=
  ⟨Inj.le_refl _, fun _ h _ => h, Nat.le_refl _, rfl, rfl, rfl, by simp, fun c hc _ => heap_alloc_old hc, fun _ h => .inl h⟩
theorem R.shut {X : Env} {H : Look} {n : Nat} (hR : R X ι H n w) {D : Nat} {x : Option (List Deferred)} (hw : w.heap[D]? = some (.deferred x)) (y : Obj) : R X ι H n (World.setBlk w D y) := by
  refine ⟨hR.even, hR.odd, hR.fresh, fun b l hb hr => by have := hR.inb b l hb hr; simpa using this, fun b o hb hd => ?_, hR.inj⟩
  obtain ⟨l, h1, h2⟩ := hR.obj b o hb hd
  refine ⟨l, h1, h2.mono (Inj.le_refl _) (heap_setBlk_ne fun e => ?_)⟩
  subst e
  exact h2.not_deferred hw hd
theorem Ext.over {H H' : Look} {n n' : Nat} (h : Ext ι H n w ι' H' n' w') {D : Nat} (hD : w.heap.size ≤ D) (y : Obj) : Ext ι H n w ι' H' n' (World.setBlk w' D y) :=
  ⟨h.le, h.new, h.nxt, h.os, h.tape, h.output, by simpa using h.size, fun c hc ho => (heap_setBlk_ne (by omega)).trans (h.keep c hc ho), h.own⟩

/-! ### Marks, with a floor -/
def DL (lo : Nat) (ι : Inj) (H : Look) (w : World) (ds : List Deferred) : Prop :=
  DR ι H w ds ∧ ∀ d ∈ ds, ∀ D, d.target = .collected D → lo ≤ D
theorem DL.ext {lo : Nat} {H H' : Look} {n n' : Nat} {ds : List Deferred} (h : DL lo ι H w ds) (he : Ext ι H n w ι' H' n' w') : DL lo ι' H' w' ds := ⟨h.1.ext he, h.2⟩
theorem DL.nil (lo : Nat) (H : Look) : DL lo ι H w [] := ⟨.nil H, by simp⟩

theorem leaves_marks {fn : Func} {tmps : Array Value} {m lo : Nat} {Rr : Ending → World → Prop} {w0 : World} {ι0 : Inj} {s0 : St} : ∀ (ds : List Deferred) (w : World), RS P ι s w → ES ι0 s0 w0 ι s w → w0.heap.size ≤ lo → DL lo ι s.look w ds →
    (∀ w', RS P ι s w' → ES ι0 s0 w0 ι s w' → LeavesIn (FW none) m P fn tmps Rr [] .returning w') → LeavesInM (FW none) m P fn tmps Rr ds .returning w
  | [], w, hR, hE, _, _, h => h w hR hE
  | d :: ds, w, hR, hE, hlo, hD, h => by
    obtain ⟨D, rfl, h2, h3⟩ := hD.1.mark d (by simp)
    have hloD := hD.2 _ (List.mem_cons_self ..) D rfl
    refine ⟨by simp, .inl ⟨D, World.setBlk w D (.deferred none), rfl, run_takeDeferred h2, ?_⟩⟩
    refine leaves_marks ds _ (hR.shut h2 _) (hE.over (Nat.le_trans hlo hloD) _) hlo ⟨⟨fun e he => ?_, (List.pairwise_cons.1 hD.1.apart).2⟩, fun e he => hD.2 e (List.mem_cons_of_mem _ he)⟩ h
    obtain ⟨E, rfl, k2, k3⟩ := hD.1.mark e (List.mem_cons_of_mem _ he)
    have hne : E ≠ D := fun x => (List.pairwise_cons.1 hD.1.apart).1 _ he D rfl (by rw [x])
    exact ⟨E, rfl, (heap_setBlk_ne hne).trans k2, k3⟩

/-! ### Results -/
theorem results1_sound {fn : Func} {a : ACt} {act : Act} (ha : AR ι a act) (hR : RS P ι s w) : ∀ (rs : List ResultVar) (l : List Value), okResults a.nt rs = true → results1 (env P) s.look a rs = some l →
    ∃ us, ((rs.mapM fun
      | .tmp t => pure (act.tmps.getD t undef)
      | .cell x t => do loadVar t (← asAddr (act.tmps.getD x undef)) : Sem (List Value))).run P w = .ok us w ∧ VRs ι l us
  | [], l, _, h => by
    simp only [results1, Option.some.injEq] at h
    subst h
    exact ⟨[], rfl, .nil⟩
  | .tmp t :: rest, l, hok, h => by
    simp only [okResults, List.all_cons, Bool.and_eq_true, decide_eq_true_eq] at hok
    simp only [results1] at h
    split at h
    · rename_i l' hl'
      cases h
      obtain ⟨us, h1, h2⟩ := results1_sound (fn := fn) ha hR rest l' hok.2 hl'
      refine ⟨_ :: us, ?_, .cons (ha.val t hok.1) h2⟩
      simp only [List.mapM_cons, Sem.run_bind, Sem.run_pure, Result.andThen_ok]
      erw [h1]
      rfl
    · cases h
  | .cell t ty :: rest, l, hok, h => by
    simp only [okResults, List.all_cons, Bool.and_eq_true, decide_eq_true_eq] at hok
    simp only [results1] at h
    split at h
    · rename_i ad had
      have hv := ha.val t hok.1
      rw [had] at hv
      split at h
      · rename_i v l' hv' hl'
        cases h
        obtain ⟨us, h1, h2⟩ := results1_sound (fn := fn) ha hR rest l' hok.2 hl'
        generalize hu : act.tmps.getD t undef = u at hv
        cases hv with
        | ptr hb =>
        obtain ⟨x, g1, g2⟩ := loadT_sound hR hb hv'
        refine ⟨x :: us, ?_, .cons g2 h2⟩
        simp only [List.mapM_cons, Sem.run_bind, hu, asAddr, Sem.run_pure, Result.andThen_ok, g1]
        erw [h1]
        rfl
      · cases h
    · cases h
theorem results_sound {fn : Func} {a : ACt} {act : Act} (ha : AR ι a act) (hR : RS P ι s w) (hok : okResults a.nt fn.results.toList = true) {v : Value} (h : resultsA (env P) s.look fn a = some v) :
    ∃ u, (results fn act.tmps).run P w = .ok u w ∧ VR ι v u := by
  unfold resultsA at h
  have key : ∀ l, results1 (env P) s.look a fn.results.toList = some l → ∃ us, (results fn act.tmps).run P w = .ok (if h : us.toArray.size = 1 then us.toArray[0] else .tuple us.toArray) w ∧ VRs ι l us := by
    intro l hl
    obtain ⟨us, h1, h2⟩ := results1_sound (fn := fn) ha hR _ l hok hl
    refine ⟨us, ?_, h2⟩
    unfold results
    rw [Array.mapM_eq_mapM_toList]
    simp only [map_eq_pure_bind, Sem.run_bind]
    erw [h1]
    rfl
  split at h
  · rename_i v0 hv
    cases h
    obtain ⟨us, h1, h2⟩ := key _ hv
    cases h2 with | cons h2 h3 => cases h3; exact ⟨_, h1, h2⟩
  · rename_i l hne hl
    cases h
    obtain ⟨us, h1, h2⟩ := key _ hl
    have hlen : us.toArray.size ≠ 1 := by
      intro e
      have : l.length = 1 := by rw [h2.length]; simpa using e
      match l, this with
      | [x], _ => exact hne x rfl
    rw [dif_neg hlen] at h1
    exact ⟨_, h1, .tuple (by simpa using h2.length) (fun i x y hx hy => h2.get i (by simpa using hx) (by simpa using hy))⟩
  · cases h
end Go.Dust
