/- Eb Ec Ed Ee Ef Eg Eh -/
import Derived.Test.YtelmjodchophjaaGreatDoorE
import Derived.Lib.ItoaNum
set_option linter.unusedVariables false
set_option linter.unusedSimpArgs false
section
/- What is shown of a run of D: with some fuel every way ends well. One rule a form. -/
namespace Go.Dust

/-- Every way ends well; with q = false: there is one way. -/
def Res.AllQ {α : Type} (q : Bool) (Φ : α → Prop) : Res α → Prop
  | .fail _ => False
  | .ret a => Φ a
  | .ask n k => q = true ∧ ∀ i, i < n → (k i).AllQ q Φ
theorem Res.AllQ.mono {α : Type} {q : Bool} {Φ Ψ : α → Prop} (h : ∀ a, Φ a → Ψ a) : ∀ {x : Res α}, x.AllQ q Φ → x.AllQ q Ψ
  | .fail _, hx => hx
  | .ret _, hx => h _ hx
  | .ask _ _, hx => ⟨hx.1, fun i hi => Res.AllQ.mono h (hx.2 i hi)⟩
theorem Res.AllQ_bind {α β : Type} {q : Bool} (f : α → Res β) (Φ : β → Prop) : ∀ (x : Res α), (x.bind f).AllQ q Φ ↔ x.AllQ q fun a => (f a).AllQ q Φ
  | .fail _ => Iff.rfl
  | .ret _ => Iff.rfl
  | .ask _ k => ⟨fun h => ⟨h.1, fun i hi => (Res.AllQ_bind f Φ (k i)).1 (h.2 i hi)⟩, fun h => ⟨h.1, fun i hi => (Res.AllQ_bind f Φ (k i)).2 (h.2 i hi)⟩⟩
theorem Res.AllQ_all {α : Type} {q : Bool} {Φ : α → Prop} : ∀ {x : Res α}, x.AllQ q Φ → x.All Φ
  | .fail _, h => h
  | .ret _, h => h
  | .ask _ _, h => fun i hi => Res.AllQ_all (h.2 i hi)
theorem Res.AllQ_false {α : Type} {Φ : α → Prop} : ∀ {x : Res α}, x.AllQ false Φ → ∃ a, x = .ret a ∧ Φ a
  | .fail _, h => h.elim
  | .ret a, h => ⟨a, rfl, h⟩
  | .ask _ _, h => by cases h.1
theorem Res.AllQ_true {α : Type} {Φ : α → Prop} {q : Bool} : ∀ {x : Res α}, x.AllQ false Φ → x.AllQ q Φ
  | .fail _, h => h
  | .ret _, h => h
  | .ask _ _, h => by cases h.1
theorem Res.AllQ_and {α : Type} {q : Bool} {Φ Ψ : α → Prop} : ∀ {x : Res α}, x.AllQ q Φ → x.Lv Ψ → x.AllQ q fun a => Φ a ∧ Ψ a
  | .fail _, h, _ => h.elim
  | .ret _, h, k => ⟨h, k⟩
  | .ask _ _, h, k => ⟨h.1, fun i hi => Res.AllQ_and (h.2 i hi) (k i hi)⟩
theorem Res.le.allQ {α : Type} {q : Bool} {Φ : α → Prop} {x y : Res α} (h : Res.le x y) (hx : x.AllQ q Φ) : y.AllQ q Φ := by
  induction h with
  | fail w y => exact hx.elim
  | ret a => exact hx
  | ask n k k' h ih => exact ⟨hx.1, fun i hi => ih i (hx.2 i hi)⟩
theorem Res.AllQ_uniform {α : Type} {q : Bool} {Q : Nat → α → Prop} (hm : ∀ n a, Q n a → Q (n + 1) a) : ∀ {x : Res α}, x.AllQ q (fun a => ∃ n, Q n a) → ∃ n, x.AllQ q (Q n)
  | .fail _, h => h.elim
  | .ret a, ⟨n, h⟩ => ⟨n, h⟩
  | .ask k f, h => by
    have hm' : ∀ n m a, n ≤ m → Q n a → Q m a := by
      intro n m a hle hq
      induction hle with
      | refl => exact hq
      | step _ ih => exact hm _ _ ih
    have : ∀ j, j ≤ k → ∃ n, ∀ i, i < j → (f i).AllQ q (Q n) := by
      intro j
      induction j with
      | zero => exact fun _ => ⟨0, fun i hi => absurd hi (Nat.not_lt_zero i)⟩
      | succ j ih =>
        intro hj
        obtain ⟨n1, h1⟩ := ih (by omega)
        obtain ⟨n2, h2⟩ := Res.AllQ_uniform hm (h.2 j (by omega))
        refine ⟨max n1 n2, fun i hi => ?_⟩
        rcases Nat.lt_or_ge i j with hlt | hge
        · exact (h1 i hlt).mono fun a => hm' _ _ a (by omega)
        · obtain rfl : i = j := by omega
          exact h2.mono fun a => hm' _ _ a (by omega)
    obtain ⟨n, hn⟩ := this k (Nat.le_refl _)
    exact ⟨n, h.1, hn⟩

section
variable (q : Bool) (X : Env) (K : Orc)
def okC (r : Option Nat) (c : Code) (a : ACt) (s : St) (Φ : AExit → ACt → St → Prop) : Prop := ∃ n, (codeO X K n r c a s).AllQ q fun p => Φ p.1 p.2.1 p.2.2
def okF (f : FuncId) (args : List Value) (s : St) (Φ : Value → St → Prop) : Prop := ∃ n, (callO X K n f args s).AllQ q fun p => Φ p.1 p.2
def okR (l : Nat) (args : List Value) (s : St) (Φ : Value → St → Prop) : Prop := ∃ n, (roundO X K n l args s).AllQ q fun p => Φ p.1 p.2
def okO (ops : Array Oper) (l : List Oper) (a : ACt) (s : St) (Φ : ACt → St → Prop) : Prop := ∃ n, (runOps X (callO X K n) (roundO X K n) ops l a s).AllQ q fun p => Φ p.1 p.2
end
section
variable {q : Bool} {X : Env} {K : Orc}
theorem code_up {n m : Nat} (hnm : n ≤ m) {r c a s} {Φ : AExit × ACt × St → Prop} (h : (codeO X K n r c a s).AllQ q Φ) : (codeO X K m r c a s).AllQ q Φ := by
  induction hnm with
  | refl => exact h
  | step _ ih => exact ((fuel_le X K _).1 _ _ _ _).allQ ih
theorem call_up {n m : Nat} (hnm : n ≤ m) {f args s} {Φ : Value × St → Prop} (h : (callO X K n f args s).AllQ q Φ) : (callO X K m f args s).AllQ q Φ := by
  induction hnm with
  | refl => exact h
  | step _ ih => exact ((fuel_le X K _).2.1 _ _ _).allQ ih
theorem round_up {n m : Nat} (hnm : n ≤ m) {l args s} {Φ : Value × St → Prop} (h : (roundO X K n l args s).AllQ q Φ) : (roundO X K m l args s).AllQ q Φ := by
  induction hnm with
  | refl => exact h
  | step _ ih => exact ((fuel_le X K _).2.2 _ _ _).allQ ih
theorem runOps_up {n m : Nat} (hnm : n ≤ m) {ops l a s} {Φ : ACt × St → Prop} (h : (runOps X (callO X K n) (roundO X K n) ops l a s).AllQ q Φ) : (runOps X (callO X K m) (roundO X K m) ops l a s).AllQ q Φ := by
  induction hnm with
  | refl => exact h
  | step _ ih => exact (runOps_le (fuel_le X K _).2.1 (fuel_le X K _).2.2 _ _ _ _).allQ ih

/-! ### Code -/
theorem okC.mono {r c a s} {Φ Ψ : AExit → ACt → St → Prop} (h : okC q X K r c a s Φ) (hp : ∀ e a s, Φ e a s → Ψ e a s) : okC q X K r c a s Ψ := by
  obtain ⟨n, hn⟩ := h
  exact ⟨n, hn.mono fun p hq => hp _ _ _ hq⟩
theorem okF.mono {f args s} {Φ Ψ : Value → St → Prop} (h : okF q X K f args s Φ) (hp : ∀ v s, Φ v s → Ψ v s) : okF q X K f args s Ψ := by
  obtain ⟨n, hn⟩ := h
  exact ⟨n, hn.mono fun p hq => hp _ _ hq⟩
theorem okC.skip {r a s} {Φ : AExit → ACt → St → Prop} (h : Φ .normal a s) : okC q X K r .skip a s Φ := ⟨1, by rw [codeO]; exact h⟩
theorem okC.exit {r a s i} {Φ : AExit → ACt → St → Prop} (h : Φ (.exit i) a s) : okC q X K r (.exit i) a s Φ := ⟨1, by rw [codeO]; exact h⟩
theorem okC.ret {r a s} {Φ : AExit → ACt → St → Prop} (h : Φ .ret a s) : okC q X K r .ret a s Φ := ⟨1, by rw [codeO]; exact h⟩
theorem okC.seq {r x y a s} {Φ : AExit → ACt → St → Prop} (h : okC q X K r x a s fun e a s => match e with
    | .normal => okC q X K r y a s Φ
    | e => Φ e a s) : okC q X K r (.seq x y) a s Φ := by
  obtain ⟨n, hn⟩ := h
  obtain ⟨m, hm⟩ := Res.AllQ_uniform (Q := fun m (p : AExit × ACt × St) => match p.1 with
      | .normal => (codeO X K m r y p.2.1 p.2.2).AllQ q fun p => Φ p.1 p.2.1 p.2.2
      | e => Φ e p.2.1 p.2.2) (fun m p hq => by
        rcases p with ⟨e, a, s⟩
        cases e with
        | normal => exact code_up (Nat.le_succ m) hq
        | _ => exact hq) (hn.mono fun p hq => by
        rcases p with ⟨e, a, s⟩
        cases e with
        | normal => exact hq
        | _ => exact ⟨0, hq⟩)
  refine ⟨max n m + 1, ?_⟩
  rw [codeO, Res.AllQ_bind]
  refine (code_up (Nat.le_max_left n m) hm).mono fun p hq => ?_
  rcases p with ⟨e, a, s⟩
  cases e with
  | normal => exact code_up (Nat.le_max_right n m) hq
  | _ => exact hq
theorem okC.cond {r c x y a s b} {Φ : AExit → ACt → St → Prop} (hb : a.eval c = .bool b) (h : okC q X K r (if b = true then x else y) a s Φ) : okC q X K r (.cond c x y) a s Φ := by
  obtain ⟨n, hn⟩ := h
  refine ⟨n + 1, ?_⟩
  rw [codeO, hb]
  cases b <;> exact hn
theorem okC.block {r id b a s} {Φ : AExit → ACt → St → Prop} (h : okC q X K r b a s fun e a s => match e with
    | .exit i => if i = id then Φ .normal a s else Φ (.exit i) a s
    | e => Φ e a s) : okC q X K r (.block id b) a s Φ := by
  obtain ⟨n, hn⟩ := h
  refine ⟨n + 1, ?_⟩
  rw [codeO, Res.AllQ_bind]
  refine hn.mono fun p hq => ?_
  rcases p with ⟨e, a, s⟩
  cases e with
  | exit i =>
    simp only at hq ⊢
    split
    · rename_i hi
      rw [if_pos hi] at hq; exact hq
    · rename_i hi
      rw [if_neg hi] at hq; exact hq
  | _ => exact hq
theorem okC.unroll {r b a s} {Φ : AExit → ACt → St → Prop} (h : okC q X K r b a s fun e a s => match e with
    | .normal => okC q X K r (.loop b) a s Φ
    | e => Φ e a s) : okC q X K r (.loop b) a s Φ := by
  obtain ⟨n, hn⟩ := h
  obtain ⟨m, hm⟩ := Res.AllQ_uniform (Q := fun m (p : AExit × ACt × St) => match p.1 with
      | .normal => (codeO X K m r (.loop b) p.2.1 p.2.2).AllQ q fun p => Φ p.1 p.2.1 p.2.2
      | e => Φ e p.2.1 p.2.2) (fun m p hq => by
        rcases p with ⟨e, a, s⟩
        cases e with
        | normal => exact code_up (Nat.le_succ m) hq
        | _ => exact hq) (hn.mono fun p hq => by
        rcases p with ⟨e, a, s⟩
        cases e with
        | normal => exact hq
        | _ => exact ⟨0, hq⟩)
  refine ⟨max n m + 1, ?_⟩
  rw [codeO, Res.AllQ_bind]
  refine (code_up (Nat.le_max_left n m) hm).mono fun p hq => ?_
  rcases p with ⟨e, a, s⟩
  cases e with
  | normal => exact code_up (Nat.le_max_right n m) hq
  | _ => exact hq
/-- A loop: what holds at the head of each round, by a number that falls. -/
theorem okC.loop {r b} {Φ : AExit → ACt → St → Prop} (I : Nat → ACt → St → Prop) (hI : ∀ k a s, I k a s → okC q X K r b a s fun e a s => match e with
    | .normal => ∃ j, j < k ∧ I j a s
    | e => Φ e a s) : ∀ (k : Nat) {a : ACt} {s : St}, I k a s → okC q X K r (.loop b) a s Φ := by
  intro k
  induction k using Nat.strongRecOn with
  | _ k ih =>
    intro a s h
    refine .unroll ((hI k a s h).mono fun e a s hq => ?_)
    cases e with
    | normal =>
      obtain ⟨j, hj, hk⟩ := hq
      exact ih j hj hk
    | _ => exact hq
theorem okC.region {r id ops a s} {Φ : AExit → ACt → St → Prop} (h : okO q X K ops ops.toList a s (Φ .normal)) : okC q X K r (.region id ops false) a s Φ := by
  obtain ⟨n, hn⟩ := h
  refine ⟨n + 1, ?_⟩
  rw [codeO, Res.AllQ_bind]
  exact hn

/-! ### Operations -/
theorem okO.nil {ops a s} {Φ : ACt → St → Prop} (h : Φ a s) : okO q X K ops [] a s Φ := ⟨0, h⟩
theorem okO.skip {ops o l a s} {Φ : ACt → St → Prop} (hw : Region.wanted o (yieldedA ops a) = false) (h : okO q X K ops l (a.put o.dst undef) s Φ) : okO q X K ops (o :: l) a s Φ := by
  obtain ⟨n, hn⟩ := h
  refine ⟨n, ?_⟩
  rw [runOps, if_neg (by rw [hw]; simp)]
  exact hn
theorem okO.still {ops o l a s v} {Φ : ACt → St → Prop} (hw : Region.wanted o (yieldedA ops a) = true) (hk : kindOf o.op = .still) (hv : stillA X s.look a.eval o.op = some v)
    (h : okO q X K ops l (a.put o.dst v) s Φ) : okO q X K ops (o :: l) a s Φ := by
  obtain ⟨n, hn⟩ := h
  refine ⟨n, ?_⟩
  rw [runOps, if_pos hw, execA, hk]
  simp only [hv]
  exact hn
theorem okO.alloc {ops o l a s v f} {Φ : ACt → St → Prop} (hw : Region.wanted o (yieldedA ops a) = true) (hk : kindOf o.op = .alloc) (hv : allocA X s.next a.eval o.op = some (v, f))
    (h : okO q X K ops l (a.put o.dst v) (s.new f) Φ) : okO q X K ops (o :: l) a s Φ := by
  obtain ⟨n, hn⟩ := h
  refine ⟨n, ?_⟩
  rw [runOps, if_pos hw, execA, hk]
  simp only [hv]
  exact hn
/-- An effect that is no call: what it gives does not hang on the fuel. -/
theorem okO.effect {ops o l a s v s'} {Φ : ACt → St → Prop} (hw : Region.wanted o (yieldedA ops a) = true) (hk : kindOf o.op = .effect) (hv : ∀ c r, effectA X c r s a.eval o.op = .ret (v, s'))
    (h : okO q X K ops l (a.put o.dst v) s' Φ) : okO q X K ops (o :: l) a s Φ := by
  obtain ⟨n, hn⟩ := h
  refine ⟨n, ?_⟩
  rw [runOps, if_pos hw, execA, hk]
  simp only [hv]
  exact hn
/-- A call of a function. -/
theorem okO.call {ops o l a s f args} {Φ : ACt → St → Prop} (hw : Region.wanted o (yieldedA ops a) = true) (hk : kindOf o.op = .effect) (hv : ∀ c r, effectA X c r s a.eval o.op = c f args s)
    (h : okF q X K f args s fun v s => okO q X K ops l (a.put o.dst v) s Φ) : okO q X K ops (o :: l) a s Φ := by
  obtain ⟨n, hn⟩ := h
  obtain ⟨m, hm⟩ := Res.AllQ_uniform (Q := fun m (p : Value × St) => (runOps X (callO X K m) (roundO X K m) ops l (a.put o.dst p.1) p.2).AllQ q fun (p : ACt × St) => Φ p.1 p.2)
    (fun m p hq => runOps_up (Φ := fun p => Φ p.1 p.2) (Nat.le_succ m) hq) hn
  refine ⟨max n m, ?_⟩
  rw [runOps, if_pos hw, execA, hk]
  simp only [hv]
  rw [Res.AllQ_bind]
  exact (call_up (Nat.le_max_left n m) hm).mono fun p hq => runOps_up (Φ := fun p => Φ p.1 p.2) (Nat.le_max_right n m) hq

/-! ### Functions -/
theorem okF.orc {f args s r} {Φ : Value → St → Prop} (hk : K f args s = some r) (h : r.AllQ q fun p => Φ p.1 p.2) : okF q X K f args s Φ := by
  refine ⟨1, ?_⟩
  rw [callO, hk]
  exact h
theorem okF.body {f fn c args s} {Φ : Value → St → Prop} (hk : K f args s = none) (hf : X.fn f = some fn) (hb : fn.body = some c) (hn : args.length ≤ fn.ntmps)
    (h : okC q X K none c { tmps := PT.ofList args, nt := fn.ntmps } s fun e a s => match e with
      | .exit _ => False
      | _ => ∃ v, resultsA X s.look fn a = some v ∧ Φ v s) : okF q X K f args s Φ := by
  obtain ⟨n, hn'⟩ := h
  refine ⟨n + 1, ?_⟩
  rw [callO, hk]
  simp only [hf]
  simp only [hb, if_pos hn]
  rw [Res.AllQ_bind]
  refine hn'.mono fun p hq => ?_
  rcases p with ⟨e, a, s⟩
  cases e with
  | exit i => exact hq
  | _ =>
    obtain ⟨v, hv, hp⟩ := hq
    simp only [hv]
    exact hp
end
end Go.Dust
end
section
/- The rules as0 equations: for simp. -/
namespace Go.Dust
section
variable {q : Bool} {X : Env} {K : Orc}
theorem okC_skip {r a s} {Φ : AExit → ACt → St → Prop} : okC q X K r .skip a s Φ ↔ Φ .normal a s :=
  ⟨fun ⟨n, hn⟩ => by
    cases n with
    | zero => rw [codeO] at hn; exact hn.elim
    | succ n => rw [codeO] at hn; exact hn, .skip⟩
theorem okC_ret {r a s} {Φ : AExit → ACt → St → Prop} : okC q X K r .ret a s Φ ↔ Φ .ret a s :=
  ⟨fun ⟨n, hn⟩ => by
    cases n with
    | zero => rw [codeO] at hn; exact hn.elim
    | succ n => rw [codeO] at hn; exact hn, .ret⟩
theorem okC_exit {r a s i} {Φ : AExit → ACt → St → Prop} : okC q X K r (.exit i) a s Φ ↔ Φ (.exit i) a s :=
  ⟨fun ⟨n, hn⟩ => by
    cases n with
    | zero => rw [codeO] at hn; exact hn.elim
    | succ n => rw [codeO] at hn; exact hn, .exit⟩
theorem okC_seq {r x y a s} {Φ : AExit → ACt → St → Prop} : okC q X K r (.seq x y) a s Φ ↔ okC q X K r x a s fun e a s => match e with
    | .normal => okC q X K r y a s Φ
    | e => Φ e a s :=
  ⟨fun ⟨n, hn⟩ => by
    cases n with
    | zero => rw [codeO] at hn; exact hn.elim
    | succ n =>
      rw [codeO, Res.AllQ_bind] at hn
      refine ⟨n, hn.mono fun p hq => ?_⟩
      rcases p with ⟨e, a, s⟩
      cases e with
      | normal => exact ⟨n, hq⟩
      | _ => exact hq, .seq⟩
theorem okC_cond {r c x y a s} {Φ : AExit → ACt → St → Prop} : okC q X K r (.cond c x y) a s Φ ↔ ∃ b, a.eval c = .bool b ∧ okC q X K r (if b = true then x else y) a s Φ :=
  ⟨fun ⟨n, hn⟩ => by
    cases n with
    | zero => rw [codeO] at hn; exact hn.elim
    | succ n =>
      rw [codeO] at hn
      cases hc : a.eval c with
      | bool b =>
        rw [hc] at hn
        refine ⟨b, rfl, n, ?_⟩
        cases b <;> exact hn
      | _ => rw [hc] at hn; exact hn.elim, fun ⟨_, hb, h⟩ => .cond hb h⟩
theorem okC_block {r id b a s} {Φ : AExit → ACt → St → Prop} : okC q X K r (.block id b) a s Φ ↔ okC q X K r b a s fun e a s => match e with
    | .exit i => if i = id then Φ .normal a s else Φ (.exit i) a s
    | e => Φ e a s :=
  ⟨fun ⟨n, hn⟩ => by
    cases n with
    | zero => rw [codeO] at hn; exact hn.elim
    | succ n =>
      rw [codeO, Res.AllQ_bind] at hn
      refine ⟨n, hn.mono fun p hq => ?_⟩
      rcases p with ⟨e, a, s⟩
      cases e with
      | exit i =>
        simp only at hq ⊢
        split
        · rename_i hi
          rw [if_pos hi] at hq; exact hq
        · rename_i hi
          rw [if_neg hi] at hq; exact hq
      | _ => exact hq, .block⟩
theorem okC_region {r id ops a s} {Φ : AExit → ACt → St → Prop} : okC q X K r (.region id ops false) a s Φ ↔ okO q X K ops ops.toList a s (Φ .normal) :=
  ⟨fun ⟨n, hn⟩ => by
    cases n with
    | zero => rw [codeO] at hn; exact hn.elim
    | succ n =>
      rw [codeO, Res.AllQ_bind] at hn
      exact ⟨n, hn⟩, .region⟩
theorem wanted_none (d op ty pos af) (y : Nat → Option Bool) : Region.wanted (⟨d, op, ty, pos, af, none⟩ : Oper) y = true := rfl
theorem okO_nil {ops a s} {Φ : ACt → St → Prop} : okO q X K ops [] a s Φ ↔ Φ a s := ⟨fun ⟨_, hn⟩ => hn, .nil⟩
theorem okO_guard {ops d op ty pos af j w l a s} {Φ : ACt → St → Prop} : okO q X K ops (⟨d, op, ty, pos, af, some (j, w)⟩ :: l) a s Φ ↔
    if yieldedA ops a j = some w then okO q X K ops (⟨d, op, ty, pos, af, none⟩ :: l) a s Φ else okO q X K ops l (a.put d undef) s Φ := by
  have hw : Region.wanted (⟨d, op, ty, pos, af, some (j, w)⟩ : Oper) (yieldedA ops a) = (yieldedA ops a j == some w) := rfl
  have hw' : Region.wanted (⟨d, op, ty, pos, af, none⟩ : Oper) (yieldedA ops a) = true := rfl
  unfold okO
  simp only [runOps, hw, hw', if_true]
  by_cases h : yieldedA ops a j = some w
  · simp only [h, beq_self_eq_true, if_true]
  · have h' : (yieldedA ops a j == some w) = false := by simpa using h
    simp only [h', Bool.false_eq_true, if_false, h]
theorem okO_still {ops d op ty pos af l a s} {Φ : ACt → St → Prop} (hk : kindOf op = .still) : okO q X K ops (⟨d, op, ty, pos, af, none⟩ :: l) a s Φ ↔
    ∃ v, stillA X s.look a.eval op = some v ∧ okO q X K ops l (a.put d v) s Φ := by
  refine ⟨fun ⟨n, hn⟩ => ?_, fun ⟨v, hv, h⟩ => .still rfl hk hv h⟩
  rw [runOps, if_pos (wanted_none ..), execA, hk] at hn
  simp only at hn
  cases hv : stillA X s.look a.eval op with
  | none => rw [hv] at hn; exact hn.elim
  | some v => rw [hv] at hn; exact ⟨v, rfl, n, hn⟩
theorem okO_alloc {ops d op ty pos af l a s} {Φ : ACt → St → Prop} (hk : kindOf op = .alloc) : okO q X K ops (⟨d, op, ty, pos, af, none⟩ :: l) a s Φ ↔
    ∃ v f, allocA X s.next a.eval op = some (v, f) ∧ okO q X K ops l (a.put d v) (s.new f) Φ := by
  refine ⟨fun ⟨n, hn⟩ => ?_, fun ⟨v, f, hv, h⟩ => .alloc rfl hk hv h⟩
  rw [runOps, if_pos (wanted_none ..), execA, hk] at hn
  simp only at hn
  cases hv : allocA X s.next a.eval op with
  | none => rw [hv] at hn; exact hn.elim
  | some p => rcases p with ⟨v, f⟩; rw [hv] at hn; exact ⟨v, f, rfl, n, hn⟩
theorem okO_store {ops d t p x ty pos af l a s} {Φ : ACt → St → Prop} : okO q X K ops (⟨d, .store t p x, ty, pos, af, none⟩ :: l) a s Φ ↔
    ∃ ad s', a.eval p = .pointer (some ad) ∧ storeT X s t ad (a.eval x) = some s' ∧ okO q X K ops l (a.put d undef) s' Φ := by
  constructor
  · rintro ⟨n, hn⟩
    rw [runOps, if_pos (wanted_none ..)] at hn
    simp only [execA, kindOf, effectA] at hn
    cases hp : a.eval p with
    | pointer ad =>
      rw [hp] at hn
      cases ad with
      | none => exact hn.elim
      | some ad =>
        simp only at hn
        cases hs : storeT X s t ad (a.eval x) with
        | none => rw [hs] at hn; exact hn.elim
        | some s' => rw [hs] at hn; exact ⟨ad, s', rfl, hs, n, hn⟩
    | _ => rw [hp] at hn; exact hn.elim
  · rintro ⟨ad, s', hp, hs, h⟩
    exact .effect rfl rfl (v := undef) (s' := s') (fun c r => by simp only [effectA, hp, hs]) h
theorem okO_call {ops d f as0 ts ty pos af l a s} {Φ : ACt → St → Prop} : okO q X K ops (⟨d, .call ⟨.value (.func f), as0, ts⟩, ty, pos, af, none⟩ :: l) a s Φ ↔
    okF q X K f (as0.toList.map a.eval) s fun v s => okO q X K ops l (a.put d v) s Φ := by
  have hv : ∀ (c : CallF) (r : RoundF), effectA X c r s a.eval (.call ⟨.value (.func f), as0, ts⟩) = c f (as0.toList.map a.eval) s := fun c r => by
    simp [effectA, ACt.eval, callV]
  constructor
  · rintro ⟨n, hn⟩
    rw [runOps, if_pos (wanted_none ..)] at hn
    simp only [execA, show kindOf (.call ⟨.value (.func f), as0, ts⟩) = .effect from rfl, hv] at hn
    rw [Res.AllQ_bind] at hn
    exact ⟨n, hn.mono fun p hq => ⟨n, hq⟩⟩
  · exact fun h => .call rfl rfl hv h
end
/-! ### Registers -/
theorem reg_put (a : ACt) (d : Tmp) (v : Value) (t : Tmp) : (a.put (some d) v).getT t = if t = d then v else a.getT t := by
  simp only [ACt.put, ACt.getT, PT.get_set]
  split <;> rfl
theorem put_none (a : ACt) (v : Value) : a.put none v = a := rfl
theorem eval_tmp (a : ACt) (t : Tmp) : a.eval (.tmp t) = a.getT t := rfl
theorem eval_const (a : ACt) (v : Value) : a.eval (.const v) = v := rfl
theorem getT_args (l : List Value) (n t : Nat) : ACt.getT { tmps := PT.ofList l, nt := n } t = l[t]?.getD undef := by
  simp only [ACt.getT, PT.get_ofList]
/-! ### Operations, one by one -/
section
variable {q : Bool} {X : Env} {K : Orc} {ops : Array Oper} {d : Option Tmp} {ty : TypeId} {pos : String} {af : Array Edge} {l : List Oper} {a : ACt} {s : St} {Φ : ACt → St → Prop}
theorem o_move {x} : okO q X K ops (⟨d, .move x, ty, pos, af, none⟩ :: l) a s Φ ↔ okO q X K ops l (a.put d (a.eval x)) s Φ :=
  (okO_still rfl).trans ⟨fun ⟨_, hv, h⟩ => by cases hv; exact h, fun h => ⟨_, rfl, h⟩⟩
theorem o_assign {x} : okO q X K ops (⟨d, .assign x, ty, pos, af, none⟩ :: l) a s Φ ↔ okO q X K ops l (a.put d (a.eval x)) s Φ :=
  (okO_still rfl).trans ⟨fun ⟨_, hv, h⟩ => by cases hv; exact h, fun h => ⟨_, rfl, h⟩⟩
theorem o_build {t ps} : okO q X K ops (⟨d, .build t ps, ty, pos, af, none⟩ :: l) a s Φ ↔ ∃ v, buildA X t (ps.toList.map fun (i, x) => (i, a.eval x)) = some v ∧ okO q X K ops l (a.put d v) s Φ := okO_still rfl
theorem o_nilCheck {x} : okO q X K ops (⟨d, .nilCheck x, ty, pos, af, none⟩ :: l) a s Φ ↔ ∃ v, nilCheckA (a.eval x) = some v ∧ okO q X K ops l (a.put d v) s Φ := okO_still rfl
theorem o_unOp {o t x} : okO q X K ops (⟨d, .unOp o t x, ty, pos, af, none⟩ :: l) a s Φ ↔ ∃ v, unop o (a.eval x) = some v ∧ okO q X K ops l (a.put d v) s Φ := okO_still rfl
theorem o_convert {c t x} : okO q X K ops (⟨d, .convert c t x, ty, pos, af, none⟩ :: l) a s Φ ↔ ∃ v, convertA X c t (a.eval x) = some v ∧ okO q X K ops l (a.put d v) s Φ := okO_still rfl
theorem o_slice {t x lo hi mx} : okO q X K ops (⟨d, .slice t x lo hi mx, ty, pos, af, none⟩ :: l) a s Φ ↔ ∃ v, sliceA X s.look t (a.eval x) (lo.map a.eval) (hi.map a.eval) (mx.map a.eval) = some v ∧ okO q X K ops l (a.put d v) s Φ := okO_still rfl
theorem o_fieldAddr {t x f} : okO q X K ops (⟨d, .fieldAddr t x f, ty, pos, af, none⟩ :: l) a s Φ ↔ ∃ v, fieldAddrA X t (a.eval x) f = some v ∧ okO q X K ops l (a.put d v) s Φ := okO_still rfl
theorem o_field {t x f} : okO q X K ops (⟨d, .field t x f, ty, pos, af, none⟩ :: l) a s Φ ↔ ∃ v, fieldA X t (a.eval x) f = some v ∧ okO q X K ops l (a.put d v) s Φ := okO_still rfl
theorem o_indexAddr {t x i} : okO q X K ops (⟨d, .indexAddr t x i, ty, pos, af, none⟩ :: l) a s Φ ↔ ∃ v, indexAddrA X t (a.eval x) (a.eval i) = some v ∧ okO q X K ops l (a.put d v) s Φ := okO_still rfl
theorem o_index {t x i} : okO q X K ops (⟨d, .index t x i, ty, pos, af, none⟩ :: l) a s Φ ↔ ∃ v, indexA X t (a.eval x) (a.eval i) = some v ∧ okO q X K ops l (a.put d v) s Φ := okO_still rfl
theorem o_lookup {t x y b} : okO q X K ops (⟨d, .lookup t x y b, ty, pos, af, none⟩ :: l) a s Φ ↔ ∃ v, lookupA X s.look t (a.eval x) (a.eval y) b = some v ∧ okO q X K ops l (a.put d v) s Φ := okO_still rfl
theorem o_pick {c x y} : okO q X K ops (⟨d, .pick c x y, ty, pos, af, none⟩ :: l) a s Φ ↔ ∃ t, a.eval c = .bool t ∧ okO q X K ops l (a.put d (if t = true then a.eval x else a.eval y)) s Φ := by
  refine (okO_still rfl).trans ⟨fun ⟨v, hv, h⟩ => ?_, fun ⟨t, ht, h⟩ => ⟨_, by simp only [stillA, ht], h⟩⟩
  simp only [stillA] at hv
  cases hc : a.eval c with
  | bool t => rw [hc] at hv; cases hv; exact ⟨t, rfl, h⟩
  | _ => rw [hc] at hv; cases hv
theorem o_load {t x} : okO q X K ops (⟨d, .load t x, ty, pos, af, none⟩ :: l) a s Φ ↔ ∃ ad v, a.eval x = .pointer (some ad) ∧ loadT X s.look t ad = some v ∧ okO q X K ops l (a.put d v) s Φ := by
  refine (okO_still rfl).trans ⟨fun ⟨v, hv, h⟩ => ?_, fun ⟨ad, v, hx, hv, h⟩ => ⟨v, by simp only [stillA, hx]; exact hv, h⟩⟩
  simp only [stillA] at hv
  cases hc : a.eval x with
  | pointer ad => cases ad with
    | none => rw [hc] at hv; cases hv
    | some ad => rw [hc] at hv; exact ⟨ad, v, rfl, hv, h⟩
  | _ => rw [hc] at hv; cases hv
theorem o_binOp {o t x y t'} : okO q X K ops (⟨d, .binOp o t x y t', ty, pos, af, none⟩ :: l) a s Φ ↔ ∃ v, (if (bothNil (a.eval x) (a.eval y) && !(isConstO x || isConstO y)) = true then none else binop X s.look o t (a.eval x) (a.eval y)) = some v ∧ okO q X K ops l (a.put d v) s Φ := okO_still rfl
theorem o_extract {x i} : okO q X K ops (⟨d, .extract x i, ty, pos, af, none⟩ :: l) a s Φ ↔ ∃ vs v, a.eval x = .tuple vs ∧ vs[i]? = some v ∧ okO q X K ops l (a.put d v) s Φ := by
  refine (okO_still rfl).trans ⟨fun ⟨v, hv, h⟩ => ?_, fun ⟨vs, v, hx, hv, h⟩ => ⟨v, by simp only [stillA, hx]; exact hv, h⟩⟩
  simp only [stillA] at hv
  cases hc : a.eval x with
  | tuple vs => rw [hc] at hv; exact ⟨vs, v, rfl, hv, h⟩
  | _ => rw [hc] at hv; cases hv
end
end Go.Dust
end
section
/- Regions whose order is drawn, symbolically; what a function leaves. -/
namespace Go.Dust
section
variable {X : Env} {K : Orc}
/-- A logged run in the text's order. -/
def okL (X : Env) (K : Orc) (ops : Array Oper) (base : Nat) (l : List Oper) (i : Nat) (a : ACt) (s : St) (Φ : ACt → St → List Note → Prop) : Prop :=
  ∃ n x, logOps X (callO X K n) (roundO X K n) ops base l i a s = some x ∧ Φ x.1 x.2.1 x.2.2
theorem logOps_up {n m : Nat} (hnm : n ≤ m) {ops base l i a s x} (h : logOps X (callO X K n) (roundO X K n) ops base l i a s = some x) : logOps X (callO X K m) (roundO X K m) ops base l i a s = some x := by
  induction hnm with
  | refl => exact h
  | step _ ih => exact logOps_le (fuel_le X K _).2.1 (fuel_le X K _).2.2 _ _ _ _ _ _ _ ih
theorem okC_drawn {q r id ops a s c} {Φ : AExit → ACt → St → Prop} (hc : conf ops = some c)
    (h : okL X K ops s.next ops.toList 0 a { heap := s.heap, next := s.next + 2 * ops.size, clk := s.clk } fun a s lg => logOk lg c = true ∧ Φ .normal a s) : okC q X K r (.region id ops true) a s Φ := by
  obtain ⟨n, ⟨a', s', lg⟩, h1, h2, h3⟩ := h
  refine ⟨n + 1, ?_⟩
  rw [codeO, Res.AllQ_bind]
  simp only [if_true, drawnA, hc, h1, h2]
  exact h3
theorem okL_nil {ops base i a s} {Φ : ACt → St → List Note → Prop} (h : Φ a s []) : okL X K ops base [] i a s Φ := ⟨0, _, rfl, h⟩
theorem okL_guard {ops base d op ty pos af j w l i a s} {Φ : ACt → St → List Note → Prop} (h : if yieldedA ops a j = some w then okL X K ops base (⟨d, op, ty, pos, af, none⟩ :: l) i a s Φ
    else okL X K ops base l (i + 1) (a.put d undef) s fun a2 s2 lg => Φ a2 s2 ({ ran := false, reads := [], pre := s, post := s } :: lg)) : okL X K ops base (⟨d, op, ty, pos, af, some (j, w)⟩ :: l) i a s Φ := by
  have hw : Region.wanted (⟨d, op, ty, pos, af, some (j, w)⟩ : Oper) (yieldedA ops a) = (yieldedA ops a j == some w) := rfl
  by_cases hy : yieldedA ops a j = some w
  · rw [if_pos hy] at h
    obtain ⟨n, x, h1, h2⟩ := h
    refine ⟨n, x, ?_, h2⟩
    rw [logOps] at h1 ⊢
    rw [hw, hy]
    rw [if_pos (wanted_none ..)] at h1
    rw [if_pos (by simp)]
    exact h1
  · rw [if_neg hy] at h
    obtain ⟨n, ⟨a2, s2, lg⟩, h1, h2⟩ := h
    refine ⟨n, ⟨a2, s2, { ran := false, reads := [], pre := s, post := s } :: lg⟩, ?_, h2⟩
    rw [logOps, hw, if_neg (by simpa using hy)]
    simp only [h1]
theorem okL_still {ops base d op ty pos af l i a s v} {Φ : ACt → St → List Note → Prop} (hk : kindOf op = .still) (hv : stillA X s.look a.eval op = some v)
    (h : okL X K ops base l (i + 1) (a.put d v) s fun a2 s2 lg => Φ a2 s2 ({ ran := true, reads := readsOf a.eval s.look op, pre := s, post := s } :: lg)) : okL X K ops base (⟨d, op, ty, pos, af, none⟩ :: l) i a s Φ := by
  obtain ⟨n, ⟨a2, s2, lg⟩, h1, h2⟩ := h
  refine ⟨n, ⟨a2, s2, { ran := true, reads := readsOf a.eval s.look op, pre := s, post := s } :: lg⟩, ?_, h2⟩
  rw [logOps, if_pos (wanted_none ..), execN, hk]
  simp only [hv, h1]
theorem okL_alloc {ops base d op ty pos af l i a s v f} {Φ : ACt → St → List Note → Prop} (hk : kindOf op = .alloc) (hv : allocA X (base + 2 * i) a.eval op = some (v, f))
    (h : okL X K ops base l (i + 1) (a.put d v) (s.put (base + 2 * i) f) fun a2 s2 lg => Φ a2 s2 ({ ran := true, reads := readsOf a.eval s.look op, pre := s, post := s.put (base + 2 * i) f } :: lg)) : okL X K ops base (⟨d, op, ty, pos, af, none⟩ :: l) i a s Φ := by
  obtain ⟨n, ⟨a2, s2, lg⟩, h1, h2⟩ := h
  refine ⟨n, ⟨a2, s2, { ran := true, reads := readsOf a.eval s.look op, pre := s, post := s.put (base + 2 * i) f } :: lg⟩, ?_, h2⟩
  rw [logOps, if_pos (wanted_none ..), execN, hk]
  simp only [hv, h1]
theorem okL_call {ops base d f as0 ts ty pos af l i a s} {Φ : ACt → St → List Note → Prop} (h : okF false X K f (as0.toList.map a.eval) s fun v s' => okL X K ops base l (i + 1) (a.put d v) s' fun a2 s2 lg =>
    Φ a2 s2 ({ ran := true, reads := readsOf a.eval s.look (.call ⟨.value (.func f), as0, ts⟩), pre := s, post := s' } :: lg)) : okL X K ops base (⟨d, .call ⟨.value (.func f), as0, ts⟩, ty, pos, af, none⟩ :: l) i a s Φ := by
  obtain ⟨n, hn⟩ := h
  obtain ⟨⟨v, s'⟩, h1, m, ⟨a2, s2, lg⟩, h2, h3⟩ := Res.AllQ_false hn
  have hv : ∀ (c : CallF) (r : RoundF), effectA X c r s a.eval (.call ⟨.value (.func f), as0, ts⟩) = c f (as0.toList.map a.eval) s := fun c r => by
    simp [effectA, ACt.eval, callV]
  refine ⟨max n m, ⟨a2, s2, { ran := true, reads := readsOf a.eval s.look (.call ⟨.value (.func f), as0, ts⟩), pre := s, post := s' } :: lg⟩, ?_, h3⟩
  rw [logOps, if_pos (wanted_none ..), execN]
  have h4 : callO X K (max n m) f (as0.toList.map a.eval) s = .ret (v, s') := by
    have h5 : (callO X K n f (as0.toList.map a.eval) s).AllQ false fun p => p = (v, s') := by rw [h1]; rfl
    obtain ⟨p, hp, rfl⟩ := Res.AllQ_false (call_up (Nat.le_max_left n m) h5)
    exact hp
  simp only [show kindOf (.call ⟨.value (.func f), as0, ts⟩) = .effect from rfl, hv, h4]
  rw [logOps_up (Nat.le_max_right n m) h2]
theorem okL.mono {ops base l i a s} {Φ Ψ : ACt → St → List Note → Prop} (h : okL X K ops base l i a s Φ) (hp : ∀ a s lg, Φ a s lg → Ψ a s lg) : okL X K ops base l i a s Ψ := by
  obtain ⟨n, x, h1, h2⟩ := h
  exact ⟨n, x, h1, hp _ _ _ h2⟩

/-! ### What lies bears an elder stamp -/
def St.wf (s : St) : Prop := ∀ b o, s.heap.get b = some o → o.isDead = false → o.ver < s.clk
theorem sameObj_self {s : St} {b : Nat} {o : AObj} (hw : s.wf) (h : s.heap.get b = some o) (hd : o.isDead = false) : sameObj s s b = true := by
  simp only [sameObj, h, hd, Bool.not_false, beq_self_eq_true, Bool.and_self, Bool.true_and, decide_eq_true_eq]
  exact hw b o h hd
theorem okF.evol (hK : ∀ f args s r, K f args s = some r → r.Lv fun p => Evol s p.2) {q f args s} {Φ : Value → St → Prop} (h : okF q X K f args s Φ) : okF q X K f args s fun v s' => Φ v s' ∧ Evol s s' := by
  obtain ⟨n, hn⟩ := h
  exact ⟨n, Res.AllQ_and hn ((evol_allK hK n).2.1 f args s)⟩

/-! ### A function by its parts -/
theorem okF_body {q : Bool} {f : FuncId} {fn : Func} {c : Code} {rs : List ResultVar} {N : Nat} {args : List Value} {s : St} {Φ : Value → St → Prop} (hk : K f args s = none) (hf : X.fn f = some fn) (hb : fn.body = some c) (hr : fn.results.toList = rs) (hN : fn.ntmps = N) (hn : Nat.ble args.length N = true)
    (h : okC q X K none c { tmps := PT.ofList args, nt := N } s fun e a s => match e with
      | .exit _ => False
      | _ => ∃ l, results1 X s.look a rs = some l ∧ Φ (match l with | [v] => v | l => .tuple l.toArray) s) : okF q X K f args s Φ := by
  refine okF.body hk hf hb (by rw [hN]; exact Nat.le_of_ble_eq_true hn) ?_
  rw [hN]
  refine h.mono fun e a s hp => ?_
  cases e with
  | exit i => exact hp
  | _ =>
    obtain ⟨l, hl, hp⟩ := hp
    refine ⟨_, ?_, hp⟩
    rw [resultsA, hr, hl]
    match l with
    | [] => rfl
    | [v] => rfl
    | v :: w :: l => rfl
theorem res_tmp (H : Look) (a : ACt) (t : Tmp) (rest : List ResultVar) : results1 X H a (.tmp t :: rest) = (results1 X H a rest).map (a.getT t :: ·) := by
  rw [results1]
  cases results1 X H a rest <;> rfl
theorem res_nil (H : Look) (a : ACt) : results1 X H a [] = some [] := rfl
end
/-! ### Operations of a logged run, one by one -/
section
variable {X : Env} {K : Orc} {ops : Array Oper} {base i : Nat} {d : Option Tmp} {ty : TypeId} {pos : String} {af : Array Edge} {l : List Oper} {a : ACt} {s : St} {Φ : ACt → St → List Note → Prop}
theorem okL_still_iff {op : Op} (hk : kindOf op = .still) : okL X K ops base (⟨d, op, ty, pos, af, none⟩ :: l) i a s Φ ↔
    ∃ v, stillA X s.look a.eval op = some v ∧ okL X K ops base l (i + 1) (a.put d v) s fun a2 s2 lg => Φ a2 s2 ({ ran := true, reads := readsOf a.eval s.look op, pre := s, post := s } :: lg) := by
  refine ⟨fun ⟨n, x, h1, h2⟩ => ?_, fun ⟨v, hv, h⟩ => okL_still hk hv h⟩
  rw [logOps, if_pos (wanted_none ..), execN, hk] at h1
  simp only at h1
  cases hv : stillA X s.look a.eval op with
  | none => rw [hv] at h1; cases h1
  | some v =>
    rw [hv] at h1
    simp only at h1
    cases hl : logOps X (callO X K n) (roundO X K n) ops base l (i + 1) (a.put d v) s with
    | none => rw [hl] at h1; cases h1
    | some y =>
      rw [hl] at h1
      simp only [Option.some.injEq] at h1
      subst h1
      exact ⟨v, rfl, n, y, hl, h2⟩
theorem okL_call_iff {f as0 ts} : okL X K ops base (⟨d, .call ⟨.value (.func f), as0, ts⟩, ty, pos, af, none⟩ :: l) i a s Φ ↔ okF false X K f (as0.toList.map a.eval) s fun v s' => okL X K ops base l (i + 1) (a.put d v) s' fun a2 s2 lg =>
    Φ a2 s2 ({ ran := true, reads := readsOf a.eval s.look (.call ⟨.value (.func f), as0, ts⟩), pre := s, post := s' } :: lg) := by
  refine ⟨fun ⟨n, x, h1, h2⟩ => ?_, okL_call⟩
  have hv : ∀ (c : CallF) (r : RoundF), effectA X c r s a.eval (.call ⟨.value (.func f), as0, ts⟩) = c f (as0.toList.map a.eval) s := fun c r => by
    simp [effectA, ACt.eval, callV]
  rw [logOps, if_pos (wanted_none ..), execN] at h1
  simp only [show kindOf (.call ⟨.value (.func f), as0, ts⟩) = .effect from rfl, hv] at h1
  cases hc : callO X K n f (as0.toList.map a.eval) s with
  | ret p =>
    rcases p with ⟨v, s'⟩
    rw [hc] at h1
    simp only at h1
    cases hl : logOps X (callO X K n) (roundO X K n) ops base l (i + 1) (a.put d v) s' with
    | none => rw [hl] at h1; cases h1
    | some y =>
      rw [hl] at h1
      simp only [Option.some.injEq] at h1
      subst h1
      refine ⟨n, ?_⟩
      rw [hc]
      exact ⟨n, y, hl, h2⟩
  | _ => rw [hc] at h1; cases h1
theorem okL_nil_iff : okL X K ops base [] i a s Φ ↔ Φ a s [] := ⟨fun ⟨_, x, h1, h2⟩ => by cases h1; exact h2, okL_nil⟩
theorem l_move {x} : okL X K ops base (⟨d, .move x, ty, pos, af, none⟩ :: l) i a s Φ ↔ okL X K ops base l (i + 1) (a.put d (a.eval x)) s fun a2 s2 lg => Φ a2 s2 ({ ran := true, reads := readsOf a.eval s.look (.move x), pre := s, post := s } :: lg) :=
  (okL_still_iff rfl).trans ⟨fun ⟨_, hv, h⟩ => by cases hv; exact h, fun h => ⟨_, rfl, h⟩⟩
theorem l_assign {x} : okL X K ops base (⟨d, .assign x, ty, pos, af, none⟩ :: l) i a s Φ ↔ okL X K ops base l (i + 1) (a.put d (a.eval x)) s fun a2 s2 lg => Φ a2 s2 ({ ran := true, reads := readsOf a.eval s.look (.assign x), pre := s, post := s } :: lg) :=
  (okL_still_iff rfl).trans ⟨fun ⟨_, hv, h⟩ => by cases hv; exact h, fun h => ⟨_, rfl, h⟩⟩
theorem l_build {t ps} : okL X K ops base (⟨d, .build t ps, ty, pos, af, none⟩ :: l) i a s Φ ↔ ∃ v, buildA X t (ps.toList.map fun (i, x) => (i, a.eval x)) = some v ∧ okL X K ops base l (i + 1) (a.put d v) s fun a2 s2 lg => Φ a2 s2 ({ ran := true, reads := readsOf a.eval s.look (.build t ps), pre := s, post := s } :: lg) := okL_still_iff rfl
theorem l_nilCheck {x} : okL X K ops base (⟨d, .nilCheck x, ty, pos, af, none⟩ :: l) i a s Φ ↔ ∃ v, nilCheckA (a.eval x) = some v ∧ okL X K ops base l (i + 1) (a.put d v) s fun a2 s2 lg => Φ a2 s2 ({ ran := true, reads := readsOf a.eval s.look (.nilCheck x), pre := s, post := s } :: lg) := okL_still_iff rfl
theorem l_unOp {o t x} : okL X K ops base (⟨d, .unOp o t x, ty, pos, af, none⟩ :: l) i a s Φ ↔ ∃ v, unop o (a.eval x) = some v ∧ okL X K ops base l (i + 1) (a.put d v) s fun a2 s2 lg => Φ a2 s2 ({ ran := true, reads := readsOf a.eval s.look (.unOp o t x), pre := s, post := s } :: lg) := okL_still_iff rfl
theorem l_convert {c t x} : okL X K ops base (⟨d, .convert c t x, ty, pos, af, none⟩ :: l) i a s Φ ↔ ∃ v, convertA X c t (a.eval x) = some v ∧ okL X K ops base l (i + 1) (a.put d v) s fun a2 s2 lg => Φ a2 s2 ({ ran := true, reads := readsOf a.eval s.look (.convert c t x), pre := s, post := s } :: lg) := okL_still_iff rfl
theorem l_slice {t x lo hi mx} : okL X K ops base (⟨d, .slice t x lo hi mx, ty, pos, af, none⟩ :: l) i a s Φ ↔ ∃ v, sliceA X s.look t (a.eval x) (lo.map a.eval) (hi.map a.eval) (mx.map a.eval) = some v ∧ okL X K ops base l (i + 1) (a.put d v) s fun a2 s2 lg => Φ a2 s2 ({ ran := true, reads := readsOf a.eval s.look (.slice t x lo hi mx), pre := s, post := s } :: lg) := okL_still_iff rfl
theorem l_fieldAddr {t x f} : okL X K ops base (⟨d, .fieldAddr t x f, ty, pos, af, none⟩ :: l) i a s Φ ↔ ∃ v, fieldAddrA X t (a.eval x) f = some v ∧ okL X K ops base l (i + 1) (a.put d v) s fun a2 s2 lg => Φ a2 s2 ({ ran := true, reads := readsOf a.eval s.look (.fieldAddr t x f), pre := s, post := s } :: lg) := okL_still_iff rfl
theorem l_field {t x f} : okL X K ops base (⟨d, .field t x f, ty, pos, af, none⟩ :: l) i a s Φ ↔ ∃ v, fieldA X t (a.eval x) f = some v ∧ okL X K ops base l (i + 1) (a.put d v) s fun a2 s2 lg => Φ a2 s2 ({ ran := true, reads := readsOf a.eval s.look (.field t x f), pre := s, post := s } :: lg) := okL_still_iff rfl
theorem l_indexAddr {t x y} : okL X K ops base (⟨d, .indexAddr t x y, ty, pos, af, none⟩ :: l) i a s Φ ↔ ∃ v, indexAddrA X t (a.eval x) (a.eval y) = some v ∧ okL X K ops base l (i + 1) (a.put d v) s fun a2 s2 lg => Φ a2 s2 ({ ran := true, reads := readsOf a.eval s.look (.indexAddr t x y), pre := s, post := s } :: lg) := okL_still_iff rfl
theorem l_index {t x y} : okL X K ops base (⟨d, .index t x y, ty, pos, af, none⟩ :: l) i a s Φ ↔ ∃ v, indexA X t (a.eval x) (a.eval y) = some v ∧ okL X K ops base l (i + 1) (a.put d v) s fun a2 s2 lg => Φ a2 s2 ({ ran := true, reads := readsOf a.eval s.look (.index t x y), pre := s, post := s } :: lg) := okL_still_iff rfl
theorem l_lookup {t x y b} : okL X K ops base (⟨d, .lookup t x y b, ty, pos, af, none⟩ :: l) i a s Φ ↔ ∃ v, lookupA X s.look t (a.eval x) (a.eval y) b = some v ∧ okL X K ops base l (i + 1) (a.put d v) s fun a2 s2 lg => Φ a2 s2 ({ ran := true, reads := readsOf a.eval s.look (.lookup t x y b), pre := s, post := s } :: lg) := okL_still_iff rfl
theorem l_binOp {o t x y t'} : okL X K ops base (⟨d, .binOp o t x y t', ty, pos, af, none⟩ :: l) i a s Φ ↔ ∃ v, (if (bothNil (a.eval x) (a.eval y) && !(isConstO x || isConstO y)) = true then none else binop X s.look o t (a.eval x) (a.eval y)) = some v ∧ okL X K ops base l (i + 1) (a.put d v) s fun a2 s2 lg => Φ a2 s2 ({ ran := true, reads := readsOf a.eval s.look (.binOp o t x y t'), pre := s, post := s } :: lg) := okL_still_iff rfl
theorem l_load {t x} : okL X K ops base (⟨d, .load t x, ty, pos, af, none⟩ :: l) i a s Φ ↔ ∃ ad v, a.eval x = .pointer (some ad) ∧ loadT X s.look t ad = some v ∧ okL X K ops base l (i + 1) (a.put d v) s fun a2 s2 lg => Φ a2 s2 ({ ran := true, reads := readsOf a.eval s.look (.load t x), pre := s, post := s } :: lg) := by
  refine (okL_still_iff rfl).trans ⟨fun ⟨v, hv, h⟩ => ?_, fun ⟨ad, v, hx, hv, h⟩ => ⟨v, by simp only [stillA, hx]; exact hv, h⟩⟩
  simp only [stillA] at hv
  cases hc : a.eval x with
  | pointer ad => cases ad with
    | none => rw [hc] at hv; cases hv
    | some ad => rw [hc] at hv; exact ⟨ad, v, rfl, hv, h⟩
  | _ => rw [hc] at hv; cases hv
end
end Go.Dust
end
section
/- Arithmetic and strings of D as0 rewrite rules; what a call that only makes objects leaves. -/
namespace Go.Dust
section
variable (X : Env) (H : Look) (t : TypeId)
theorem bin_gtr (x y : Int) : binop X H .gtr t (.int .i64 x) (.int .i64 y) = some (.bool (decide (x > y))) := rfl
theorem bin_geq (x y : Int) : binop X H .geq t (.int .i64 x) (.int .i64 y) = some (.bool (decide (x ≥ y))) := rfl
theorem bin_lss (x y : Int) : binop X H .lss t (.int .i64 x) (.int .i64 y) = some (.bool (decide (x < y))) := rfl
theorem bin_leq (x y : Int) : binop X H .leq t (.int .i64 x) (.int .i64 y) = some (.bool (decide (x ≤ y))) := rfl
theorem bin_eql (x y : Int) : binop X H .eql t (.int .i64 x) (.int .i64 y) = some (.bool (x == y)) := rfl
theorem bin_neq (x y : Int) : binop X H .neq t (.int .i64 x) (.int .i64 y) = some (.bool (!(x == y))) := rfl
theorem bin_mul (x y : Int) : binop X H .mul t (.int .i64 x) (.int .i64 y) = some (.int .i64 (IntKind.i64.wrap (x * y))) := rfl
theorem bin_add (x y : Int) : binop X H .add t (.int .i64 x) (.int .i64 y) = some (.int .i64 (IntKind.i64.wrap (x + y))) := rfl
theorem bin_sub (x y : Int) : binop X H .sub t (.int .i64 x) (.int .i64 y) = some (.int .i64 (IntKind.i64.wrap (x - y))) := rfl
theorem bin_shl (x y : Int) : binop X H .shl t (.int .i64 x) (.int .i64 y) = shiftI .shl .i64 x y := rfl
theorem bin_quo (x y : Int) : binop X H .quo t (.int .i64 x) (.int .i64 y) = if y = 0 then none else some (.int .i64 (IntKind.i64.wrap (x.tdiv y))) := rfl
theorem bin_rem (x y : Int) : binop X H .rem t (.int .i64 x) (.int .i64 y) = if y = 0 then none else some (.int .i64 (x.tmod y)) := rfl
theorem bin_cat (x y : ByteArray) : binop X H .add t (.string x) (.string y) = if ((x.size + y.size : Nat) : Int) > IntKind.i64.max then none else some (.string (x ++ y)) := rfl
end
theorem un_neg (k : IntKind) (n : Int) : unop .neg (.int k n) = some (.int k (k.wrap (0 - n))) := rfl
theorem un_not (b : Bool) : unop .not (.bool b) = some (.bool !b) := rfl
theorem wrapI {n : Int} (h1 : -9223372036854775808 ≤ n) (h2 : n ≤ 9223372036854775807) : IntKind.i64.wrap n = n := by
  unfold IntKind.wrap
  simp only [IntKind.bits, IntKind.signed, Bool.true_and]
  have e1 : (2 : Int) ^ 64 = 18446744073709551616 := rfl
  have e2 : (2 : Int) ^ (64 - 1) = 9223372036854775808 := rfl
  simp only [e1, e2, decide_eq_true_eq]
  split <;> omega
/-- A string by its bytes. -/
def str (l : List UInt8) : Value := .string ⟨⟨l⟩⟩
theorem str_cat (X : Env) (H : Look) (t : TypeId) (a b : List UInt8) (h : a.length + b.length ≤ 9223372036854775807) : binop X H .add t (str a) (str b) = some (str (a ++ b)) := by
  have e : (⟨⟨a⟩⟩ : ByteArray) ++ ⟨⟨b⟩⟩ = ⟨⟨a ++ b⟩⟩ := by
    apply ByteArray.ext
    rw [ByteArray.data_append]
    simp
  have hs : ¬ (((⟨⟨a⟩⟩ : ByteArray).size + (⟨⟨b⟩⟩ : ByteArray).size : Nat) : Int) > IntKind.i64.max := by
    have : IntKind.i64.max = 9223372036854775807 := rfl
    rw [this]
    show ¬ ((a.length + b.length : Nat) : Int) > 9223372036854775807
    omega
  unfold str
  rw [bin_cat, if_neg hs, e]

/-! ### What only makes objects -/
def St.fresh (s : St) : Prop := ∀ b, s.next ≤ b → s.heap.get b = none
structure Grows (s s' : St) : Prop where
  old : ∀ b o, s.heap.get b = some o → s'.heap.get b = some o
  wf : s'.wf
  fresh : s'.fresh
  next : s.next ≤ s'.next
theorem Grows.refl {s : St} (h1 : s.wf) (h2 : s.fresh) : Grows s s := ⟨fun _ _ h => h, h1, h2, Nat.le_refl _⟩
theorem Grows.trans {a b c : St} (h : Grows a b) (k : Grows b c) : Grows a c := ⟨fun x o hx => k.old x o (h.old x o hx), k.wf, k.fresh, Nat.le_trans h.next k.next⟩
theorem Grows.reserve {s s' : St} (h : Grows s s') (n : Nat) : Grows s { heap := s'.heap, next := s'.next + n, clk := s'.clk } :=
  ⟨h.old, h.wf, fun b hb => h.fresh b (Nat.le_trans (Nat.le_add_right _ _) hb), Nat.le_trans h.next (Nat.le_add_right _ _)⟩
theorem Grows.new {s s' : St} (h : Grows s s') {f : Nat → AObj} (hf : (f s'.clk).ver ≤ s'.clk) : Grows s (s'.new f) := by
  refine ⟨fun b o hb => ?_, fun b o hb hd => ?_, fun b hb => ?_, ?_⟩
  · simp only [St.new, PT.get_set]
    split
    · rename_i e
      subst e
      have := h.fresh s'.next (Nat.le_refl _)
      rw [h.old _ o hb] at this; cases this
    · exact h.old b o hb
  · simp only [St.new, PT.get_set] at hb ⊢
    split at hb
    · cases hb; exact Nat.lt_succ_of_le hf
    · exact Nat.lt_succ_of_lt (h.wf b o hb hd)
  · have hb' : s'.next + 2 ≤ b := hb
    simp only [St.new, PT.get_set]
    rw [if_neg (by omega)]
    exact h.fresh b (by omega)
  · exact Nat.le_trans h.next (Nat.le_add_right _ _)
theorem Grows.load {s s' : St} (h : Grows s s') {a : Addr} {v : Value} (hl : load1 s.look a = some v) : load1 s'.look a = some v := by
  rcases a with ⟨b, off, sp⟩
  unfold load1 at hl ⊢
  simp only [St.look] at hl ⊢
  cases ho : s.heap.get b with
  | none => rw [ho] at hl; cases sp <;> cases hl
  | some o => rw [ho] at hl; rw [h.old _ _ ho]; exact hl
theorem load_obj {s : St} {a : Addr} {v : Value} (hl : load1 s.look a = some v) : ∃ o, s.heap.get a.block = some o ∧ o.isDead = false := by
  rcases a with ⟨b, off, sp⟩
  unfold load1 at hl
  simp only [St.look] at hl ⊢
  cases ho : s.heap.get b with
  | none => rw [ho] at hl; cases sp <;> cases hl
  | some o =>
    refine ⟨o, rfl, ?_⟩
    rw [ho] at hl
    cases o with
    | dead => cases sp <;> cases hl
    | _ => rfl
/-- What is looked at lies as0 it lay. -/
theorem same_grows {s s' : St} (hw : s.wf) (h : Grows s s') {a : Addr} {v : Value} (hl : load1 s.look a = some v) : sameObj s s' a.block = true := by
  obtain ⟨o, ho, hd⟩ := load_obj hl
  simp only [sameObj, ho, h.old _ _ ho, hd, Bool.not_false, beq_self_eq_true, Bool.and_self, Bool.true_and, decide_eq_true_eq]
  exact hw _ o ho hd
theorem look_made (s : St) (f : Nat → AObj) : (s.new f).look s.next = some (f s.clk) := by
  simp only [St.look, St.new, PT.get_set, if_true]
theorem look_mk (s : St) (n c : Nat) : (St.mk s.heap n c).look = s.look := rfl
section
variable {q : Bool} {X : Env} {K : Orc} {ops : Array Oper} {base i : Nat} {d : Option Tmp} {ty : TypeId} {pos : String} {af : Array Edge} {l : List Oper} {a : ACt} {s : St}
theorem o_len {x t} {Φ : ACt → St → Prop} : okO q X K ops (⟨d, .call ⟨.builtin .len, #[x], #[t]⟩, ty, pos, af, none⟩ :: l) a s Φ ↔ ∃ v, lenOfA X s.look t (a.eval x) = some v ∧ okO q X K ops l (a.put d v) s Φ := okO_still rfl
theorem l_len {x t} {Φ : ACt → St → List Note → Prop} : okL X K ops base (⟨d, .call ⟨.builtin .len, #[x], #[t]⟩, ty, pos, af, none⟩ :: l) i a s Φ ↔ ∃ v, lenOfA X s.look t (a.eval x) = some v ∧ okL X K ops base l (i + 1) (a.put d v) s fun a2 s2 lg =>
    Φ a2 s2 ({ ran := true, reads := readsOf a.eval s.look (.call ⟨.builtin .len, #[x], #[t]⟩), pre := s, post := s } :: lg) := okL_still_iff rfl
theorem l_pick {c x y} {Φ : ACt → St → List Note → Prop} : okL X K ops base (⟨d, .pick c x y, ty, pos, af, none⟩ :: l) i a s Φ ↔ ∃ t, a.eval c = .bool t ∧ okL X K ops base l (i + 1) (a.put d (if t = true then a.eval x else a.eval y)) s fun a2 s2 lg =>
    Φ a2 s2 ({ ran := true, reads := readsOf a.eval s.look (.pick c x y), pre := s, post := s } :: lg) := by
  refine (okL_still_iff rfl).trans ⟨fun ⟨v, hv, h⟩ => ?_, fun ⟨t, ht, h⟩ => ⟨_, by simp only [stillA, ht], h⟩⟩
  simp only [stillA] at hv
  cases hc : a.eval c with
  | bool t => rw [hc] at hv; cases hv; exact ⟨t, rfl, h⟩
  | _ => rw [hc] at hv; cases hv
theorem okL_guard_iff {op j w} {Φ : ACt → St → List Note → Prop} : okL X K ops base (⟨d, op, ty, pos, af, some (j, w)⟩ :: l) i a s Φ ↔ if yieldedA ops a j = some w then okL X K ops base (⟨d, op, ty, pos, af, none⟩ :: l) i a s Φ
    else okL X K ops base l (i + 1) (a.put d undef) s fun a2 s2 lg => Φ a2 s2 ({ ran := false, reads := [], pre := s, post := s } :: lg) := by
  refine ⟨fun ⟨n, x, h1, h2⟩ => ?_, okL_guard⟩
  have hw : Region.wanted (⟨d, op, ty, pos, af, some (j, w)⟩ : Oper) (yieldedA ops a) = (yieldedA ops a j == some w) := rfl
  by_cases hy : yieldedA ops a j = some w
  · rw [if_pos hy]
    refine ⟨n, x, ?_, h2⟩
    rw [logOps] at h1 ⊢
    rw [hw, hy, if_pos (by simp)] at h1
    rw [if_pos (wanted_none ..)]
    exact h1
  · rw [if_neg hy]
    rw [logOps, hw, if_neg (by simpa using hy)] at h1
    cases hl : logOps X (callO X K n) (roundO X K n) ops base l (i + 1) (a.put d undef) s with
    | none => rw [hl] at h1; cases h1
    | some y =>
      rw [hl] at h1
      simp only [Option.some.injEq] at h1
      subst h1
      exact ⟨n, y, hl, h2⟩
end
/-! ### Guards by their registers: the text of a region is not carried along -/
def boolOf (v : Value) : Option Bool := match v with
  | .bool b => some b
  | _ => none
theorem boolOf_bool (b : Bool) : boolOf (.bool b) = some b := rfl
def guardsAre (ops : Array Oper) (gd : List (Nat × Tmp)) : Bool := gd.all fun p => match (ops[p.1]?).bind (·.dst) with
  | some d => Nat.beq d p.2
  | none => false
theorem guards_yield {ops : Array Oper} {gd : List (Nat × Tmp)} (h : guardsAre ops gd = true) : ∀ p ∈ gd, ∀ a, yieldedA ops a p.1 = boolOf (a.getT p.2) := by
  intro p hp a
  have := List.all_eq_true.1 h p hp
  unfold yieldedA
  cases hd : (ops[p.1]?).bind (·.dst) with
  | none => rw [hd] at this; cases this
  | some d =>
    rw [hd] at this
    have e : d = p.2 := Nat.eq_of_beq_eq_true this
    subst e
    rfl
/-- The rest of the code stays behind a name, so that simp does not run it before its time. -/
theorem okC_drawn_g {q : Bool} {X : Env} {K : Orc} {r : Option Nat} {id : Nat} {ops : Array Oper} {a : ACt} {s : St} {Φ : AExit → ACt → St → Prop} (c : List (Nat × Nat)) (gd : List (Nat × Tmp)) (hc : conf ops = some c) (hg : guardsAre ops gd = true)
    (h : ∀ O : Array Oper, (∀ p ∈ gd, ∀ a, yieldedA O a p.1 = boolOf (a.getT p.2)) → ∀ Ψ : ACt → St → List Note → Prop, (∀ a s lg, logOk lg c = true → Φ .normal a s → Ψ a s lg) →
      okL X K O s.next ops.toList 0 a { heap := s.heap, next := s.next + 2 * ops.size, clk := s.clk } Ψ) :
    okC q X K r (.region id ops true) a s Φ := okC_drawn hc (h ops (guards_yield hg) _ fun _ _ _ h1 h2 => ⟨h1, h2⟩)
theorem okC_region_g {q : Bool} {X : Env} {K : Orc} {r : Option Nat} {id : Nat} {ops : Array Oper} {a : ACt} {s : St} {Φ : AExit → ACt → St → Prop} (gd : List (Nat × Tmp)) (hg : guardsAre ops gd = true)
    (h : ∀ O : Array Oper, (∀ p ∈ gd, ∀ a, yieldedA O a p.1 = boolOf (a.getT p.2)) → ∀ Ψ : ACt → St → Prop, (∀ a s, Φ .normal a s → Ψ a s) → okO q X K O ops.toList a s Ψ) : okC q X K r (.region id ops false) a s Φ := okC_region.2 (h ops (guards_yield hg) _ fun _ _ h => h)
theorem okC_seq_g {q : Bool} {X : Env} {K : Orc} {r : Option Nat} {x y : Code} {a : ACt} {s : St} {Φ : AExit → ACt → St → Prop}
    (h : ∀ Ψ : AExit → ACt → St → Prop, (∀ a s, okC q X K r y a s Φ → Ψ .normal a s) → (∀ e a s, e ≠ .normal → Φ e a s → Ψ e a s) → okC q X K r x a s Ψ) : okC q X K r (.seq x y) a s Φ := by
  refine okC_seq.2 (h _ (fun a s h => h) fun e a s he h => ?_)
  cases e with
  | normal => exact absurd rfl he
  | _ => exact h
theorem okC_block_g {q : Bool} {X : Env} {K : Orc} {r : Option Nat} {id : Nat} {b : Code} {a : ACt} {s : St} {Φ : AExit → ACt → St → Prop}
    (h : ∀ Ψ : AExit → ACt → St → Prop, (∀ a s, Φ .normal a s → Ψ .normal a s) → (∀ a s, Φ .normal a s → Ψ (.exit id) a s) → (∀ e a s, e ≠ .normal → e ≠ .exit id → Φ e a s → Ψ e a s) → okC q X K r b a s Ψ) : okC q X K r (.block id b) a s Φ := by
  refine okC_block.2 (h _ (fun a s h => h) (fun a s h => by simpa using h) fun e a s h1 h2 h => ?_)
  cases e with
  | exit i =>
    simp only
    rw [if_neg (fun e => h2 (by rw [e]))]
    exact h
  | _ => exact h
theorem logOk_nil (lg : List Note) : logOk lg [] = true := rfl
theorem logOk_step {lg : List Note} {c : List (Nat × Nat)} {x j : Nat} {nx nj : Note} (hx : lg[x]? = some nx) (hj : lg[j]? = some nj) (h : ∀ b ∈ nx.reads, sameObj nj.pre nj.post b = true) (hc : logOk lg c = true) : logOk lg ((x, j) :: c) = true := by
  have h' : (nx.reads.all fun b => sameObj nj.pre nj.post b) = true := List.all_eq_true.2 h
  unfold logOk at hc ⊢
  rw [List.all_cons, hc, Bool.and_true]
  simp only [hx, hj, h', Bool.or_true]
end Go.Dust
end
section
/- From the symbolic rules to the kit's contracts. -/
namespace Go.Dust

/-- A function of which the rules show something, called anywhere: what comes back is named by what D gives. -/
theorem calls_okF {P : Program} (hm : P.follows .mixedOrders = true) {K : Orc} (hK : OrcOK P K) {q : Bool} {f : FuncId} {fn : Func} (hf : P.funcs[f]? = some fn) (hb : fn.body.isSome = true) {args : List Value} {args' : Array Value} {W : World}
    {ι : Inj} {s : St} {Φ : Value → St → Prop} (hR : RS P ι s W) (hargs : VRs ι args args'.toList) (h : okF q (env P) K f args s Φ) :
    Calls P f args' W fun e W' => ∃ v s' ι' v', e = .returned v' ∧ VR ι' v v' ∧ RS P ι' s' W' ∧ ES ι s W ι' s' W' ∧ Φ v s' := by
  obtain ⟨N, hN⟩ := h
  have hrun := Res.AllQ_all hN
  obtain ⟨_, _, hc, _⟩ := all_soundK (drawn_sound hm) hK N
  obtain ⟨fn', h1, _⟩ := hc.fn f args s _ hrun
  have h2 := (fn_some h1).1
  rw [hf] at h2; cases h2
  have := hc.calls f fn args args' s W ι _ none 0 h1 hb hrun hargs hR
  refine (callsIn_wide.1 this).mono ?_
  rintro e W' ⟨v, u, s', ι', rfl, hv, hu, hR', hE⟩
  exact ⟨v, s', ι', u, rfl, hu, hR', hE, hv⟩
end Go.Dust
end
section
/- append, symbolically: a slice that is ours and grows. -/
namespace Go.Dust
section
variable {q : Bool} {X : Env} {K : Orc} {ops : Array Oper} {base i : Nat} {d : Option Tmp} {ty : TypeId} {pos : String} {af : Array Edge} {l : List Oper} {a : ACt} {s : St}
theorem o_append {as0 ts} {Φ : ACt → St → Prop} : okO q X K ops (⟨d, .call ⟨.builtin .append, as0, ts⟩, ty, pos, af, none⟩ :: l) a s Φ ↔
    ∃ v s', appendA X s ts (as0.toList.map a.eval) = some (v, s') ∧ okO q X K ops l (a.put d v) s' Φ := by
  constructor
  · rintro ⟨n, hn⟩
    rw [runOps, if_pos (wanted_none ..)] at hn
    simp only [execA, show kindOf (.call ⟨.builtin .append, as0, ts⟩) = .effect from rfl, effectA] at hn
    cases hp : appendA X s ts (as0.toList.map a.eval) with
    | none => rw [hp] at hn; exact hn.elim
    | some p => rcases p with ⟨v, s'⟩; rw [hp] at hn; exact ⟨v, s', rfl, n, hn⟩
  · rintro ⟨v, s', hv, h⟩
    exact .effect rfl rfl (v := v) (s' := s') (fun c r => by simp only [effectA, hv]; rfl) h
end

/-- A slice that this run has built: nil, or an object of its own that it fills. L: its cells, m a place. -/
inductive Vec (s : St) (e : TypeId) (m : Nat) : Value → List Value → Prop
  | nil : Vec s e m (.slice none 0 0) []
  | own {b n : Nat} {c : PT Value} {z L : List Value} {room : Bool} {ver : Nat} (h : s.heap.get b = some (.cells c z (n * m) e room false ver)) (hl : L.length = n * m) (hc : ∀ i, i < L.length → cellAt c z (n * m) i = L[i]?) :
      Vec s e m (.slice (some ⟨b, 0, none⟩) n n) L
theorem Vec.load {s : St} {e : TypeId} {m b n : Nat} {L : List Value} (h : Vec s e m (.slice (some ⟨b, 0, none⟩) n n) L) {i : Nat} {v : Value} (hi : L[i]? = some v) : load1 s.look ⟨b, i, none⟩ = some v := by
  cases h with
  | own h hl hc =>
    simp only [load1, St.look, h]
    rw [hc i (List.getElem?_eq_some_iff.1 hi).1, hi]
/-- What an append leaves: all but the old object. -/
structure Moved (s s' : St) (v v' : Value) : Prop where
  old : ∀ b o, s.heap.get b = some o → (∀ o' n c, v ≠ .slice (some ⟨b, o', none⟩) n c) → s'.heap.get b = some o
  next : s.next ≤ s'.next
  wf : s'.wf
  fresh : s'.fresh
  at_ : ∀ b o n c, v' = .slice (some ⟨b, o, none⟩) n c → s.next ≤ b
theorem cellAt_setL {c : PT Value} {z : List Value} {k N M : Nat} {new L : List Value} (hk : L.length = k) (hN : N = k) (hM : M = k + new.length) (hc : ∀ i, i < L.length → cellAt c z N i = L[i]?) :
    ∀ i, i < (L ++ new).length → cellAt (c.setL k new) z M i = (L ++ new)[i]? := by
  intro i hi
  rw [List.length_append] at hi
  unfold cellAt
  rw [if_pos (by omega), PT.get_setL]
  by_cases h : k ≤ i
  · rw [if_pos h, List.getElem?_append_right (by omega), hk]
    have : i - k < new.length := by omega
    rw [List.getElem?_eq_getElem this]
  · rw [if_neg h, List.getElem?_append_left (by omega)]
    have := hc i (by omega)
    unfold cellAt at this
    rw [if_pos (by omega)] at this
    exact this
theorem appendB_vec {s : St} {e : TypeId} {m len cap : Nat} {a : Option Addr} {L new : List Value} (hwf : s.wf) (hfr : s.fresh) (h : Vec s e m (.slice a len cap) L) (hm : 0 < m) (hn : new.length = m) :
    ∃ v s', appendB s e m a len cap 1 new = some (v, s') ∧ Vec s' e m v (L ++ new) ∧ Moved s s' (.slice a len cap) v := by
  cases h with
  | nil =>
    refine ⟨.slice (some ⟨s.next, 0, none⟩) (0 + 1) (0 + 1), s.new fun v => .cells (PT.ofList new) [] ((0 + 1) * m) e true false v, rfl, ?_, ?_⟩
    · refine .own (room := true) (n := 0 + 1) (c := PT.ofList new) (z := []) (ver := s.clk) (by simp only [St.new, PT.get_set, if_true]) (by simp [hn]) fun i hi => ?_
      rw [List.nil_append] at hi ⊢
      unfold cellAt
      rw [if_pos (by omega), PT.get_ofList]
      cases h : new[i]? with
      | none => rw [List.getElem?_eq_none_iff] at h; omega
      | some v => rfl
    · have g := (Grows.refl hwf hfr).new (f := fun v => .cells (PT.ofList new) [] ((0 + 1) * m) e true false v) (Nat.le_refl _)
      exact ⟨fun b o hb _ => g.old b o hb, g.next, g.wf, g.fresh, fun b o n c e => by cases e; exact Nat.le_refl _⟩
  | @own b n c z L' room ver h hl hc =>
    have hk : grownCells c z (len * m) ⟨b, 0, none⟩ (len * m) new = some (if len * m = 0 then (PT.ofList new, []) else (c.setL (len * m) new, z)) := by
      unfold grownCells
      by_cases h0 : len * m = 0
      · rw [if_pos h0, if_pos h0]
      · rw [if_neg h0, if_neg h0]
        simp
    have hin : e = e ∧ inBlock ⟨b, 0, none⟩ len len m (len * m) = true := ⟨rfl, by unfold inBlock; simp⟩
    have hwk : (if room = true then s.kill b else s).wf := by
      cases room with
      | false => exact hwf
      | true =>
        intro x o hx hd
        simp only [if_true, St.kill, St.put, PT.get_set] at hx ⊢
        split at hx
        · cases hx; cases hd
        · exact Nat.lt_succ_of_lt (hwf x o hx hd)
    have hfk : (if room = true then s.kill b else s).fresh := by
      cases room with
      | false => exact hfr
      | true =>
        intro x hx
        have hne : ¬ x = b := fun e => by
          subst e
          rw [hfr x hx] at h; cases h
        simp only [if_true, St.kill, St.put, PT.get_set]
        rw [if_neg hne]
        exact hfr x hx
    have hnx : (if room = true then s.kill b else s).next = s.next := by cases room <;> rfl
    have hcl : ∃ v, (if room = true then s.kill b else s).clk = v := ⟨_, rfl⟩
    obtain ⟨v0, hv0⟩ := hcl
    have hold : ∀ x o, s.heap.get x = some o → ¬ x = b → (if room = true then s.kill b else s).heap.get x = some o := by
      intro x o hx hne
      cases room with
      | false => exact hx
      | true =>
        simp only [if_true, St.kill, St.put, PT.get_set]
        rw [if_neg hne]
        exact hx
    by_cases h0 : len * m = 0
    · rw [if_pos h0] at hk
      refine ⟨.slice (some ⟨s.next, 0, none⟩) (len + 1) (len + 1), (if room = true then s.kill b else s).new fun v => .cells (PT.ofList new) [] ((len + 1) * m) e true false v, by unfold appendB; rw [if_neg (show ¬ (len + 1 ≤ len) from by omega)]; simp only [h]; rw [if_pos (show True ∧ inBlock ⟨b, 0, none⟩ len len m (len * m) = true from ⟨trivial, hin.2⟩), hk], ?_, ?_⟩
      · have hL : L = [] := List.length_eq_zero_iff.1 (by omega)
        subst hL
        have hlen : len = 0 := by rcases Nat.mul_eq_zero.1 h0 with h | h <;> omega
        subst hlen
        refine .own (room := true) (n := 0 + 1) (c := PT.ofList new) (z := []) (ver := v0) (by simp only [St.new, PT.get_set, hnx, if_true, hv0]) (by simp [hn]) fun i hi => ?_
        rw [List.nil_append] at hi ⊢
        unfold cellAt
        rw [if_pos (by omega), PT.get_ofList]
        cases h : new[i]? with
        | none => rw [List.getElem?_eq_none_iff] at h; omega
        | some v => rfl
      · have g := (Grows.refl hwk hfk).new (f := fun v => .cells (PT.ofList new) [] ((len + 1) * m) e true false v) (Nat.le_refl _)
        exact ⟨fun x o hx hne => g.old x o (hold x o hx fun e => hne 0 len len (by rw [e])), by have := g.next; rw [hnx] at this; exact this, g.wf, g.fresh, fun b o n c e => by cases e; exact Nat.le_refl _⟩
    · rw [if_neg h0] at hk
      refine ⟨.slice (some ⟨s.next, 0, none⟩) (len + 1) (len + 1), (if room = true then s.kill b else s).new fun v => .cells (c.setL (len * m) new) z ((len + 1) * m) e true false v, by unfold appendB; rw [if_neg (show ¬ (len + 1 ≤ len) from by omega)]; simp only [h]; rw [if_pos (show True ∧ inBlock ⟨b, 0, none⟩ len len m (len * m) = true from ⟨trivial, hin.2⟩), hk], ?_, ?_⟩
      · refine .own (room := true) (n := len + 1) (c := c.setL (len * m) new) (z := z) (ver := v0) (by simp only [St.new, PT.get_set, hnx, if_true, hv0]) (by rw [List.length_append, hl, hn, Nat.succ_mul]) ?_
        exact cellAt_setL hl rfl (by rw [hn, Nat.succ_mul]) hc
      · have g := (Grows.refl hwk hfk).new (f := fun v => .cells (c.setL (len * m) new) z ((len + 1) * m) e true false v) (Nat.le_refl _)
        exact ⟨fun x o hx hne => g.old x o (hold x o hx fun e => hne 0 len len (by rw [e])), by have := g.next; rw [hnx] at this; exact this, g.wf, g.fresh, fun b o n c e => by cases e; exact Nat.le_refl _⟩
end Go.Dust
end
section
/- Drawn regions by what lies at their end; what keeps what; the rules in bundles. -/
namespace Go.Dust

def St.skip (s : St) (n : Nat) : St := { heap := s.heap, next := s.next + n, clk := s.clk }
theorem look_skip (s : St) (n : Nat) : (s.skip n).look = s.look := rfl
theorem heap_skip (s : St) (n : Nat) : (s.skip n).heap = s.heap := rfl

/-! ### Drawn regions: what was looked at lies at the end as0 it lay -/
/-- An object of s, still there. -/
def Stays (s s' : St) (b : Nat) : Prop := ∃ o, s'.heap.get b = some o ∧ o.isDead = false ∧ o.ver < s.clk
def hitB (c : List (Nat × Nat)) (i : Nat) : Bool := c.any fun p => p.1 == i
theorem hitB_nil (i : Nat) : hitB [] i = false := rfl
theorem hitB_cons (x j i : Nat) (c : List (Nat × Nat)) : hitB ((x, j) :: c) i = (x == i || hitB c i) := rfl
def hitC (c : List (Nat × Nat)) (i : Nat) : Bool := c.any fun p => p.2 == i
theorem hitC_nil (i : Nat) : hitC [] i = false := rfl
theorem hitC_cons (x j i : Nat) (c : List (Nat × Nat)) : hitC ((x, j) :: c) i = (j == i || hitC c i) := rfl
/-- The names l stand in F. -/
def inB (l F : List Nat) : Prop := ∀ b ∈ l, b ∈ F
theorem inB_nil (F : List Nat) : inB [] F = True := eq_true fun _ h => by cases h
theorem inB_cons (b : Nat) (l F : List Nat) : inB (b :: l) F = (b ∈ F ∧ inB l F) := by
  simp [inB]
/-- What stands in F lies behind as0 it lay ahead. -/
def SameIn (F : List Nat) (s s' : St) : Prop := ∀ b ∈ F, sameObj s s' b = true
/-- What is asked of an operation: what it reads stands in F, where a pair asks it; what it changes does not. -/
def noteOk (c : List (Nat × Nat)) (F : List Nat) (i : Nat) (reads : List Nat) (s s' : St) : Prop := (bif hitB c i then inB reads F else True) ∧ (bif hitC c i then SameIn F s s' else True)
def cok (c : List (Nat × Nat)) (F : List Nat) : List Note → Nat → Prop
  | [], _ => True
  | n :: lg, i => (n.ran = true → noteOk c F i n.reads n.pre n.post) ∧ cok c F lg (i + 1)
theorem cok_get {c : List (Nat × Nat)} {F : List Nat} : ∀ {lg : List Note} {i x : Nat} {n : Note}, cok c F lg i → lg[x]? = some n → n.ran = true → noteOk c F (i + x) n.reads n.pre n.post
  | [], _, _, _, _, h, _ => by cases h
  | n :: lg, i, 0, _, hc, h, hr => by
    cases h
    exact hc.1 hr
  | n :: lg, i, x + 1, m, hc, h, hr => by
    rw [show i + (x + 1) = i + 1 + x from by omega]
    exact cok_get (lg := lg) hc.2 h hr
section
variable {X : Env} {K : Orc}
theorem log_len {call : CallF} {round : RoundF} {ops : Array Oper} {base : Nat} : ∀ (rest : List Oper) (i : Nat) (a : ACt) (s : St) (a' : ACt) (s' : St) (lg : List Note), logOps X call round ops base rest i a s = some (a', s', lg) → lg.length = rest.length
  | [], i, a, s, a', s', l, h => by
    simp only [logOps, Option.some.injEq, Prod.mk.injEq] at h
    obtain ⟨_, _, rfl⟩ := h
    rfl
  | o :: rest, i, a, s, a', s', l, h => by
    unfold logOps at h
    split at h
    · split at h
      · split at h
        · rename_i hl
          simp only [Option.some.injEq, Prod.mk.injEq] at h
          obtain ⟨_, _, rfl⟩ := h
          simp only [List.length_cons, log_len rest _ _ _ _ _ _ hl]
        · cases h
      · cases h
    · split at h
      · rename_i hl
        simp only [Option.some.injEq, Prod.mk.injEq] at h
        obtain ⟨_, _, rfl⟩ := h
        simp only [List.length_cons, log_len rest _ _ _ _ _ _ hl]
      · cases h
/-- A run of a drawn region in the text's order; F: names that must lie still where a pair asks it. -/
def okD (X : Env) (K : Orc) (ops : Array Oper) (base : Nat) (c : List (Nat × Nat)) (F : List Nat) (l : List Oper) (i : Nat) (a : ACt) (s : St) (Φ : ACt → St → Prop) : Prop :=
  okL X K ops base l i a s fun a2 s2 lg => cok c F lg i ∧ Φ a2 s2
theorem okC_drawn_d {q : Bool} {r : Option Nat} {id : Nat} {ops : Array Oper} {a : ACt} {s : St} {Φ : AExit → ACt → St → Prop} (c : List (Nat × Nat)) (F : List Nat) (gd : List (Nat × Tmp)) (hc : conf ops = some c) (hg : guardsAre ops gd = true)
    (hr : (c.all fun p => decide (p.1 < ops.size) && decide (p.2 < ops.size)) = true)
    (h : ∀ O : Array Oper, (∀ p ∈ gd, ∀ a, yieldedA O a p.1 = boolOf (a.getT p.2)) → ∀ Ψ : ACt → St → Prop, (∀ a s', Φ .normal a s' → Ψ a s') →
      okD X K O s.next c F ops.toList 0 a (s.skip (2 * ops.size)) Ψ) : okC q X K r (.region id ops true) a s Φ := by
  refine okC_drawn hc ?_
  obtain ⟨n, ⟨a', s', lg⟩, h1, h2⟩ := h ops (guards_yield hg) (Φ .normal) fun _ _ h => h
  refine ⟨n, ⟨a', s', lg⟩, h1, ?_, h2.2⟩
  have hlen := log_len _ _ _ _ _ _ _ h1
  refine List.all_eq_true.2 fun p hp => ?_
  have hp' := List.all_eq_true.1 hr p hp
  simp only [Bool.and_eq_true, decide_eq_true_eq] at hp'
  obtain ⟨x, j⟩ := p
  simp only at hp' ⊢
  have hx : x < lg.length := by rw [hlen]; simpa using hp'.1
  have hj : j < lg.length := by rw [hlen]; simpa using hp'.2
  simp only [List.getElem?_eq_getElem hx, List.getElem?_eq_getElem hj]
  cases hrx : lg[x].ran with
  | false => rfl
  | true =>
    cases hrj : lg[j].ran with
    | false => rfl
    | true =>
      simp only [Bool.not_true, Bool.false_or]
      refine List.all_eq_true.2 fun b hb => ?_
      have kx := (cok_get h2.1 (List.getElem?_eq_getElem hx) hrx).1
      have kj := (cok_get h2.1 (List.getElem?_eq_getElem hj) hrj).2
      rw [show hitB c (0 + x) = true from List.any_eq_true.2 ⟨(x, j), hp, by simp⟩] at kx
      rw [show hitC c (0 + j) = true from List.any_eq_true.2 ⟨(x, j), hp, by simp⟩] at kj
      exact kj b (kx b hb)
end
section
variable {X : Env} {K : Orc} {ops : Array Oper} {base i : Nat} {c : List (Nat × Nat)} {F : List Nat} {d : Option Tmp} {ty : TypeId} {pos : String} {af : Array Edge} {l : List Oper} {a : ACt} {s : St} {Φ : ACt → St → Prop}
theorem d_nil : okD X K ops base c F [] i a s Φ ↔ Φ a s := by
  unfold okD
  rw [okL_nil_iff]
  exact ⟨fun h => h.2, fun h => ⟨trivial, h⟩⟩
theorem okL_and {P : Prop} {Ψ : ACt → St → List Note → Prop} : okL X K ops base l i a s (fun a2 s2 lg => P ∧ Ψ a2 s2 lg) ↔ P ∧ okL X K ops base l i a s Ψ :=
  ⟨fun ⟨n, x, h1, h2, h3⟩ => ⟨h2, n, x, h1, h3⟩, fun ⟨h2, n, x, h1, h3⟩ => ⟨n, x, h1, h2, h3⟩⟩
theorem okD_note {n : Note} {l : List Oper} {j : Nat} {a : ACt} {s : St} (hr : n.ran = true) : okL X K ops base l (j + 1) a s (fun a2 s2 lg => cok c F (n :: lg) j ∧ Φ a2 s2) ↔ noteOk c F j n.reads n.pre n.post ∧ okD X K ops base c F l (j + 1) a s Φ := by
  unfold okD
  rw [← okL_and]
  simp only [cok, hr, true_implies, and_assoc]
theorem d_still {op : Op} (hk : kindOf op = .still) : okD X K ops base c F (⟨d, op, ty, pos, af, none⟩ :: l) i a s Φ ↔
    ∃ v, stillA X s.look a.eval op = some v ∧ noteOk c F i (readsOf a.eval s.look op) s s ∧ okD X K ops base c F l (i + 1) (a.put d v) s Φ := by
  unfold okD
  rw [okL_still_iff hk]
  simp only [okD_note]
  rfl
theorem d_guard {op j w} : okD X K ops base c F (⟨d, op, ty, pos, af, some (j, w)⟩ :: l) i a s Φ ↔ if yieldedA ops a j = some w then okD X K ops base c F (⟨d, op, ty, pos, af, none⟩ :: l) i a s Φ
    else okD X K ops base c F l (i + 1) (a.put d undef) s Φ := by
  unfold okD
  rw [okL_guard_iff]
  simp only [cok, Bool.false_eq_true, false_implies, true_and]
theorem d_call {f as0 ts} : okD X K ops base c F (⟨d, .call ⟨.value (.func f), as0, ts⟩, ty, pos, af, none⟩ :: l) i a s Φ ↔
    okF false X K f (as0.toList.map a.eval) s fun v s' => noteOk c F i (readsOf a.eval s.look (.call ⟨.value (.func f), as0, ts⟩)) s s' ∧ okD X K ops base c F l (i + 1) (a.put d v) s' Φ := by
  unfold okD
  rw [okL_call_iff]
  simp only [okD_note]
  rfl
theorem d_alloc {op : Op} (hk : kindOf op = .alloc) : okD X K ops base c F (⟨d, op, ty, pos, af, none⟩ :: l) i a s Φ ↔
    ∃ v f, allocA X (base + 2 * i) a.eval op = some (v, f) ∧ noteOk c F i (readsOf a.eval s.look op) s (s.put (base + 2 * i) f) ∧ okD X K ops base c F l (i + 1) (a.put d v) (s.put (base + 2 * i) f) Φ := by
  constructor
  · rintro ⟨n, x, h1, h2⟩
    rw [logOps, if_pos (wanted_none ..), execN, hk] at h1
    simp only at h1
    cases hv : allocA X (base + 2 * i) a.eval op with
    | none => rw [hv] at h1; cases h1
    | some p =>
      rcases p with ⟨v, f⟩
      rw [hv] at h1
      simp only at h1
      cases hl : logOps X (callO X K n) (roundO X K n) ops base l (i + 1) (a.put d v) (s.put (base + 2 * i) f) with
      | none => rw [hl] at h1; cases h1
      | some y =>
        rw [hl] at h1
        simp only [Option.some.injEq] at h1
        subst h1
        exact ⟨v, f, rfl, h2.1.1 rfl, n, y, hl, h2.1.2, h2.2⟩
  · rintro ⟨v, f, hv, hn, n, y, hl, h2⟩
    exact okL_alloc hk hv ⟨n, y, hl, ⟨fun _ => hn, h2.1⟩, h2.2⟩
/-- An effect that is no call. -/
theorem d_effect {op : Op} {P : Value → St → Prop} (hk : kindOf op = .effect) (hp : ∀ (cl : CallF) (r : RoundF) v s', effectA X cl r s a.eval op = .ret (v, s') ↔ P v s') :
    okD X K ops base c F (⟨d, op, ty, pos, af, none⟩ :: l) i a s Φ ↔ ∃ v s', P v s' ∧ noteOk c F i (readsOf a.eval s.look op) s s' ∧ okD X K ops base c F l (i + 1) (a.put d v) s' Φ := by
  constructor
  · rintro ⟨n, x, h1, h2⟩
    rw [logOps, if_pos (wanted_none ..), execN, hk] at h1
    simp only at h1
    cases he : effectA X (callO X K n) (roundO X K n) s a.eval op with
    | ret p =>
      rcases p with ⟨v, s'⟩
      rw [he] at h1
      simp only at h1
      cases hl : logOps X (callO X K n) (roundO X K n) ops base l (i + 1) (a.put d v) s' with
      | none => rw [hl] at h1; cases h1
      | some y =>
        rw [hl] at h1
        simp only [Option.some.injEq] at h1
        subst h1
        exact ⟨v, s', (hp _ _ _ _).1 he, h2.1.1 rfl, n, y, hl, h2.1.2, h2.2⟩
    | _ => rw [he] at h1; cases h1
  · rintro ⟨v, s', hv, hn, n, y, hl, h2⟩
    refine ⟨n, ⟨y.1, y.2.1, { ran := true, reads := readsOf a.eval s.look op, pre := s, post := s' } :: y.2.2⟩, ?_, ⟨fun _ => hn, h2.1⟩, h2.2⟩
    rw [logOps, if_pos (wanted_none ..), execN, hk]
    simp only [(hp (callO X K n) (roundO X K n) v s').2 hv, hl]
theorem ret_inj {v v' : Value} {s s' : St} : (Res.ret (v, s) = Res.ret (v', s')) ↔ v = v' ∧ s = s' := by simp
theorem d_store {t p x} : okD X K ops base c F (⟨d, .store t p x, ty, pos, af, none⟩ :: l) i a s Φ ↔
    ∃ ad s', a.eval p = .pointer (some ad) ∧ storeT X s t ad (a.eval x) = some s' ∧ noteOk c F i [] s s' ∧ okD X K ops base c F l (i + 1) (a.put d undef) s' Φ := by
  rw [d_effect (P := fun v s' => v = undef ∧ ∃ ad, a.eval p = .pointer (some ad) ∧ storeT X s t ad (a.eval x) = some s') rfl]
  · constructor
    · rintro ⟨v, s', ⟨rfl, ad, h1, h2⟩, h3⟩
      exact ⟨ad, s', h1, h2, h3⟩
    · rintro ⟨ad, s', h1, h2, h3⟩
      exact ⟨undef, s', ⟨rfl, ad, h1, h2⟩, h3⟩
  · intro cl r v s'
    simp only [effectA]
    cases a.eval p with
    | pointer ad =>
      cases ad with
      | none => simp
      | some ad =>
        simp only
        cases hs : storeT X s t ad (a.eval x) with
        | none => simp [hs]
        | some s2 => simp [hs, eq_comm]
    | _ => simp
theorem d_mapUpdate {t m k x} : okD X K ops base c F (⟨d, .mapUpdate t m k x, ty, pos, af, none⟩ :: l) i a s Φ ↔
    ∃ s', mapPut X s t (a.eval m) (a.eval k) (a.eval x) = some s' ∧ noteOk c F i [] s s' ∧ okD X K ops base c F l (i + 1) (a.put d undef) s' Φ := by
  rw [d_effect (P := fun v s' => v = undef ∧ mapPut X s t (a.eval m) (a.eval k) (a.eval x) = some s') rfl]
  · constructor
    · rintro ⟨v, s', ⟨rfl, h2⟩, h3⟩
      exact ⟨s', h2, h3⟩
    · rintro ⟨s', h2, h3⟩
      exact ⟨undef, s', ⟨rfl, h2⟩, h3⟩
  · intro cl r v s'
    simp only [effectA]
    cases mapPut X s t (a.eval m) (a.eval k) (a.eval x) with
    | none => simp
    | some s2 => simp [eq_comm]
theorem d_append {as0 ts} : okD X K ops base c F (⟨d, .call ⟨.builtin .append, as0, ts⟩, ty, pos, af, none⟩ :: l) i a s Φ ↔
    ∃ v s', appendA X s ts (as0.toList.map a.eval) = some (v, s') ∧ noteOk c F i (readsOf a.eval s.look (.call ⟨.builtin .append, as0, ts⟩)) s s' ∧ okD X K ops base c F l (i + 1) (a.put d v) s' Φ := by
  rw [d_effect (P := fun v s' => appendA X s ts (as0.toList.map a.eval) = some (v, s')) rfl]
  intro cl r v s'
  simp only [effectA]
  cases appendA X s ts (as0.toList.map a.eval) with
  | none => simp [Res.ofOption]
  | some p => rcases p with ⟨v2, s2⟩; simp [Res.ofOption]
theorem d_pick {x y z} : okD X K ops base c F (⟨d, .pick x y z, ty, pos, af, none⟩ :: l) i a s Φ ↔ ∃ t, a.eval x = .bool t ∧ noteOk c F i [] s s ∧ okD X K ops base c F l (i + 1) (a.put d (if t = true then a.eval y else a.eval z)) s Φ := by
  refine (d_still rfl).trans ⟨fun ⟨v, hv, h⟩ => ?_, fun ⟨t, ht, h⟩ => ⟨if t = true then a.eval y else a.eval z, by simp only [stillA, ht], h⟩⟩
  simp only [stillA] at hv
  cases hc : a.eval x with
  | bool t => rw [hc] at hv; cases hv; exact ⟨t, rfl, h⟩
  | _ => rw [hc] at hv; cases hv
theorem d_load {t x} : okD X K ops base c F (⟨d, .load t x, ty, pos, af, none⟩ :: l) i a s Φ ↔ ∃ ad v, a.eval x = .pointer (some ad) ∧ loadT X s.look t ad = some v ∧
    noteOk c F i [ad.block] s s ∧ okD X K ops base c F l (i + 1) (a.put d v) s Φ := by
  refine (d_still rfl).trans ⟨fun ⟨v, hv, h⟩ => ?_, fun ⟨ad, v, hx, hv, h⟩ => ⟨v, by simp only [stillA, hx]; exact hv, by simp only [readsOf, hx, nameOf]; exact h⟩⟩
  simp only [stillA] at hv
  cases hc : a.eval x with
  | pointer ad => cases ad with
    | none => rw [hc] at hv; cases hv
    | some ad => rw [hc] at hv; refine ⟨ad, v, rfl, hv, ?_⟩; simpa only [readsOf, hc, nameOf] using h
  | _ => rw [hc] at hv; cases hv
theorem d_binOp {o t x y t'} : okD X K ops base c F (⟨d, .binOp o t x y t', ty, pos, af, none⟩ :: l) i a s Φ ↔ ∃ v, (if (bothNil (a.eval x) (a.eval y) && !(isConstO x || isConstO y)) = true then none else binop X s.look o t (a.eval x) (a.eval y)) = some v ∧
    noteOk c F i (nameOf (a.eval x) ++ nameOf (a.eval y)) s s ∧ okD X K ops base c F l (i + 1) (a.put d v) s Φ := d_still rfl
theorem d_extract {x j} : okD X K ops base c F (⟨d, .extract x j, ty, pos, af, none⟩ :: l) i a s Φ ↔ ∃ vs v, a.eval x = .tuple vs ∧ vs[j]? = some v ∧ noteOk c F i [] s s ∧ okD X K ops base c F l (i + 1) (a.put d v) s Φ := by
  refine (d_still rfl).trans ⟨fun ⟨v, hv, h⟩ => ?_, fun ⟨vs, v, hx, hv, h⟩ => ⟨v, by simp only [stillA, hx]; exact hv, h⟩⟩
  simp only [stillA] at hv
  cases hc : a.eval x with
  | tuple vs => rw [hc] at hv; exact ⟨vs, v, rfl, hv, h⟩
  | _ => rw [hc] at hv; cases hv
theorem d_move {x} : okD X K ops base c F (⟨d, .move x, ty, pos, af, none⟩ :: l) i a s Φ ↔ noteOk c F i [] s s ∧ okD X K ops base c F l (i + 1) (a.put d (a.eval x)) s Φ :=
  (d_still rfl).trans ⟨fun ⟨_, hv, h⟩ => by cases hv; exact h, fun h => ⟨_, rfl, h⟩⟩
theorem d_assign {x} : okD X K ops base c F (⟨d, .assign x, ty, pos, af, none⟩ :: l) i a s Φ ↔ noteOk c F i [] s s ∧ okD X K ops base c F l (i + 1) (a.put d (a.eval x)) s Φ :=
  (d_still rfl).trans ⟨fun ⟨_, hv, h⟩ => by cases hv; exact h, fun h => ⟨_, rfl, h⟩⟩
theorem d_build {t ps} : okD X K ops base c F (⟨d, .build t ps, ty, pos, af, none⟩ :: l) i a s Φ ↔ ∃ v, buildA X t (ps.toList.map fun (i, x) => (i, a.eval x)) = some v ∧ noteOk c F i ([]) s s ∧ okD X K ops base c F l (i + 1) (a.put d v) s Φ := d_still rfl
theorem d_nilCheck {x} : okD X K ops base c F (⟨d, .nilCheck x, ty, pos, af, none⟩ :: l) i a s Φ ↔ ∃ v, nilCheckA (a.eval x) = some v ∧ noteOk c F i ([]) s s ∧ okD X K ops base c F l (i + 1) (a.put d v) s Φ := d_still rfl
theorem d_unOp {o t x} : okD X K ops base c F (⟨d, .unOp o t x, ty, pos, af, none⟩ :: l) i a s Φ ↔ ∃ v, unop o (a.eval x) = some v ∧ noteOk c F i ([]) s s ∧ okD X K ops base c F l (i + 1) (a.put d v) s Φ := d_still rfl
theorem d_convert {t0 t x} : okD X K ops base c F (⟨d, .convert t0 t x, ty, pos, af, none⟩ :: l) i a s Φ ↔ ∃ v, convertA X t0 t (a.eval x) = some v ∧ noteOk c F i ([]) s s ∧ okD X K ops base c F l (i + 1) (a.put d v) s Φ := d_still rfl
theorem d_slice {t x lo hi mx} : okD X K ops base c F (⟨d, .slice t x lo hi mx, ty, pos, af, none⟩ :: l) i a s Φ ↔ ∃ v, sliceA X s.look t (a.eval x) (lo.map a.eval) (hi.map a.eval) (mx.map a.eval) = some v ∧ noteOk c F i (nameOf (a.eval x)) s s ∧ okD X K ops base c F l (i + 1) (a.put d v) s Φ := d_still rfl
theorem d_fieldAddr {t x f} : okD X K ops base c F (⟨d, .fieldAddr t x f, ty, pos, af, none⟩ :: l) i a s Φ ↔ ∃ v, fieldAddrA X t (a.eval x) f = some v ∧ noteOk c F i ([]) s s ∧ okD X K ops base c F l (i + 1) (a.put d v) s Φ := d_still rfl
theorem d_field {t x f} : okD X K ops base c F (⟨d, .field t x f, ty, pos, af, none⟩ :: l) i a s Φ ↔ ∃ v, fieldA X t (a.eval x) f = some v ∧ noteOk c F i ([]) s s ∧ okD X K ops base c F l (i + 1) (a.put d v) s Φ := d_still rfl
theorem d_indexAddr {t x y} : okD X K ops base c F (⟨d, .indexAddr t x y, ty, pos, af, none⟩ :: l) i a s Φ ↔ ∃ v, indexAddrA X t (a.eval x) (a.eval y) = some v ∧ noteOk c F i ([]) s s ∧ okD X K ops base c F l (i + 1) (a.put d v) s Φ := d_still rfl
theorem d_index {t x y} : okD X K ops base c F (⟨d, .index t x y, ty, pos, af, none⟩ :: l) i a s Φ ↔ ∃ v, indexA X t (a.eval x) (a.eval y) = some v ∧ noteOk c F i ([]) s s ∧ okD X K ops base c F l (i + 1) (a.put d v) s Φ := d_still rfl
theorem d_lookup {t x y b} : okD X K ops base c F (⟨d, .lookup t x y b, ty, pos, af, none⟩ :: l) i a s Φ ↔ ∃ v, lookupA X s.look t (a.eval x) (a.eval y) b = some v ∧ noteOk c F i (nameOf (a.eval x)) s s ∧ okD X K ops base c F l (i + 1) (a.put d v) s Φ := d_still rfl
theorem d_makeInterface {t x} : okD X K ops base c F (⟨d, .makeInterface t x, ty, pos, af, none⟩ :: l) i a s Φ ↔ ∃ v, stillA X s.look a.eval (.makeInterface t x) = some v ∧ noteOk c F i ([]) s s ∧ okD X K ops base c F l (i + 1) (a.put d v) s Φ := d_still rfl
theorem d_typeAssert {x t1 t b} : okD X K ops base c F (⟨d, .typeAssert x t1 t b, ty, pos, af, none⟩ :: l) i a s Φ ↔ ∃ v, typeAssertA X (a.eval x) t b = some v ∧ noteOk c F i ([]) s s ∧ okD X K ops base c F l (i + 1) (a.put d v) s Φ := d_still rfl
theorem d_entry {x} : okD X K ops base c F (⟨d, .entry x, ty, pos, af, none⟩ :: l) i a s Φ ↔ ∃ v, entryA s.look (a.eval x) = some v ∧ noteOk c F i (readsOf a.eval s.look (.entry x)) s s ∧ okD X K ops base c F l (i + 1) (a.put d v) s Φ := d_still rfl
theorem d_len {x t} : okD X K ops base c F (⟨d, .call ⟨.builtin .len, #[x], #[t]⟩, ty, pos, af, none⟩ :: l) i a s Φ ↔ ∃ v, lenOfA X s.look t (a.eval x) = some v ∧ noteOk c F i (nameOf (a.eval x)) s s ∧ okD X K ops base c F l (i + 1) (a.put d v) s Φ := d_still rfl
end
section
variable {q : Bool} {X : Env} {K : Orc} {ops : Array Oper} {d : Option Tmp} {ty : TypeId} {pos : String} {af : Array Edge} {l : List Oper} {a : ACt} {s : St} {Φ : ACt → St → Prop}
theorem o_makeInterface {t x} : okO q X K ops (⟨d, .makeInterface t x, ty, pos, af, none⟩ :: l) a s Φ ↔ ∃ v, stillA X s.look a.eval (.makeInterface t x) = some v ∧ okO q X K ops l (a.put d v) s Φ := okO_still rfl
theorem o_typeAssert {x t1 t b} : okO q X K ops (⟨d, .typeAssert x t1 t b, ty, pos, af, none⟩ :: l) a s Φ ↔ ∃ v, typeAssertA X (a.eval x) t b = some v ∧ okO q X K ops l (a.put d v) s Φ := okO_still rfl
theorem o_entry {x} : okO q X K ops (⟨d, .entry x, ty, pos, af, none⟩ :: l) a s Φ ↔ ∃ v, entryA s.look (a.eval x) = some v ∧ okO q X K ops l (a.put d v) s Φ := okO_still rfl
theorem o_mapUpdate {t m k x} : okO q X K ops (⟨d, .mapUpdate t m k x, ty, pos, af, none⟩ :: l) a s Φ ↔ ∃ s', mapPut X s t (a.eval m) (a.eval k) (a.eval x) = some s' ∧ okO q X K ops l (a.put d undef) s' Φ := by
  constructor
  · rintro ⟨n, hn⟩
    rw [runOps, if_pos (wanted_none ..)] at hn
    simp only [execA, show kindOf (.mapUpdate t m k x) = .effect from rfl, effectA] at hn
    cases hp : mapPut X s t (a.eval m) (a.eval k) (a.eval x) with
    | none => rw [hp] at hn; exact hn.elim
    | some s' => rw [hp] at hn; exact ⟨s', rfl, n, hn⟩
  · rintro ⟨s', hv, h⟩
    exact .effect rfl rfl (v := undef) (s' := s') (fun c r => by simp only [effectA, hv]) h
theorem o_builtin {b as0 ts} {g : Option (Value × St)} (he : ∀ (c : CallF) (r : RoundF), effectA X c r s a.eval (.call ⟨.builtin b, as0, ts⟩) = .ofOption "x" g ∨ ∃ w, effectA X c r s a.eval (.call ⟨.builtin b, as0, ts⟩) = .ofOption w g)
    (hk : kindOf (.call ⟨.builtin b, as0, ts⟩) = .effect) : okO q X K ops (⟨d, .call ⟨.builtin b, as0, ts⟩, ty, pos, af, none⟩ :: l) a s Φ ↔ ∃ v s', g = some (v, s') ∧ okO q X K ops l (a.put d v) s' Φ := by
  have he' : ∀ (c : CallF) (r : RoundF), ∃ w, effectA X c r s a.eval (.call ⟨.builtin b, as0, ts⟩) = .ofOption w g := fun c r => (he c r).elim (fun h => ⟨_, h⟩) id
  constructor
  · rintro ⟨n, hn⟩
    rw [runOps, if_pos (wanted_none ..)] at hn
    obtain ⟨w, hw⟩ := he' (callO X K n) (roundO X K n)
    simp only [execA, hk, hw] at hn
    cases g with
    | none => exact hn.elim
    | some p => rcases p with ⟨v, s'⟩; exact ⟨v, s', rfl, n, hn⟩
  · rintro ⟨v, s', rfl, h⟩
    refine .effect rfl hk (v := v) (s' := s') (fun c r => ?_) h
    obtain ⟨w, hw⟩ := he' c r
    rw [hw]; rfl
theorem o_copy {as0 ts} : okO q X K ops (⟨d, .call ⟨.builtin .copy, as0, ts⟩, ty, pos, af, none⟩ :: l) a s Φ ↔ ∃ v s', copyA X s ts (as0.toList.map a.eval) = some (v, s') ∧ okO q X K ops l (a.put d v) s' Φ := o_builtin (fun _ _ => .inr ⟨_, rfl⟩) rfl
theorem o_clear {as0 ts} : okO q X K ops (⟨d, .call ⟨.builtin .clear, as0, ts⟩, ty, pos, af, none⟩ :: l) a s Φ ↔ ∃ v s', clearA X s ts (as0.toList.map a.eval) = some (v, s') ∧ okO q X K ops l (a.put d v) s' Φ := o_builtin (fun _ _ => .inr ⟨_, rfl⟩) rfl
theorem o_delete {as0 ts} : okO q X K ops (⟨d, .call ⟨.builtin .delete, as0, ts⟩, ty, pos, af, none⟩ :: l) a s Φ ↔ ∃ v s', deleteA X s ts (as0.toList.map a.eval) = some (v, s') ∧ okO q X K ops l (a.put d v) s' Φ := o_builtin (fun _ _ => .inr ⟨_, rfl⟩) rfl
end

/-! ### Operations that make memory, functions as0 values, max and min -/
def okAl (o : Option (Value × (Nat → AObj))) (k : Value → (Nat → AObj) → Prop) : Prop := match o with
  | some (v, f) => k v f
  | none => False
theorem okAl_some (v : Value) (f : Nat → AObj) (k : Value → (Nat → AObj) → Prop) : okAl (some (v, f)) k = k v f := rfl
theorem okAl_iff (o : Option (Value × (Nat → AObj))) (k : Value → (Nat → AObj) → Prop) : okAl o k ↔ ∃ v f, o = some (v, f) ∧ k v f := by
  cases o with
  | none => exact ⟨fun h => h.elim, fun ⟨_, _, h, _⟩ => by cases h⟩
  | some p => rcases p with ⟨v, f⟩; exact ⟨fun h => ⟨v, f, rfl, h⟩, fun ⟨_, _, h, k⟩ => by cases h; exact k⟩
noncomputable def bsA (X : Env) (nm : Nat) (t len : Nat) (parts : List (Nat × Value)) : Option (Value × (Nat → AObj)) := match X.ty t with
  | some { desc := .slice e, .. } => match X.ty e with
    | some { zero := some z, size := esz, .. } =>
      if len * esz ≤ 2 ^ 24 then
        match Instr.fill (fun i => some (i * esz, esz)) ((Array.range (len * esz)).map (z.cells[· % z.cells.size]!)) parts with
        | some cs => some (.slice (some ⟨nm, 0, none⟩) len len, fun v => .cells (PT.ofList cs.toList) [] cs.size e false false v)
        | none => none
      else none
    | _ => none
  | _ => none
theorem alloc_bs (X : Env) (nm : Nat) (ρ : Operand → Value) (t len : Nat) (parts : Array (Nat × Operand)) : allocA X nm ρ (.buildSlice t len parts) = bsA X nm t len (parts.toList.map fun (i, x) => (i, ρ x)) := rfl
def mkA (X : Env) (nm : Nat) (t : Nat) (l c : Value) : Option (Value × (Nat → AObj)) := match X.ty t, l, c with
    | some { desc := .slice e, .. }, .int .i64 l, .int .i64 c => match X.ty e with
      | some { zero := some z, size := esz, bytes, .. } =>
        if 0 ≤ l ∧ l ≤ c ∧ c < 2 ^ 40 ∧ bytes * c ≤ 2 ^ 48 ∧ z.cells.size = esz then
          some (.slice (some ⟨nm, 0, none⟩) l.toNat c.toNat, fun v => .cells .nil z.cells.toList (c.toNat * esz) e false false v)
        else none
      | _ => none
    | _, _, _ => none
theorem alloc_mks (X : Env) (nm : Nat) (ρ : Operand → Value) (t : Nat) (l c : Operand) : allocA X nm ρ (.makeSlice t l c) = mkA X nm t (ρ l) (ρ c) := rfl
def mmA (X : Env) (nm : Nat) (t : Nat) (r : Option Value) : Option (Value × (Nat → AObj)) := match X.ty t, r with
    | some { desc := .map _ _, .. }, none => some (.map (some nm), fun v => .map [] 0 v)
    | some { desc := .map _ _, .. }, some (.int _ _) => some (.map (some nm), fun v => .map [] 0 v)
    | _, _ => none
theorem alloc_mm (X : Env) (nm : Nat) (ρ : Operand → Value) (t : Nat) (r : Option Operand) : allocA X nm ρ (.makeMap t r) = mmA X nm t (r.map ρ) := rfl
theorem alloc_box (X : Env) (nm : Nat) (ρ : Operand → Value) (e : Nat) (x : Operand) : allocA X nm ρ (.box e x) = some (.pointer (some ⟨nm, 0, none⟩), fun v => .cells (PT.ofList (ρ x).cells.toList) [] (ρ x).cells.size e false false v) := rfl
theorem mm_max (x y : Int) : minmaxA (fun x y => decide (y > x)) (.int .i64 x) [.int .i64 y] = some (.int .i64 (max x y)) := by
  simp only [minmaxA, if_true, decide_eq_true_eq]
  congr 2
  omega
theorem mm_min (x y : Int) : minmaxA (fun x y => decide (y < x)) (.int .i64 x) [.int .i64 y] = some (.int .i64 (min x y)) := by
  simp only [minmaxA, if_true, decide_eq_true_eq]
  congr 2
  omega
def okCallV (q : Bool) (X : Env) (K : Orc) (s : St) (f : Value) (args : List Value) (Ψ : Value → St → Prop) : Prop := ∃ n, (callV X (callO X K n) (roundO X K n) s f args).AllQ q fun p => Ψ p.1 p.2
theorem cv_func {q : Bool} {X : Env} {K : Orc} {s : St} {f : FuncId} {fi ca : Array Value} {args : List Value} {Ψ : Value → St → Prop} : okCallV q X K s (.func (.func f) fi ca) args Ψ ↔ okF q X K f (fi.toList ++ args ++ ca.toList) s Ψ := Iff.rfl
theorem cv_yield {q : Bool} {X : Env} {K : Orc} {s : St} {l : Nat} {fi ca : Array Value} {args : List Value} {Ψ : Value → St → Prop} : okCallV q X K s (.func (.yield l) fi ca) args Ψ ↔ okR q X K l (fi.toList ++ args) s Ψ := Iff.rfl
section
variable {q : Bool} {X : Env} {K : Orc} {ops : Array Oper} {d : Option Tmp} {ty : TypeId} {pos : String} {af : Array Edge} {l : List Oper} {a : ACt} {s : St} {Φ : ACt → St → Prop}
theorem o_alloc {op : Op} (hk : kindOf op = .alloc) : okO q X K ops (⟨d, op, ty, pos, af, none⟩ :: l) a s Φ ↔ okAl (allocA X s.next a.eval op) fun v f => okO q X K ops l (a.put d v) (s.new f) Φ :=
  (okO_alloc hk).trans (okAl_iff _ _).symm
theorem o_allocE {e} : okO q X K ops (⟨d, .alloc e, ty, pos, af, none⟩ :: l) a s Φ ↔ okAl (allocA X s.next a.eval (.alloc e)) fun v f => okO q X K ops l (a.put d v) (s.new f) Φ := o_alloc rfl
theorem o_box {e x} : okO q X K ops (⟨d, .box e x, ty, pos, af, none⟩ :: l) a s Φ ↔ okO q X K ops l (a.put d (.pointer (some ⟨s.next, 0, none⟩))) (s.new fun v => .cells (PT.ofList (a.eval x).cells.toList) [] (a.eval x).cells.size e false false v) Φ := o_alloc rfl
theorem o_bs {t n ps} : okO q X K ops (⟨d, .buildSlice t n ps, ty, pos, af, none⟩ :: l) a s Φ ↔ okAl (bsA X s.next t n (ps.toList.map fun (i, x) => (i, a.eval x))) fun v f => okO q X K ops l (a.put d v) (s.new f) Φ := o_alloc rfl
theorem o_mks {t n c} : okO q X K ops (⟨d, .makeSlice t n c, ty, pos, af, none⟩ :: l) a s Φ ↔ okAl (mkA X s.next t (a.eval n) (a.eval c)) fun v f => okO q X K ops l (a.put d v) (s.new f) Φ := o_alloc rfl
theorem o_mm {t r} : okO q X K ops (⟨d, .makeMap t r, ty, pos, af, none⟩ :: l) a s Φ ↔ okAl (mmA X s.next t (r.map a.eval)) fun v f => okO q X K ops l (a.put d v) (s.new f) Φ := o_alloc rfl
theorem o_max {x y ts} : okO q X K ops (⟨d, .call ⟨.builtin .max, #[x, y], ts⟩, ty, pos, af, none⟩ :: l) a s Φ ↔ ∃ v, minmaxA (fun x y => decide (y > x)) (a.eval x) [a.eval y] = some v ∧ okO q X K ops l (a.put d v) s Φ := okO_still rfl
theorem o_min {x y ts} : okO q X K ops (⟨d, .call ⟨.builtin .min, #[x, y], ts⟩, ty, pos, af, none⟩ :: l) a s Φ ↔ ∃ v, minmaxA (fun x y => decide (y < x)) (a.eval x) [a.eval y] = some v ∧ okO q X K ops l (a.put d v) s Φ := okO_still rfl
theorem o_makeFunc {f fi ca} : okO q X K ops (⟨d, .makeFunc (.func f) fi ca, ty, pos, af, none⟩ :: l) a s Φ ↔ okO q X K ops l (a.put d (.func (.func f) (fi.toList.map a.eval).toArray (ca.toList.map a.eval).toArray)) s Φ := by
  refine (okO_still rfl).trans ?_
  simp only [stillA, Option.some.injEq, exists_eq_left']
  rw [← Array.toList_map, ← Array.toList_map, Array.toArray_toList, Array.toArray_toList]
theorem o_callv {t as0 ts} : okO q X K ops (⟨d, .call ⟨.value (.tmp t), as0, ts⟩, ty, pos, af, none⟩ :: l) a s Φ ↔ okCallV q X K s (a.getT t) (as0.toList.map a.eval) fun v s => okO q X K ops l (a.put d v) s Φ := by
  have hv : ∀ (c : CallF) (r : RoundF), effectA X c r s a.eval (.call ⟨.value (.tmp t), as0, ts⟩) = callV X c r s (a.getT t) (as0.toList.map a.eval) := fun c r => rfl
  constructor
  · rintro ⟨n, hn⟩
    rw [runOps, if_pos (wanted_none ..)] at hn
    simp only [execA, show kindOf (.call ⟨.value (.tmp t), as0, ts⟩) = .effect from rfl, hv] at hn
    rw [Res.AllQ_bind] at hn
    exact ⟨n, hn.mono fun p hq => ⟨n, hq⟩⟩
  · rintro ⟨n, hn⟩
    obtain ⟨m, hm⟩ := Res.AllQ_uniform (Q := fun m (p : Value × St) => (runOps X (callO X K m) (roundO X K m) ops l (a.put d p.1) p.2).AllQ q fun (p : ACt × St) => Φ p.1 p.2)
      (fun m p hq => runOps_up (Φ := fun p => Φ p.1 p.2) (Nat.le_succ m) hq) hn
    refine ⟨max n m, ?_⟩
    rw [runOps, if_pos (wanted_none ..)]
    simp only [execA, show kindOf (.call ⟨.value (.tmp t), as0, ts⟩) = .effect from rfl, hv]
    rw [Res.AllQ_bind]
    refine (Res.le.allQ (callV_le (X := X) ?_ ?_ _ _ _) hm).mono fun p hq => runOps_up (Φ := fun p => Φ p.1 p.2) (Nat.le_max_right n m) hq
    · intro f args s
      exact callO_up (Nat.le_max_left n m) f args s
    · intro f args s
      exact roundO_up (Nat.le_max_left n m) f args s
end
section
variable {X : Env} {K : Orc} {ops : Array Oper} {base i : Nat} {c : List (Nat × Nat)} {F : List Nat} {d : Option Tmp} {ty : TypeId} {pos : String} {af : Array Edge} {l : List Oper} {a : ACt} {s : St} {Φ : ACt → St → Prop}
theorem d_allocG {op : Op} (hk : kindOf op = .alloc) (hr : readsOf a.eval s.look op = []) : okD X K ops base c F (⟨d, op, ty, pos, af, none⟩ :: l) i a s Φ ↔ okAl (allocA X (base + 2 * i) a.eval op) fun v f => noteOk c F i [] s (s.put (base + 2 * i) f) ∧ okD X K ops base c F l (i + 1) (a.put d v) (s.put (base + 2 * i) f) Φ := by
  rw [d_alloc hk, okAl_iff, hr]
theorem d_allocE {e} : okD X K ops base c F (⟨d, .alloc e, ty, pos, af, none⟩ :: l) i a s Φ ↔ okAl (allocA X (base + 2 * i) a.eval (.alloc e)) fun v f => noteOk c F i [] s (s.put (base + 2 * i) f) ∧ okD X K ops base c F l (i + 1) (a.put d v) (s.put (base + 2 * i) f) Φ := d_allocG rfl rfl
theorem d_bs {t n ps} : okD X K ops base c F (⟨d, .buildSlice t n ps, ty, pos, af, none⟩ :: l) i a s Φ ↔ okAl (bsA X (base + 2 * i) t n (ps.toList.map fun (i, x) => (i, a.eval x))) fun v f => noteOk c F i [] s (s.put (base + 2 * i) f) ∧ okD X K ops base c F l (i + 1) (a.put d v) (s.put (base + 2 * i) f) Φ := d_allocG rfl rfl
theorem d_mks {t n c'} : okD X K ops base c F (⟨d, .makeSlice t n c', ty, pos, af, none⟩ :: l) i a s Φ ↔ okAl (mkA X (base + 2 * i) t (a.eval n) (a.eval c')) fun v f => noteOk c F i [] s (s.put (base + 2 * i) f) ∧ okD X K ops base c F l (i + 1) (a.put d v) (s.put (base + 2 * i) f) Φ := d_allocG rfl rfl
theorem d_mm {t r} : okD X K ops base c F (⟨d, .makeMap t r, ty, pos, af, none⟩ :: l) i a s Φ ↔ okAl (mmA X (base + 2 * i) t (r.map a.eval)) fun v f => noteOk c F i [] s (s.put (base + 2 * i) f) ∧ okD X K ops base c F l (i + 1) (a.put d v) (s.put (base + 2 * i) f) Φ := d_allocG rfl rfl
theorem d_box {e x} : okD X K ops base c F (⟨d, .box e x, ty, pos, af, none⟩ :: l) i a s Φ ↔ noteOk c F i [] s (s.put (base + 2 * i) fun v => .cells (PT.ofList (a.eval x).cells.toList) [] (a.eval x).cells.size e false false v) ∧ okD X K ops base c F l (i + 1) (a.put d (.pointer (some ⟨base + 2 * i, 0, none⟩))) (s.put (base + 2 * i) fun v => .cells (PT.ofList (a.eval x).cells.toList) [] (a.eval x).cells.size e false false v) Φ := d_allocG rfl rfl
theorem d_max {x y ts} : okD X K ops base c F (⟨d, .call ⟨.builtin .max, #[x, y], ts⟩, ty, pos, af, none⟩ :: l) i a s Φ ↔ ∃ v, minmaxA (fun x y => decide (y > x)) (a.eval x) [a.eval y] = some v ∧ noteOk c F i (nameOf (a.eval x)) s s ∧ okD X K ops base c F l (i + 1) (a.put d v) s Φ := d_still rfl
theorem d_min {x y ts} : okD X K ops base c F (⟨d, .call ⟨.builtin .min, #[x, y], ts⟩, ty, pos, af, none⟩ :: l) i a s Φ ↔ ∃ v, minmaxA (fun x y => decide (y < x)) (a.eval x) [a.eval y] = some v ∧ noteOk c F i (nameOf (a.eval x)) s s ∧ okD X K ops base c F l (i + 1) (a.put d v) s Φ := d_still rfl
theorem d_makeFunc {f fi ca} : okD X K ops base c F (⟨d, .makeFunc (.func f) fi ca, ty, pos, af, none⟩ :: l) i a s Φ ↔ noteOk c F i [] s s ∧ okD X K ops base c F l (i + 1) (a.put d (.func (.func f) (fi.toList.map a.eval).toArray (ca.toList.map a.eval).toArray)) s Φ := by
  refine (d_still rfl).trans ?_
  simp only [stillA, Option.some.injEq, exists_eq_left', readsOf]
  rw [← Array.toList_map, ← Array.toList_map, Array.toArray_toList, Array.toArray_toList]
end
end Go.Dust
end
