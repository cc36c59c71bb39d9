/- Dz UB UM UN UO -/
import Derived.Test.YtelmjodchophjaaGreatDoorN
import Derived.Test.YtelmjodchophjaaGreatDoorI
import Derived.Test.YtelmjodchophjaaGreatDoorF
import Derived.Test.YtelmjodchophjaaGreatDoorRows
import Derived.ProofKit
import Derived.OpenShut
import Derived.LaidMore
import Derived.Stop.LaidErr
import Derived.Stop.Joined
import Derived.Lib.LaidTab
set_option linter.unusedVariables false
set_option linter.unusedSimpArgs false
section
/- The twin, part 4: regions whose order is drawn, code, and the whole. -/
noncomputable section
namespace Go.Dust
open PT (getK getK_eq setK setK_eq setLK setLK_eq ofListK ofListK_eq)

/-! ### Regions whose order is drawn -/
def execNK (X : Env) (call : CallK) (round : RoundK) (nm : Nat) (s : St) (a : ACt) (op : Op) (k : Value → St → Bool) : Bool := match kindOf op with
  | .still => stillK X s a op fun v => k v s
  | .alloc => match s with
    | ⟨h, nx, c⟩ => allocK X nm c a op fun v o => putK ⟨h, nx, c⟩ nm (fun _ => o) fun s => k v s
  | .effect => effectK X call round s a op k
theorem execNK_eq {X c r ck rk} (hc : RelC c ck) (hr : RelC r rk) (nm s a op k) : execNK X ck rk nm s a op k = optE (execN X c r nm s a.eval op) fun p => k p.1 p.2 := by
  unfold execNK execN
  cases kindOf op with
  | still => simp only [stillK_eq]; cases stillA X s.look a.eval op <;> rfl
  | alloc =>
    simp only [allocK_eq, putK_eq]
    cases allocA X nm a.eval op with
    | none => rfl
    | some p => rcases p with ⟨v, f⟩; rfl
  | effect =>
    refine (effectK_eq hc hr _ _ _ _).trans ?_
    cases effectA X c r s a.eval op <;> rfl
def readsK (a : ACt) (s : St) (op : Op) (k : List Nat → Bool) : Bool := match op with
  | .load _ x => evalK a x fun v => k (nameOf v)
  | .binOp _ _ x y _ => evalK a x fun v => evalK a y fun w => k (nameOf v ++ nameOf w)
  | .slice _ x _ _ _ => evalK a x fun v => k (nameOf v)
  | .lookup _ x _ _ => evalK a x fun v => k (nameOf v)
  | .entry it => k (readsOf a.eval s.look (.entry it))
  | .call c => match c.args[0]? with
    | some x => evalK a x fun v => k (nameOf v)
    | none => k []
  | _ => k []
theorem readsK_eq (a s op k) : readsK a s op k = k (readsOf a.eval s.look op) := by
  cases op with
  | call c => simp only [readsK, readsOf]; cases c.args[0]? <;> simp only [evalK_eq]
  | _ => first | rfl | simp only [readsK, evalK_eq, readsOf]
def logK (X : Env) (call : CallK) (round : RoundK) (ops : Array Oper) (base : Nat) (l : List Oper) : Nat → ACt → St → (ACt → St → List Note → Bool) → Bool :=
  List.rec (motive := fun _ => Nat → ACt → St → (ACt → St → List Note → Bool) → Bool) (fun _ a s k => k a s [])
  (fun o _ ih i a s k => wantedK ops a o
    (fNat (base + 2 * i) fun nm => readsK a s o.op fun rd => execNK X call round nm s a o.op fun v s' => putTK a o.dst v fun a' => fNat (Nat.succ i) fun i => ih i a' s' fun a2 s2 l => k a2 s2 ({ ran := true, reads := rd, pre := s, post := s' } :: l))
    (putTK a o.dst undef fun a' => fNat (Nat.succ i) fun i => ih i a' s fun a2 s2 l => k a2 s2 ({ ran := false, reads := [], pre := s, post := s } :: l))) l
theorem logK_eq {X c r ck rk} (hc : RelC c ck) (hr : RelC r rk) (ops base) : ∀ (l i a s k), logK X ck rk ops base l i a s k = optE (logOps X c r ops base l i a s) fun p => k p.1 p.2.1 p.2.2
  | [], _, _, _, _ => rfl
  | o :: l, i, a, s, k => by
    show wantedK ops a o
      (fNat (base + 2 * i) fun nm => readsK a s o.op fun rd => execNK X ck rk nm s a o.op fun v s' => putTK a o.dst v fun a' => fNat (Nat.succ i) fun i => logK X ck rk ops base l i a' s' fun a2 s2 l => k a2 s2 ({ ran := true, reads := rd, pre := s, post := s' } :: l))
      (putTK a o.dst undef fun a' => fNat (Nat.succ i) fun i => logK X ck rk ops base l i a' s fun a2 s2 l => k a2 s2 ({ ran := false, reads := [], pre := s, post := s } :: l)) = _
    rw [wantedK_eq, logOps]
    split
    · simp only [fNat_eq, readsK_eq, execNK_eq hc hr, putTK_eq, logK_eq hc hr ops base l]
      cases execN X c r (base + 2 * i) s a.eval o.op with
      | none => rfl
      | some p =>
        rcases p with ⟨v, s'⟩
        simp only [optE]
        show optE (logOps X c r ops base l (i + 1) (a.put o.dst v) s') _ = _
        cases logOps X c r ops base l (i + 1) (a.put o.dst v) s' <;> rfl
    · simp only [fNat_eq, putTK_eq, logK_eq hc hr ops base l]
      show optE (logOps X c r ops base l (i + 1) (a.put o.dst undef) s) _ = _
      cases logOps X c r ops base l (i + 1) (a.put o.dst undef) s <;> rfl
def verK (o : AObj) (k : Nat → Bool) : Bool := match o with
  | .cells _ _ _ _ _ _ v => k v
  | .map _ _ v => k v
  | .miter _ _ _ _ v => k v
  | .siter _ _ v => k v
  | .loop _ _ _ _ _ _ _ v => k v
  | .dead => false
theorem verK_eq (o k) : verK o k = if o.isDead = true then false else k o.ver := by cases o <;> rfl
def sameK (s s' : St) (b : Nat) (x : Bool) : Bool := match s, s' with
  | ⟨h, _, cl⟩, ⟨h', _, _⟩ => getK h b fun o => match o with
    | some o => getK h' b fun o' => match o' with
      | some o' => verK o fun v => verK o' fun v' => Bool.rec (motive := fun _ => Bool) false (Bool.rec (motive := fun _ => Bool) false x (Nat.ble (Nat.succ v) cl)) (Nat.beq v v')
      | none => false
    | none => false
theorem sameK_eq (s s' b x) : sameK s s' b x = andK (sameObj s s' b) x := by
  rcases s with ⟨h, nx, cl⟩
  rcases s' with ⟨h', nx', cl'⟩
  simp only [sameK, getK_eq, sameObj]
  cases h.get b with
  | none => rfl
  | some o =>
    simp only
    cases h'.get b with
    | none => rfl
    | some o' =>
      simp only [verK_eq]
      cases o.isDead with
      | true => rfl
      | false => cases o'.isDead with
        | true => rfl
        | false =>
          have h1 : Nat.beq o.ver o'.ver = (o.ver == o'.ver) := by
            cases hb : Nat.beq o.ver o'.ver with
            | true => have := Nat.eq_of_beq_eq_true hb; simp [this]
            | false => have := Nat.ne_of_beq_eq_false hb; simp [this]
          have h2 : Nat.ble (Nat.succ o.ver) cl = decide (o.ver < cl) := by
            cases hb : Nat.ble (Nat.succ o.ver) cl with
            | true => have := Nat.le_of_ble_eq_true hb; exact (decide_eq_true this).symm
            | false =>
              refine (decide_eq_false fun h => ?_).symm
              rw [Nat.ble_eq_true_of_le (Nat.succ_le_of_lt h)] at hb; cases hb
          simp only [Bool.false_eq_true, if_false, h1, h2]
          cases (o.ver == o'.ver) <;> cases decide (o.ver < cl) <;> rfl
def readsAllK (l : List Nat) (s s' : St) (x : Bool) : Bool := List.rec (motive := fun _ => Bool) x (fun b _ ih => sameK s s' b ih) l
theorem readsAllK_eq (s s' x) : ∀ l, readsAllK l s s' x = andK (l.all fun b => sameObj s s' b) x
  | [] => rfl
  | b :: l => by
    show sameK s s' b (readsAllK l s s' x) = _
    rw [sameK_eq, readsAllK_eq s s' x l, List.all_cons]
    cases sameObj s s' b <;> rfl
def logOkK (log : List Note) (c : List (Nat × Nat)) (x : Bool) : Bool := List.rec (motive := fun _ => Bool) x (fun p _ ih => match p with
  | ⟨i, j⟩ => nthK log i fun nx => match nx with
    | some nx => nthK log j fun nj => match nj with
      | some nj => match nx, nj with
        | ⟨ran, reads, _, _⟩, ⟨ran', _, pre, post⟩ => Bool.rec (motive := fun _ => Bool) ih (Bool.rec (motive := fun _ => Bool) ih (readsAllK reads pre post ih) ran') ran
      | none => false
    | none => false) c
theorem logOkK_eq (log x) : ∀ c, logOkK log c x = andK (logOk log c) x
  | [] => rfl
  | (i, j) :: c => by
    have h := logOkK_eq log x c
    show (nthK log i fun nx => match nx with
      | some nx => nthK log j fun nj => match nj with
        | some nj => match nx, nj with
          | ⟨ran, reads, _, _⟩, ⟨ran', _, pre, post⟩ => Bool.rec (motive := fun _ => Bool) (logOkK log c x) (Bool.rec (motive := fun _ => Bool) (logOkK log c x) (readsAllK reads pre post (logOkK log c x)) ran') ran
        | none => false
      | none => false) = _
    rw [h]
    simp only [nthK_eq, logOk, List.all_cons, readsAllK_eq]
    cases log[i]? with
    | none => rfl
    | some nx =>
      cases log[j]? with
      | none => rfl
      | some nj =>
        rcases nx with ⟨ran, reads, p1, p2⟩
        rcases nj with ⟨ran', r', pre, post⟩
        cases ran <;> cases ran' <;> first | rfl | (simp only; cases (reads.all fun b => sameObj pre post b) <;> rfl)
def drawnK (X : Env) (call : CallK) (round : RoundK) (ops : Array Oper) (a : ACt) (s : St) (k : ACt → St → Bool) : Bool := confK ops fun c => match s with
  | ⟨h, nx, cl⟩ => fNat (nx + 2 * ops.size) fun nx' => logK X call round ops nx ops.toList Nat.zero a ⟨h, nx', cl⟩ fun a s log => logOkK log c (k a s)
theorem drawnK_eq {X c r ck rk} (hc : RelC c ck) (hr : RelC r rk) (ops a s k) : drawnK X ck rk ops a s k = (drawnA X c r ops a s).elim fun p => k p.1 p.2 := by
  unfold drawnK drawnA
  rw [confK_eq]
  cases conf ops with
  | none => rfl
  | some l =>
    simp only [optE, fNat_eq, logK_eq hc hr, logOkK_eq]
    show optE (logOps X c r ops s.next ops.toList 0 a _) _ = _
    cases logOps X c r ops s.next ops.toList 0 a { heap := s.heap, next := s.next + 2 * ops.size, clk := s.clk } with
    | none => rfl
    | some p =>
      rcases p with ⟨a, s, log⟩
      simp only [optE]
      cases logOk log l <;> rfl

/-! ### Code -/
def resK1 (X : Env) (s : St) (a : ACt) (l : List ResultVar) : (List Value → Bool) → Bool := List.rec (motive := fun _ => (List Value → Bool) → Bool) (fun k => k []) (fun r _ ih k => match r with
  | .tmp t => evalK a (.tmp t) fun v => ih fun l => k (v :: l)
  | .cell t ty => evalK a (.tmp t) fun v => match v with
    | .pointer (some ad) => loadK X s ty ad fun v => ih fun l => k (v :: l)
    | _ => false) l
theorem resK1_eq (X s a) : ∀ (l k), resK1 X s a l k = optE (results1 X s.look a l) k
  | [], _ => rfl
  | .tmp t :: l, k => by
    show (evalK a (.tmp t) fun v => resK1 X s a l fun l => k (v :: l)) = _
    rw [evalK_eq, resK1_eq X s a l, results1]
    cases results1 X s.look a l <;> rfl
  | .cell t ty :: l, k => by
    show (evalK a (.tmp t) fun v => match v with
      | .pointer (some ad) => loadK X s ty ad fun v => resK1 X s a l fun l => k (v :: l)
      | _ => false) = _
    rw [evalK_eq, results1]
    simp only [ACt.eval]
    cases a.getT t with
    | pointer ad => cases ad with
      | none => rfl
      | some ad =>
        simp only [loadK_eq, resK1_eq X s a l]
        cases loadT X s.look ty ad with
        | none => rfl
        | some v => cases results1 X s.look a l <;> rfl
    | _ => rfl
def resultsK (X : Env) (s : St) (f : Func) (a : ACt) (k : Value → Bool) : Bool := resK1 X s a f.results.toList fun l => match l with
  | [v] => k v
  | l => k (.tuple ⟨l⟩)
theorem resultsK_eq (X s f a k) : resultsK X s f a k = optE (resultsA X s.look f a) k := by
  unfold resultsK resultsA
  rw [resK1_eq]
  cases results1 X s.look a f.results.toList with
  | none => rfl
  | some l => match l with
    | [] => rfl
    | [v] => rfl
    | v :: w :: l => rfl
def liveK (r : Option Nat) (s : St) (x : Bool) : Bool := match r with
  | none => x
  | some l => match s with
    | ⟨h, _, _⟩ => getK h l fun o => match o with
      | some (.loop ..) => x
      | _ => false
theorem liveK_eq (r s x) : liveK r s x = andK (liveRound r s) x := by
  cases r with
  | none => rfl
  | some l =>
    simp only [liveK, getK_eq, liveRound]
    cases s.heap.get l with
    | none => rfl
    | some o => cases o <;> rfl
def argsK (l : List (Tmp × Value)) : PT Value → (PT Value → Bool) → Bool := List.rec (motive := fun _ => PT Value → (PT Value → Bool) → Bool) (fun t k => k t) (fun p _ ih t k => setK t p.1 p.2 fun t => ih t k) l
theorem argsK_eq : ∀ (l t k), argsK l t k = k (putArgs t l)
  | [], _, _ => rfl
  | (i, v) :: l, t, k => by
    show (setK t i v fun t => argsK l t k) = _
    rw [setK_eq, argsK_eq l]; rfl

inductive Mode where
  | code (r : Option Nat) (c : Code) (a : ACt)
  | call (f : FuncId) (args : List Value)
  | round (l : Nat) (args : List Value)
abbrev GoK := Mode → St → (AExit → ACt → St → Bool) → (Value → St → Bool) → Bool
def noKC (_ : AExit) (_ : ACt) (_ : St) : Bool := false
def noKV (_ : Value) (_ : St) : Bool := false
def callOf (g : GoK) : CallK := fun f args s k => g (.call f args) s noKC k
def roundOf (g : GoK) : RoundK := fun l args s k => g (.round l args) s noKC k
def codeK (X : Env) (g : GoK) (r : Option Nat) (c : Code) (a : ACt) (s : St) (k : AExit → ACt → St → Bool) : Bool := match c with
  | .skip => k .normal a s
  | .label _ => k .normal a s
  | .region _ ops draw => Bool.rec (motive := fun _ => Bool) (runK X (callOf g) (roundOf g) ops ops.toList a s fun a s => k .normal a s) (drawnK X (callOf g) (roundOf g) ops a s fun a s => k .normal a s) draw
  | .seq x y => g (.code r x a) s (fun e a s => match e with
    | .normal => g (.code r y a) s k noKV
    | e => k e a s) noKV
  | .cond c x y => evalK a c fun v => match v with
    | .bool b => Bool.rec (motive := fun _ => Bool) (g (.code r y a) s k noKV) (g (.code r x a) s k noKV) b
    | _ => false
  | .block id b => g (.code r b a) s (fun e a s => match e with
    | .exit i => Bool.rec (motive := fun _ => Bool) (k (.exit i) a s) (k .normal a s) (Nat.beq i id)
    | e => k e a s) noKV
  | .loop b => g (.code r b a) s (fun e a s => match e with
    | .normal => g (.code r (.loop b) a) s k noKV
    | e => k e a s) noKV
  | .exit id => k (.exit id) a s
  | .ret => k .ret a s
  | .rangeFunc f ps assign body => evalK a f fun v => match v with
    | .func (.func f) first captured => liveK r s (match s, a with
      | ⟨h, nx, cl⟩, ⟨tm, nt⟩ => appK [.func (.yield nx) #[] #[]] captured.toList fun l => appK first.toList l fun l => newK ⟨h, nx, cl⟩ (fun v => .loop .ready none tm nt ps assign body v) fun s1 =>
        g (.call f l) s1 noKC fun _ s' => match s' with
          | ⟨h', nx', cl'⟩ => getK h' nx fun o => match o with
            | some (.loop st pend t nt' ps as0 bd _) => if st = .busy then false else match pend with
              | none => putK ⟨h', nx', cl'⟩ nx (fun v => .loop .exhausted none t nt' ps as0 bd v) fun s => k .normal ⟨tm, nt⟩ s
              | some .ret => putK ⟨h', nx', cl'⟩ nx (fun v => .loop .exhausted (some .ret) t nt' ps as0 bd v) fun s => k .ret ⟨tm, nt⟩ s
              | some (.exit id) => putK ⟨h', nx', cl'⟩ nx (fun v => .loop .exhausted (some (.exit id)) t nt' ps as0 bd v) fun s => k (.exit id) ⟨tm, nt⟩ s
              | some _ => false
            | _ => false)
    | _ => false
  | _ => false
def callKK (X : Env) (g : GoK) (f : FuncId) (args : List Value) (s : St) (k : Value → St → Bool) : Bool := match X.fn f with
  | some fn => match fn.body with
    | some c => lenK args fun n => Bool.rec (motive := fun _ => Bool) false (ofListK args fun tm => g (.code none c ⟨tm, fn.ntmps⟩) s (fun e a s => match e with
      | .exit _ => false
      | _ => resultsK X s fn a fun v => k v s) noKV) (Nat.ble n fn.ntmps)
    | none => (externA s fn args).elim fun p => fV p.1 fun v => k v p.2
  | none => false
def roundKK (g : GoK) (l : Nat) (args : List Value) (s : St) (k : Value → St → Bool) : Bool := match s with
  | ⟨h, nx, cl⟩ => getK h l fun o => match o with
    | some (.loop .ready _ t nt ps assign body _) => lenK args fun n => Bool.rec (motive := fun _ => Bool) false
      (argsK (ps.toList.zip args) t fun t => g (.code (some l) assign ⟨t, nt⟩) ⟨h, nx, cl⟩ (fun e a s => match e with
        | .normal => match s with
          | ⟨h, nx, cl⟩ => getK h l fun o => match o with
            | some (.loop .ready pend t nt ps as0 bd _) => putK ⟨h, nx, cl⟩ l (fun v => .loop .busy pend t nt ps as0 bd v) fun s => g (.code (some l) body a) s (fun e _ s => match s with
              | ⟨h, nx, cl⟩ => getK h l fun o => match o with
                | some (.loop _ _ t nt ps as0 bd _) => match e with
                  | .normal => putK ⟨h, nx, cl⟩ l (fun v => .loop .ready none t nt ps as0 bd v) fun s => k (.bool true) s
                  | .ret => putK ⟨h, nx, cl⟩ l (fun v => .loop .done (some .ret) t nt ps as0 bd v) fun s => k (.bool false) s
                  | .exit id => putK ⟨h, nx, cl⟩ l (fun v => .loop .done (some (.exit id)) t nt ps as0 bd v) fun s => k (.bool false) s
                | _ => false) noKV
            | _ => false
        | _ => false) noKV) (Nat.beq n ps.size)
    | _ => false
def stepK (X : Env) (g : GoK) (m : Mode) (s : St) (kc : AExit → ACt → St → Bool) (kv : Value → St → Bool) : Bool := match m with
  | .code r c a => codeK X g r c a s kc
  | .call f args => callKK X g f args s kv
  | .round l args => roundKK g l args s kv
def goK (X : Env) (n : Nat) : GoK := Nat.rec (motive := fun _ => GoK) (fun _ _ _ _ => false) (fun _ g => stepK X g) n

def resOf (X : Env) (n : Nat) (m : Mode) (s : St) (kc : AExit → ACt → St → Bool) (kv : Value → St → Bool) : Bool := match m with
  | .code r c a => (code X n r c a s).elim fun p => kc p.1 p.2.1 p.2.2
  | .call f args => (callA X n f args s).elim fun p => kv p.1 p.2
  | .round l args => (roundA X n l args s).elim fun p => kv p.1 p.2
theorem goK_eq (X : Env) : ∀ (n m s kc kv), goK X n m s kc kv = resOf X n m s kc kv := by
  intro n
  induction n with
  | zero => intro m s kc kv; cases m <;> simp only [resOf] <;> first | (rw [code]; rfl) | (rw [callA]; rfl) | (rw [roundA]; rfl)
  | succ n ih =>
    have hcode : ∀ r c a s k, goK X n (.code r c a) s k noKV = (code X n r c a s).elim fun p => k p.1 p.2.1 p.2.2 := fun r c a s k => ih _ _ _ _
    have hcall : RelC (callA X n) (callOf (goK X n)) := fun f args s k => ih _ _ _ _
    have hround : RelC (roundA X n) (roundOf (goK X n)) := fun f args s k => ih _ _ _ _
    have hcall' : ∀ f args s k, goK X n (.call f args) s noKC k = (callA X n f args s).elim fun p => k p.1 p.2 := fun f args s k => ih _ _ _ _
    intro m s kc kv
    cases m with
    | code r c a =>
      show codeK X (goK X n) r c a s kc = (code X (n + 1) r c a s).elim fun p => kc p.1 p.2.1 p.2.2
      cases c with
      | region id ops draw =>
        rw [code, Res.elim_bind]
        cases draw with
        | false => exact runK_eq hcall hround _ _ _ _ _
        | true => exact drawnK_eq hcall hround _ _ _ _
      | seq x y =>
        rw [code, Res.elim_bind]
        refine (hcode _ _ _ _ _).trans ?_
        congr 1; funext p
        rcases p with ⟨e, a, s⟩
        cases e with
        | normal => exact hcode _ _ _ _ _
        | _ => rfl
      | cond c x y =>
        rw [code]
        simp only [codeK, evalK_eq]
        cases a.eval c with
        | bool b => cases b with
          | true => exact hcode _ _ _ _ _
          | false => exact hcode _ _ _ _ _
        | _ => rfl
      | block id b =>
        rw [code, Res.elim_bind]
        refine (hcode _ _ _ _ _).trans ?_
        congr 1; funext p
        rcases p with ⟨e, a, s⟩
        cases e with
        | exit i =>
          simp only
          cases hb : Nat.beq i id with
          | true => rw [if_pos (Nat.eq_of_beq_eq_true hb)]; rfl
          | false => rw [if_neg (Nat.ne_of_beq_eq_false hb)]; rfl
        | _ => rfl
      | loop b =>
        rw [code, Res.elim_bind]
        refine (hcode _ _ _ _ _).trans ?_
        congr 1; funext p
        rcases p with ⟨e, a, s⟩
        cases e with
        | normal => exact hcode _ _ _ _ _
        | _ => rfl
      | rangeFunc f ps assign body =>
        rw [code]
        simp only [codeK, evalK_eq]
        cases a.eval f with
        | func fn first captured =>
          cases fn with
          | func f =>
            simp only [liveK_eq]
            by_cases hl : liveRound r s = true
            · rw [if_pos hl, hl]
              simp only [andK]
              rcases s with ⟨h, nx, cl⟩
              rcases a with ⟨tm, nt⟩
              simp only [appK_eq, newK_eq, Res.elim_bind, hcall', List.append_assoc]
              congr 1; funext p
              rcases p with ⟨v, h', nx', cl'⟩
              simp only [getK_eq]
              cases h'.get nx with
              | none => rfl
              | some o =>
                cases o with
                | loop st pend t nt' ps as0 bd v =>
                  simp only
                  split
                  · rfl
                  · cases pend with
                    | none => simp only [putK_eq]; rfl
                    | some c => cases c <;> first | rfl | (simp only [putK_eq]; rfl)
                | _ => rfl
            · rw [if_neg hl, Bool.eq_false_iff.2 hl]; rfl
          | _ => rfl
        | _ => rfl
      | _ => rw [code]; rfl
    | call f args =>
      show callKK X (goK X n) f args s kv = (callA X (n + 1) f args s).elim fun p => kv p.1 p.2
      rw [callA]
      unfold callKK
      cases X.fn f with
      | none => rfl
      | some fn =>
        simp only
        cases fn.body with
        | none => simp only [fV_eq]
        | some c =>
          simp only [lenK_eq, ofListK_eq, hcode]
          cases hb : Nat.ble args.length fn.ntmps with
          | false =>
            rw [if_neg (fun h => by rw [Nat.ble_eq_true_of_le h] at hb; cases hb)]; rfl
          | true =>
            rw [if_pos (Nat.le_of_ble_eq_true hb), Res.elim_bind]
            refine congrArg (Res.elim _) (funext fun p => ?_)
            rcases p with ⟨e, a, s⟩
            cases e with
            | exit i => rfl
            | _ =>
              simp only [resultsK_eq]
              cases resultsA X s.look fn a <;> rfl
    | round l args =>
      show roundKK (goK X n) l args s kv = (roundA X (n + 1) l args s).elim fun p => kv p.1 p.2
      rw [roundA]
      rcases s with ⟨h, nx, cl⟩
      simp only [roundKK, getK_eq]
      cases h.get l with
      | none => rfl
      | some o =>
        cases o with
        | loop st pend t nt ps assign body v =>
          cases st with
          | ready =>
            simp only [lenK_eq, argsK_eq, hcode]
            cases hb : Nat.beq args.length ps.size with
            | false => rw [if_neg (Nat.ne_of_beq_eq_false hb)]; rfl
            | true =>
              rw [if_pos (Nat.eq_of_beq_eq_true hb), Res.elim_bind]
              refine congrArg (Res.elim _) (funext fun p => ?_)
              rcases p with ⟨e, a, h, nx, cl⟩
              cases e with
              | normal =>
                dsimp only
                cases h.get l with
                | none => rfl
                | some o =>
                  cases o with
                  | loop st pend t nt ps as0 bd v =>
                    cases st with
                    | ready =>
                      simp only [putK_eq, Res.elim_bind]
                      congr 1; funext p
                      rcases p with ⟨e, a, h, nx, cl⟩
                      dsimp only
                      cases h.get l with
                      | none => rfl
                      | some o =>
                        cases o with
                        | loop st pend t nt ps as0 bd v => cases e <;> rfl
                        | _ => rfl
                    | _ => rfl
                  | _ => rfl
              | _ => rfl
          | _ => rfl
        | _ => rfl

def isTrueK (v : Value) (_ : St) : Bool := match v with
  | .bool b => b
  | _ => false
theorem isTrue_of {X : Env} {n : Nat} {f : FuncId} {args : List Value} {s : St} (h : goK X n (.call f args) s noKC isTrueK = true) : isTrue (callA X n f args s) = true := by
  rw [goK_eq] at h
  simp only [resOf] at h
  cases hr : callA X n f args s with
  | ret p =>
    rcases p with ⟨v, s'⟩
    rw [hr] at h
    cases v with
    | bool b => cases b with
      | true => rfl
      | false => cases h
    | _ => cases h
  | _ => rw [hr] at h; cases h
end Go.Dust
end
end
section
/- What is given of some calls is true of the program. -/
namespace Go.Dust
open Go.Proofs Go.ChangeShapes Go.RowKit Go.WideShapes
set_option maxRecDepth 100000
set_option maxHeartbeats 1000000
set_option linter.unusedSimpArgs false
set_option linter.unusedVariables false
theorem ObjR.blk {Y : Env} {ι : Inj} {w : World} {l : Loc} {o : AObj} (h : ObjR Y ι w l o) (hd : o.isDead = false) : l.blk < w.heap.size := by
  have : ∀ x, w.heap[l.blk]? = some x → l.blk < w.heap.size := fun x hx => (Array.getElem?_eq_some_iff.1 hx).1
  cases o with
  | cells c z n e room ro ver => obtain ⟨arr, e', fz, h1, _⟩ := h; exact this _ h1
  | map es clk ver => obtain ⟨_, _, _, es', h1, _⟩ := h; exact this _ h1
  | miter m a b c d =>
    cases m with
    | none => obtain ⟨_, _, _, a, b, c, h1⟩ := h; exact this _ h1
    | some m => obtain ⟨_, _, _, lm, _, h1⟩ := h; exact this _ h1
  | siter a b c => exact this _ h.2.2.2
  | loop st p t nt ps sa bd v => obtain ⟨_, _, _, _, _, _, r, h1, _⟩ := h; exact this _ h1
  | dead => cases hd
theorem RS_below {P : Program} {ι : Inj} {s : St} {W W' : World} (hR : RS P ι s W) (hb : Below W.heap.size W W') : RS P ι s W' ∧ ES ι s W ι s W' := by
  refine ⟨⟨hR.even, hR.odd, hR.fresh, fun b l hl hr => Nat.lt_of_lt_of_le (hR.inb b l hl hr) hb.size, fun b o hb' hd => ?_, hR.inj⟩, Inj.le_refl _, fun _ h _ => h, Nat.le_refl _, hb.os, hb.tape, hb.output, hb.size, fun c hc _ => hb.block c hc, fun _ h => .inl h⟩
  obtain ⟨l, h1, h2⟩ := hR.obj b o hb' hd
  exact ⟨l, h1, h2.mono (Inj.le_refl _) (hb.block _ (h2.blk hd))⟩
/-- A name is given to a block of which nothing is said. -/
theorem RS_dead {P : Program} {ι : Inj} {s : St} {W W' : World} (hR : RS P ι s W) (hb : Below W.heap.size W W') {N : Nat} (hN : N < W'.heap.size) : RS P (ι.add s.next ⟨N, 0, 0, false⟩) (s.new fun _ => .dead) W' ∧ ES ι s W (ι.add s.next ⟨N, 0, 0, false⟩) (s.new fun _ => .dead) W' := by
  obtain ⟨h1, h2⟩ := RS_below hR hb
  have hfree : ι s.next = none := hR.fresh s.next (Nat.le_refl _) hR.odd
  have hle : ι.le (ι.add s.next ⟨N, 0, 0, false⟩) := Inj.le_add hfree
  have hlk : (s.new fun _ => .dead).look = upd s.look s.next .dead := look_new s _
  have old : ∀ b o, (s.new fun _ => .dead).look b = some o → o.isDead = false → s.look b = some o := fun b o hb hd => by
    rw [hlk] at hb
    unfold upd at hb
    split at hb
    · cases hb; cases hd
    · exact hb
  have nm : ∀ b o, s.look b = some o → o.isDead = false → ∀ l, (ι.add s.next ⟨N, 0, 0, false⟩) b = some l → ι b = some l := fun b o hb hd l hl => by
    obtain ⟨l', k1, _⟩ := h1.obj b o hb hd
    rw [hle _ _ k1] at hl
    rw [k1, hl]
  refine ⟨⟨fun b => ?_, by have := hR.odd; show (s.next + 2) % 2 = 1; omega, fun b hb1 hb2 => ?_, fun b l hl hr => ?_, fun b o hb' hd => ?_, fun b b' o o' l l' k1 d1 k2 d2 g1 g2 hr he => ?_⟩, hle, fun b hb1 hb2 => ?_, Nat.le_add_right _ _, h2.os, h2.tape, h2.output, h2.size, h2.keep, fun c hc => ?_⟩
  · unfold Inj.add
    rw [if_neg (by have := hR.odd; omega)]
    exact hR.even b
  · have hb1 : s.next + 2 ≤ b := hb1
    unfold Inj.add
    rw [if_neg (by omega)]
    exact hR.fresh b (by omega) hb2
  · unfold Inj.add at hl
    split at hl
    · cases hl; exact hN
    · exact h1.inb b l hl hr
  · obtain ⟨l, k1, k2⟩ := h1.obj b o (old b o hb' hd) hd
    exact ⟨l, hle _ _ k1, k2.mono hle rfl⟩
  · have e1 := old b o k1 d1
    have e2 := old b' o' k2 d2
    exact h1.inj b b' o o' l l' e1 d1 e2 d2 (nm b o e1 d1 l g1) (nm b' o' e2 d2 l' g2) hr he
  · have hb2 : b < s.next ∨ s.next + 2 ≤ b := hb2
    unfold Inj.add
    rw [if_neg (by omega)]
    exact hb1
  · obtain ⟨b, o, l, k1, k2, k3, k4, k5⟩ := hc
    have e1 := old b o k1 k2
    exact .inl ⟨b, o, l, e1, k2, nm b o e1 k2 l k3, k4, k5⟩
theorem okAll : okAllK Tryz.prog.funcs.toList = true := by kernel_rfl
theorem mixed : Tryz.prog.follows .mixedOrders = true := by kernel_rfl
theorem awake_run : goK (envF Tryz.prog) 100000 (.call 7 []) st₀ noKC isTrueK = true := by kernel_rfl
theorem awake_runs : isTrue (callA (env Tryz.prog) 100000 7 [] st₀) = true := by
  rw [env_eq okAll]
  exact isTrue_of awake_run
def strint : Value → Bool
  | .string _ | .int .. => true
  | _ => false
theorem vrs_same {ι : Inj} : ∀ {l l' : List Value}, VRs ι l l' → l.all strint = true → l' = l
  | _, _, .nil, _ => rfl
  | _, _, .cons (v := v) h t, hc => by
    simp only [List.all_cons, Bool.and_eq_true] at hc
    rw [vrs_same t hc.2]
    congr 1
    cases v with
    | string x => exact h.string_eq
    | int k n => exact h.int_eq
    | _ => cases hc.1
theorem args_same {ι : Inj} {l : List Value} {a : Array Value} (h : VRs ι l a.toList) (hc : l.all strint = true) : a = l.toArray := by
  apply Array.toList_inj.1
  rw [vrs_same h hc]
section
variable {P : Program} {ι : Inj} {s : St} {w : World} {Φ : Value × St → Prop}
theorem back_same (hR : RS P ι s w) {v : Value} (hc : closedV v = true) (hΦ : Φ (v, s)) {w' : World} (hb : Below w.heap.size w w') : Back P ι s w Φ (.returned v) w' := by
  obtain ⟨h1, h2⟩ := RS_below hR hb
  exact ⟨v, v, s, ι, rfl, hΦ, .closed hc, h1, h2⟩
theorem calls_pure (hR : RS Tryz.prog ι s w) {f : FuncId} {args : List Value} {args' : Array Value} (ha : VRs ι args args'.toList) {v : Value} (hv : pureV f args = some v) (hΦ : Φ (v, s)) : Calls Tryz.prog f args' w (Back Tryz.prog ι s w Φ) := by
  have fin : ∀ {e w'} {u : Value}, closedV u = true → u = v → e = Ending.returned u ∧ w' = w → Back Tryz.prog ι s w Φ e w' := by
    rintro e w' u hu rfl ⟨rfl, rfl⟩
    exact back_same hR hu hΦ (Below.refl _ _)
  unfold pureV at hv
  split at hv
  · rename_i x y
    obtain rfl : args' = #[.string x, .string y] := args_same ha rfl
    split at hv
    · rename_i hf
      subst hf
      split at hv
      · rename_i c hc
        cases hv
        have : y = ⟨#[c]⟩ := by
          apply ByteArray.ext
          apply Array.toList_inj.1
          exact hc
        subst this
        exact (Tryz.strings_Count_one x c w).mono fun e w' h => fin rfl rfl h
      · cases hv
    · split at hv
      · rename_i hf
        subst hf
        split at hv
        · rename_i c hc
          cases hv
          have : y = ⟨#[c]⟩ := by
            apply ByteArray.ext
            apply Array.toList_inj.1
            exact hc
          subst this
          exact (Tryz.strings_Index_one x c w).mono fun e w' h => fin rfl rfl h
        · cases hv
      · split at hv
        · rename_i hf
          subst hf
          split at hv
          · cases hv
            exact (Tryz.strings_HasSuffix x y w (by omega)).mono fun e w' h => fin rfl rfl h
          · cases hv
        · split at hv
          · rename_i hf
            subst hf
            split at hv
            · cases hv
              exact (Tryz.strings_TrimSuffix x y w (by omega)).mono fun e w' h => fin rfl rfl h
            · cases hv
          · cases hv
  · rename_i x c
    obtain rfl : args' = #[.string x, .int .u8 c] := args_same ha rfl
    split at hv
    · rename_i hf
      subst hf
      cases hv
      exact (Tryz.strings_IndexByte x c w).mono fun e w' h => fin rfl rfl h
    · cases hv
  · cases hv
theorem calls_atoi (hR : RS Tryz.prog ι s w) {args : List Value} {args' : Array Value} (ha : VRs ι args args'.toList) {r : Res (Value × St)} (hr : atoiO args s = some r) (hΦ : r.All Φ) : Calls Tryz.prog 28 args' w (Back Tryz.prog ι s w Φ) := by
  unfold atoiO at hr
  split at hr
  · rename_i x
    obtain rfl : args' = #[.string x] := args_same ha rfl
    split at hr
    · rename_i hg
      obtain ⟨G, hl⟩ := hg
      cases hr
      have hΦ : Φ (atoiR x.data.toList s) := hΦ
      unfold atoiR at hΦ
      have bad : ∀ (n : Int) (e : Ending) (w' : World), Φ (.tuple #[int n, errV s], s.new fun _ => .dead) → (∃ N, e = .returned (.tuple #[.int .i64 n, .iface 145 (.pointer (some ⟨N, 0, none⟩))]) ∧ w.heap.size ≤ N ∧ (∃ o, w'.heap[N]? = some o) ∧ Below w.heap.size w w') → Back Tryz.prog ι s w Φ e w' := by
        rintro n e w' hΦ ⟨N, rfl, _, ⟨o, ho⟩, hb⟩
        obtain ⟨h1, h2⟩ := RS_dead hR hb (Array.getElem?_eq_some_iff.1 ho).1
        refine ⟨_, _, _, _, rfl, hΦ, ?_, h1, h2⟩
        refine .tuple rfl fun i v u k1 k2 => ?_
        rcases i with _ | _ | i
        · cases k1; cases k2; exact .int _ _
        · cases k1; cases k2
          refine .iface _ ?_
          have := VR.ptr (ι := ι.add s.next ⟨N, 0, 0, false⟩) (b := s.next) (o := 0) (Inj.add_same _ _ _)
          simpa using this
        · simp at k1
      split at hΦ
      · rename_i v hv
        refine (Tryz.strconv_Atoi_ok x (by omega) v hv w).mono ?_
        rintro e w' ⟨rfl, h⟩
        refine back_same hR rfl hΦ ?_
        rcases h with rfl | ⟨t, rfl⟩
        · exact Below.refl _ _
        · exact Lib.bytesWorld_below w _ _
      · rename_i hv
        obtain ⟨t, p, hc⟩ := glob_err (g := 3) hR G.ran
        refine (Tryz.strconv_Atoi_range x (by omega) hv _ w hc (.inr ⟨_, _, rfl⟩)).mono ?_
        rintro e w' ⟨N, h1, h2, h3, h4⟩
        exact bad _ _ _ hΦ ⟨N, h1, h2, ⟨_, h3⟩, h4⟩
      · rename_i hv1 hv2
        obtain ⟨t, p, hc⟩ := glob_err (g := 2) hR G.syn
        refine (Tryz.strconv_Atoi_none x (by omega) (end_else hv1 hv2) _ w hc (.inr ⟨_, _, rfl⟩)).mono ?_
        rintro e w' ⟨N, h1, h2, h3, h4⟩
        exact bad _ _ _ hΦ ⟨N, h1, h2, ⟨_, h3⟩, h4⟩
    · cases hr
  · cases hr
theorem load_cell (hR : RS P ι s w) {b off : Nat} {x : Value} (h : load1 s.look ⟨b, off, none⟩ = some x) : ∃ l u, ι b = some l ∧ w.cell? ⟨l.blk, l.off + off, none⟩ = some u ∧ VR ι x u := by
  unfold load1 at h
  simp only at h
  split at h
  · rename_i hb
    obtain ⟨l, h1, arr, e', fz, h2, _, _, _, _, _, h7⟩ := hR.obj b _ hb rfl
    unfold cellAt at h
    split at h
    · rename_i hi
      obtain ⟨v, u, a1, a2, a3⟩ := h7 off hi
      unfold cellAt at a1
      rw [if_pos hi] at a1
      rw [h] at a1
      cases a1
      exact ⟨l, u, h1, by rw [World.cell?, h2]; simpa using a2, a3⟩
    · cases h
  · cases h
theorem calls_text (hR : RS Tryz.prog ι s w) {args : List Value} {args' : Array Value} (ha : VRs ι args args'.toList) {L : List Ft} (hL : FtsAt args s L) (hΦ : Φ (textV L, s)) : Calls Tryz.prog 5 args' w (Back Tryz.prog ι s w Φ) := by
  obtain ⟨a, c, rfl, hs⟩ := hL.ex
  obtain ⟨u, hu, hv⟩ : ∃ u, args' = #[u] ∧ VR ι (.slice a L.length c) u := by
    cases hl : args'.toList with
    | nil => rw [hl] at ha; cases ha
    | cons u r =>
      rw [hl] at ha
      cases ha with
      | cons h t =>
        cases t
        exact ⟨u, by apply Array.toList_inj.1; rw [hl], h⟩
  subst hu
  have key : ∃ a' c', u = .slice a' L.length c' ∧ ∀ j (hj : j < L.length), ∃ b off, a' = some ⟨b, off, none⟩ ∧ w.cell? ⟨b, off + j * 3, none⟩ = some (.int .i64 L[j].1) ∧ w.cell? ⟨b, off + j * 3 + 1, none⟩ = some (.int .i64 L[j].2.1) ∧ w.cell? ⟨b, off + j * 3 + 2, none⟩ = some (.int .i64 L[j].2.2) := by
    by_cases h0 : L.length = 0
    · have : ∃ a' c', u = .slice a' L.length c' := by
        obtain ⟨n, hn⟩ : ∃ n, n = L.length := ⟨_, rfl⟩
        rw [← hn] at hv ⊢
        cases hv with
        | nilslice => exact ⟨_, _, rfl⟩
        | slice _ _ _ => exact ⟨_, _, rfl⟩
        | slice0 _ => exact ⟨_, _, rfl⟩
      obtain ⟨a', c', e⟩ := this
      exact ⟨a', c', e, fun j hj => by omega⟩
    · obtain ⟨b, off, rfl⟩ := hs.addr (by omega)
      obtain ⟨n, hn⟩ : ∃ n, n = L.length := ⟨_, rfl⟩
      rw [← hn] at hv h0
      cases hv with
      | @slice _ _ l _ _ hb =>
        rw [hn]
        refine ⟨_, _, rfl, fun j hj => ?_⟩
        have cell : ∀ i x, (L.flatMap ftV)[j * 3 + i]? = some (.int .i64 x) → w.cell? ⟨l.blk, l.off + off + j * 3 + i, none⟩ = some (.int .i64 x) := fun i x hx => by
          have h1 := hs.load hx
          obtain ⟨l', u, k1, k2, k3⟩ := load_cell hR h1
          rw [hb] at k1; cases k1
          rw [k3.int_eq] at k2
          rw [← k2]
          congr 2
          omega
        have hg := fun i (hi : i < 3) => ftV_get L j i hj hi
        refine ⟨l.blk, l.off + off, rfl, ?_, ?_, ?_⟩
        · exact cell 0 _ (hg 0 (by omega))
        · exact cell 1 _ (hg 1 (by omega))
        · exact cell 2 _ (hg 2 (by omega))
  obtain ⟨a', c', rfl, hc⟩ := key
  refine Tryz.text a' _ c' L rfl hL.len hL.i64 w hc (fun k hk => glob_names hR hL.glob hk) (glob_tab hR hL.glob) _ (fun hok w' hb => ?_) (fun hno w' hb => ?_)
  · have e : textV L = .tuple #[str (ftText L), int 0] := by unfold textV; rw [if_pos hok]
    rw [e] at hΦ
    exact back_same hR rfl hΦ hb
  · have e : textV L = .tuple #[str [], int 2] := by
      unfold textV
      rw [if_neg (fun h => by obtain ⟨f, hf, hn⟩ := hno; exact hn (h f hf))]
    rw [e] at hΦ
    exact back_same hR rfl hΦ hb
end
theorem orcKT : OrcOK Tryz.prog KT := by
  refine ⟨fun f args s r h => ?_, fun f args s r h => ?_, fun f args args' s r w ι Φ h ha hv hR => ?_⟩
  · unfold KT at h
    split at h
    · split at h
      · cases h; exact .refl _
      · cases h
    · split at h
      · unfold textO at h
        split at h
        · cases h; exact .refl _
        · cases h
      · split at h
        · unfold atoiO at h
          split at h
          · split at h
            · cases h
              show Evol s (atoiR _ s).2
              unfold atoiR
              split
              · exact .refl _
              · exact Evol.new (f := fun _ => .dead) fun _ => .inl rfl
              · exact Evol.new (f := fun _ => .dead) fun _ => .inl rfl
            · cases h
          · cases h
        · split at h
          · cases h; exact .refl _
          · cases h
  · have at_ : ∀ {g : FuncId} {fn : Func}, Tryz.prog.funcs[g]? = some fn → okFn fn = true → fn.body.isSome = true → ∃ fn, (env Tryz.prog).fn g = some fn ∧ fn.body.isSome = true := fun h1 h2 h3 => ⟨_, fn_at h1 h2, h3⟩
    unfold KT at h
    split at h
    · rename_i hf
      subst hf
      exact at_ Tryz.func7 (by kernel_rfl) (by kernel_rfl)
    · split at h
      · rename_i hf
        subst hf
        exact at_ Tryz.func5 (by kernel_rfl) (by kernel_rfl)
      · split at h
        · rename_i hf
          subst hf
          exact at_ Tryz.func28 (by kernel_rfl) (by kernel_rfl)
        · split at h
          · rename_i v hp0
            have hp := pureW_V hp0
            have : f = 23 ∨ f = 62 ∨ f = 24 ∨ f = 27 ∨ f = 65 := by
              unfold pureV at hp
              split at hp
              · by_cases e1 : f = 23
                · exact .inl e1
                · by_cases e2 : f = 62
                  · exact .inr (.inl e2)
                  · by_cases e3 : f = 24
                    · exact .inr (.inr (.inl e3))
                    · by_cases e4 : f = 27
                      · exact .inr (.inr (.inr (.inl e4)))
                      · rw [if_neg e1, if_neg e2, if_neg e3, if_neg e4] at hp; cases hp
              · by_cases e5 : f = 65
                · exact .inr (.inr (.inr (.inr e5)))
                · rw [if_neg e5] at hp; cases hp
              · cases hp
            rcases this with rfl | rfl | rfl | rfl | rfl
            · exact at_ Tryz.func23 (by kernel_rfl) (by kernel_rfl)
            · exact at_ Tryz.func62 (by kernel_rfl) (by kernel_rfl)
            · exact at_ Tryz.func24 (by kernel_rfl) (by kernel_rfl)
            · exact at_ Tryz.func27 (by kernel_rfl) (by kernel_rfl)
            · exact at_ Tryz.func65 (by kernel_rfl) (by kernel_rfl)
          · cases h
  · unfold KT at h
    split at h
    · rename_i hf
      subst hf
      split at h
      · rename_i hargs
        cases h
        obtain rfl : args = [] := List.isEmpty_iff.1 hargs
        have hv' : VRs ι₀ [] args'.toList := by
          cases hl : args'.toList with
          | nil => exact .nil
          | cons x l => rw [hl] at hv; cases hv
        obtain ⟨fn, hfn, hb⟩ : ∃ fn, Tryz.prog.funcs[7]? = some fn ∧ fn.body.isSome = true := ⟨_, rfl, by kernel_rfl⟩
        refine (calls_all mixed hfn hb hv' (isTrue_all awake_runs)).mono ?_
        rintro e W' ⟨rfl, hbl⟩
        exact back_same hR rfl ha hbl
      · cases h
    · split at h
      · rename_i hf
        subst hf
        unfold textO at h
        split at h
        · rename_i hx
          cases h
          exact calls_text hR hv (Classical.choose_spec hx) ha
        · cases h
      · split at h
        · rename_i hf
          subst hf
          exact calls_atoi hR hv h ha
        · split at h
          · rename_i v hp
            cases h
            exact calls_pure hR hv (pureW_V hp) ha
          · cases h
end Go.Dust
end
section
/- Where both laws begin. -/
namespace Go.Dust
open Go.Proofs
/-- What the program's variables hold in a world. -/
structure Laid5 (W : World) (t2 t3 : TypeId) (a2 a3 : Addr) : Prop where
  names : ∃ e fz, W.heap[0]? = some (.cells (nm12.map str).toArray e fz)
  pow : ∃ e fz, W.heap[4]? = some (.cells (Lib.pow10Tab.map (Value.int .u64)).toArray e fz)
  syn : ∃ e fz, W.heap[2]? = some (.cells #[.iface t2 (.pointer (some a2))] e fz)
  ran : ∃ e fz, W.heap[3]? = some (.cells #[.iface t3 (.pointer (some a3))] e fz)
  sp2 : a2.spot = none
  sp3 : a3.spot = none
def ι5 (blk off : Nat) : Inj := fun b => if b % 2 = 0 then some ⟨b / 2, 0, 0, true⟩ else if b = 9 then some ⟨blk, off, 0, true⟩ else none
noncomputable def ro5 (L : List Value) (n : Nat) (e : TypeId) (room : Bool) : AObj := .cells (PT.ofList L) [] n e room true 0
def err5 (t : TypeId) (a : Addr) : List Value := [.iface t (.pointer (some ⟨2 * a.block, a.off, none⟩))]
noncomputable def heap5 (t2 t3 : TypeId) (a2 a3 : Addr) : PT AObj := ((((PT.nil.set 0 (ro5 (nm12.map str) 12 9 false)).set 8 (ro5 (Lib.pow10Tab.map (Value.int .u64)) 20 0 true)).set 4 (ro5 (err5 t2 a2) 1 39 false)).set 6 (ro5 (err5 t3 a3) 1 39 false))
noncomputable def st5 (t2 t3 : TypeId) (a2 a3 : Addr) (o : Option (List Value)) : St := { heap := match o with | some L => (heap5 t2 t3 a2 a3).set 9 (ro5 L L.length 37 false) | none => heap5 t2 t3 a2 a3, next := 11, clk := 1 }
theorem ι5_even (blk off b : Nat) : ι5 blk off (2 * b) = some ⟨b, 0, 0, true⟩ := by
  unfold ι5
  rw [if_pos (by omega)]
  simp
theorem ι5_nine (blk off : Nat) : ι5 blk off 9 = some ⟨blk, off, 0, true⟩ := rfl
theorem ι5_ro {blk off b : Nat} {l : Loc} (h : ι5 blk off b = some l) : l.ro = true := by
  unfold ι5 at h
  split at h
  · cases h; rfl
  · split at h
    · cases h; rfl
    · cases h
theorem heap5_get {t2 t3 : TypeId} {a2 a3 : Addr} {b : Nat} {o : AObj} (h : (heap5 t2 t3 a2 a3).get b = some o) :
    (b = 6 ∧ o = ro5 (err5 t3 a3) 1 39 false) ∨ (b = 4 ∧ o = ro5 (err5 t2 a2) 1 39 false) ∨ (b = 8 ∧ o = ro5 (Lib.pow10Tab.map (Value.int .u64)) 20 0 true) ∨ (b = 0 ∧ o = ro5 (nm12.map str) 12 9 false) := by
  unfold heap5 at h
  rw [PT.get_set] at h
  split at h
  · rename_i hb; cases h; exact .inl ⟨hb, rfl⟩
  rw [PT.get_set] at h
  split at h
  · rename_i hb; cases h; exact .inr (.inl ⟨hb, rfl⟩)
  rw [PT.get_set] at h
  split at h
  · rename_i hb; cases h; exact .inr (.inr (.inl ⟨hb, rfl⟩))
  rw [PT.get_set] at h
  split at h
  · rename_i hb; cases h; exact .inr (.inr (.inr ⟨hb, rfl⟩))
  rw [PT.get_nil] at h
  cases h
theorem st5_get {t2 t3 : TypeId} {a2 a3 : Addr} {p : Option (List Value)} {b : Nat} {o : AObj} (h : (st5 t2 t3 a2 a3 p).heap.get b = some o) :
    (∃ L, p = some L ∧ b = 9 ∧ o = ro5 L L.length 37 false) ∨ (heap5 t2 t3 a2 a3).get b = some o := by
  unfold st5 at h
  cases p with
  | none => exact .inr h
  | some L =>
    simp only at h
    rw [PT.get_set] at h
    split at h
    · rename_i hb; cases h; exact .inl ⟨L, rfl, hb, rfl⟩
    · exact .inr h
theorem objR_ro {P : Program} {ι : Inj} {W : World} {l : Loc} {L : List Value} {n : Nat} {e : TypeId} {room : Bool} {arr : Array Value} {e' : TypeId} {fz : Nat × Nat} (h : W.heap[l.blk]? = some (.cells arr e' fz)) (hL : L.length = n) (hl : l.ro = true) (hx : l.extra = 0)
    (hroom : room = true → l.off + n = arr.size) (hsz : l.off + n ≤ arr.size) (hv : ∀ i v, L[i]? = some v → ∃ u, arr[l.off + i]? = some u ∧ VR ι v u) : ObjR (env P) ι W l (ro5 L n e room) := by
  refine ⟨arr, e', fz, h, ⟨fun h => (by cases h), fun _ => hroom⟩, hl, fun _ => hx, fun ei _ => ?_, hsz, fun i hi => ?_⟩
  · rw [hx]; omega
  · have hi' : i < L.length := by omega
    obtain ⟨u, h1, h2⟩ := hv i _ (List.getElem?_eq_getElem hi')
    refine ⟨_, u, ?_, h1, h2⟩
    unfold cellAt
    rw [if_pos hi, PT.get_ofList, List.getElem?_eq_getElem hi']
theorem arr_list {L : List Value} {i : Nat} {v : Value} (h : L[i]? = some v) : L.toArray[0 + i]? = some v := by rw [Nat.zero_add]; simpa using h
theorem objR_err {P : Program} {blk off g : Nat} {W : World} {t : TypeId} {a : Addr} {e' : TypeId} {fz : Nat × Nat} (h : W.heap[g]? = some (.cells #[.iface t (.pointer (some a))] e' fz)) (ha : a.spot = none) : ObjR (env P) (ι5 blk off) W ⟨g, 0, 0, true⟩ (ro5 (err5 t a) 1 39 false) := by
  refine objR_ro h rfl rfl rfl (fun h => by cases h) (Nat.le_refl _) fun i v hv => ?_
  match i, hv with
  | 0, hv =>
    cases hv
    refine ⟨_, rfl, .iface t ?_⟩
    have := VR.ptr (ι := ι5 blk off) (b := 2 * a.block) (o := a.off) (ι5_even blk off a.block)
    obtain ⟨ab, ao, asp⟩ := a
    cases ha
    simpa using this
theorem str_vr {ι : Inj} {L : List (List UInt8)} {v : Value} (h : v ∈ L.map str) : VR ι v v := by
  obtain ⟨l, _, rfl⟩ := List.mem_map.1 h
  exact .string _
theorem u64_vr {ι : Inj} {L : List Int} {v : Value} (h : v ∈ L.map (Value.int .u64)) : VR ι v v := by
  obtain ⟨l, _, rfl⟩ := List.mem_map.1 h
  exact .int _ _
theorem tie5 {W : World} {t2 t3 : TypeId} {a2 a3 : Addr} {blk off : Nat} {p : Option (List Value)} (G : Laid5 W t2 t3 a2 a3)
    (hp : ∀ L, p = some L → ∃ arr e fz, W.heap[blk]? = some (.cells arr e fz) ∧ off + L.length ≤ arr.size ∧ ∀ i v, L[i]? = some v → ∃ u, arr[off + i]? = some u ∧ VR (ι5 blk off) v u) : RS Tryz.prog (ι5 blk off) (st5 t2 t3 a2 a3 p) W := by
  obtain ⟨⟨e0, fz0, h0⟩, ⟨e4, fz4, h4⟩, ⟨e2, fz2, h2⟩, ⟨e3, fz3, h3⟩, s2, s3⟩ := G
  refine ⟨ι5_even blk off, (show 11 % 2 = 1 from rfl), fun b hb hb2 => ?_, fun b l hl hro => ?_, fun b o h hd => ?_, fun b b' o o' l l' _ _ _ _ hl _ hro _ => ?_⟩
  · have hb' : 11 ≤ b := hb
    unfold ι5
    rw [if_neg (by omega), if_neg (by omega)]
  · rw [ι5_ro hl] at hro; cases hro
  · rcases st5_get h with ⟨L, rfl, rfl, rfl⟩ | h
    · obtain ⟨arr, e, fz, q1, q2, q3⟩ := hp L rfl
      exact ⟨_, ι5_nine blk off, objR_ro q1 rfl rfl rfl (fun h => by cases h) q2 q3⟩
    · rcases heap5_get h with ⟨rfl, rfl⟩ | ⟨rfl, rfl⟩ | ⟨rfl, rfl⟩ | ⟨rfl, rfl⟩
      · exact ⟨_, ι5_even blk off 3, objR_err h3 s3⟩
      · exact ⟨_, ι5_even blk off 2, objR_err h2 s2⟩
      · exact ⟨_, ι5_even blk off 4, objR_ro h4 (by rw [List.length_map, Lib.pow10Tab_length]) rfl rfl (fun _ => by simp [Lib.pow10Tab_length]) (by simp [Lib.pow10Tab_length]) fun i v hv => ⟨v, arr_list hv, u64_vr (List.mem_of_getElem? hv)⟩⟩
      · exact ⟨_, ι5_even blk off 0, objR_ro h0 (by rw [List.length_map]; rfl) rfl rfl (fun h => by cases h) (by simp; decide) fun i v hv => ⟨v, arr_list hv, str_vr (List.mem_of_getElem? hv)⟩⟩
  · rw [ι5_ro hl] at hro; cases hro
theorem own5 {blk off c : Nat} {t2 t3 : TypeId} {a2 a3 : Addr} {p : Option (List Value)} : ¬ Own (ι5 blk off) (st5 t2 t3 a2 a3 p).look c := by
  rintro ⟨b, o, l, _, _, hl, hro, _⟩
  rw [ι5_ro hl] at hro; cases hro
theorem ok5 (t2 t3 : TypeId) (a2 a3 : Addr) (p : Option (List Value)) : Ok (st5 t2 t3 a2 a3 p) := by
  have key : ∀ b o, (st5 t2 t3 a2 a3 p).heap.get b = some o → b < 11 ∧ ∃ L n e room, o = ro5 L n e room := fun b o h => by
    rcases st5_get h with ⟨L, rfl, rfl, rfl⟩ | h
    · exact ⟨by omega, _, _, _, _, rfl⟩
    · rcases heap5_get h with ⟨rfl, rfl⟩ | ⟨rfl, rfl⟩ | ⟨rfl, rfl⟩ | ⟨rfl, rfl⟩ <;> exact ⟨by omega, _, _, _, _, rfl⟩
  refine ⟨fun b o hb hd => ?_, fun b hb => ?_⟩
  · obtain ⟨_, L, n, e, room, rfl⟩ := key b o hb
    exact Nat.zero_lt_one
  · have hb' : 11 ≤ b := hb
    cases hg : (st5 t2 t3 a2 a3 p).heap.get b with
    | none => rfl
    | some o => have := (key b o hg).1; omega
theorem st5_old {t2 t3 : TypeId} {a2 a3 : Addr} {p : Option (List Value)} {b : Nat} {o : AObj} (hb : b ≠ 9) (h : (heap5 t2 t3 a2 a3).get b = some o) : (st5 t2 t3 a2 a3 p).heap.get b = some o := by
  unfold st5
  cases p with
  | none => exact h
  | some L =>
    simp only
    rw [PT.get_set, if_neg hb]
    exact h
theorem glob5 (t2 t3 : TypeId) (a2 a3 : Addr) (p : Option (List Value)) : GlobAt (st5 t2 t3 a2 a3 p) := by
  refine ⟨⟨0, st5_old (by omega) ?_⟩, ⟨0, st5_old (by omega) ?_⟩, ⟨0, t2, .pointer (some ⟨2 * a2.block, a2.off, none⟩), st5_old (by omega) ?_⟩, ⟨0, t3, .pointer (some ⟨2 * a3.block, a3.off, none⟩), st5_old (by omega) ?_⟩⟩
  · unfold heap5
    rw [PT.get_set, if_neg (by omega), PT.get_set, if_neg (by omega), PT.get_set, if_neg (by omega), PT.get_set, if_pos rfl]
    rfl
  · unfold heap5
    rw [PT.get_set, if_neg (by omega), PT.get_set, if_neg (by omega), PT.get_set, if_pos rfl]
    rfl
  · unfold heap5
    rw [PT.get_set, if_neg (by omega), PT.get_set, if_pos rfl]
    rfl
  · unfold heap5
    rw [PT.get_set, if_pos rfl]
    rfl
theorem st5_nine (t2 t3 : TypeId) (a2 a3 : Addr) (L : List Value) : (st5 t2 t3 a2 a3 (some L)).heap.get 9 = some (ro5 L L.length 37 false) := by
  unfold st5
  simp only
  rw [PT.get_set, if_pos rfl]
end Go.Dust
end
section
/- What the row's condition gives. -/
namespace Go.Dust
open Go.Proofs Go.ChangeShapes Go.RowKit
open Go.Proofs.YtelmjodchophjaaGreatDoor
set_option maxRecDepth 100000
theorem heap_of_var {P : Program} {W : World} {name : String} {g : Nat} {cs : Array Value} (hg : P.globalNamed name = some g) (h : W.var? P name = some cs) : ∃ e fz, W.heap[g]? = some (.cells cs e fz) := by
  unfold World.var? at h
  rw [hg, Option.bind_some] at h
  split at h
  · rename_i c e fz hh
    cases h
    exact ⟨e, fz, hh⟩
  · cases h
theorem gN : Tryz.prog.globalNamed "dustcart/verify.names" = some 0 := by kernel_rfl
theorem gS : Tryz.prog.globalNamed "strconv.ErrSyntax" = some 2 := by kernel_rfl
theorem gR : Tryz.prog.globalNamed "strconv.ErrRange" = some 3 := by kernel_rfl
theorem gP : Tryz.prog.globalNamed "internal/strconv.uint64pow10" = some 4 := by kernel_rfl
theorem star : "*" ++ "errors.errorString" = "*errors.errorString" := by decide
theorem rowE (u : TypeId) (h : Tryz.prog.typeName? 3 u = some "*errors.errorString") : u = 189 :=
  typeName_ptr_named (nm := "errors.errorString") (by rw [star]; kernel_rfl) (by kernel_rfl) (by decide) u (by rw [star]; exact h)
theorem spot_of {W : World} {a : Addr} {v : Value} (h : W.cell? a = some v) : a.spot = none := by
  unfold World.cell? at h
  split at h
  · split at h
    · cases h
    · rename_i hs
      cases hh : a.spot with
      | none => rfl
      | some x => rw [hh] at hs; exact absurd rfl hs
  · cases h
theorem names_of {W : World} {r : List (String × DataW Unit)} (h : laidMet Tryz.prog (("dustcart/verify.names", Rows.laid_dustcart_verify_names) :: r) W) : W.var? Tryz.prog "dustcart/verify.names" = some (nm12.map str).toArray := by
  obtain ⟨ps, ⟨g, t, cs, fuel, p, q, hg, ht, hv, hd, _, _⟩, _, _⟩ := h
  obtain rfl := Option.some.inj (gN.symm.trans hg)
  obtain rfl := Option.some.inj ((show (Tryz.prog.globals[0]?).map (·.type) = some 42 by kernel_rfl).symm.trans ht)
  obtain ⟨xs, m, _, ex, hcl, hl, hel⟩ := DataW.trod_array Tryz.underlying42 hd
  have c9 : Tryz.prog.cellsOf 9 = 1 := by kernel_rfl
  have c42 : Tryz.prog.cellsOf 42 = 12 := by kernel_rfl
  rw [c42] at hcl
  have hN : (Rows.laid_dustcart_verify_names : DataW Unit) = .agg (nm12.map fun l => .lit (.string l)) := rfl
  rw [hN] at ex
  have e3 : (xs.map (·.1)) = nm12.map fun l => .lit (.string l) := (DataW.agg.inj (Prod.mk.inj ex).1).symm
  rw [hv]
  congr 1
  apply Array.toList_inj.1
  rw [List.toList_toArray]
  apply List.ext_getElem?
  intro i
  by_cases hi : i < 12
  · have hE := hel i hi
    rw [c9, Nat.mul_one, List.getElem?_eq_getElem (by omega)] at hE
    obtain ⟨z, e1, e2, _⟩ := DataW.trod_string Tryz.underlying9 hE
    have e4 : (xs.map (·.1))[i]? = (nm12.map fun l => (DataW.lit (.string l) : DataW Unit))[i]? := by rw [e3]
    have hi' : i < nm12.length := hi
    rw [List.getElem?_map, List.getElem?_map, List.getElem?_eq_getElem (by omega : i < xs.length), List.getElem?_eq_getElem hi', e2] at e4
    simp only [Option.map_some, Option.some.injEq, DataW.lit.injEq, Lit.string.injEq] at e4
    have : cs.toList[i]? = some (.string z) := by
      have h0 : ((cs.toList.drop i).take 1)[0]? = some (.string z) := by rw [e1]; rfl
      simpa using h0
    rw [this, List.getElem?_map, List.getElem?_eq_getElem hi', Option.map_some]
    obtain ⟨⟨z⟩⟩ := z
    rw [← e4]
    rfl
  · rw [List.getElem?_eq_none (by omega), List.getElem?_eq_none (by rw [List.length_map]; exact Nat.le_of_not_lt hi)]
/-- The laid list of both rows. -/
theorem of_laid {W : World} (h : laidMetH Tryz.prog Rows.verifyTextsRow.laid W) : ∃ t2 t3 a2 a3, Laid5 W t2 t3 a2 a3 := by
  rw [MakeChecks.laidMetH_plain _ _ _ (by kernel_rfl)] at h
  have h2 := h.tail.tail
  have hP : Lib.TabIs Tryz.prog W "internal/strconv.uint64pow10" .u64 Lib.pow10Tab := Lib.tabIs_of_head (t := 173) (e := 149) (n := 20) gP (by kernel_rfl) Tryz.underlying173 Tryz.underlying149 (by kernel_rfl) (by kernel_rfl) h2
  have h4 := h2.tail.tail
  obtain ⟨a3, s3, v3, c3, _, _⟩ := laid_sentinel (g := 3) (ti := 39) (tp := 189) h4 gR (by kernel_rfl) Tryz.underlying39 rowE Tryz.underlying189 Tryz.underlying191 rfl rfl Tryz.underlying9 (by kernel_rfl) (by kernel_rfl)
  have h5 := h4.tail
  obtain ⟨a2, s2, v2, c2, _, _⟩ := laid_sentinel (g := 2) (ti := 39) (tp := 189) h5 gS (by kernel_rfl) Tryz.underlying39 rowE Tryz.underlying189 Tryz.underlying191 rfl rfl Tryz.underlying9 (by kernel_rfl) (by kernel_rfl)
  exact ⟨189, 189, a2, a3, heap_of_var gN (names_of h5.tail), heap_of_var gP hP, heap_of_var gS v2, heap_of_var gR v3, spot_of c2, spot_of c3⟩
end Go.Dust
end
section
/- Both laws called. -/
namespace Go.Dust
open Go.Proofs Go.ChangeShapes Go.RowKit Go.WideShapes
open Go.Proofs.YtelmjodchophjaaGreatDoor
set_option maxRecDepth 100000
set_option maxHeartbeats 2000000
/-- A list of faults that came in. -/
def CameIn (W : World) (x : Value) : Prop := x = .slice none 0 0 ∨ ∃ (blk off c : Nat) (L : List Ft), x = .slice (some ⟨blk, off, none⟩) L.length c ∧ L.length ≤ c ∧ L.length ≤ 9223372036854775807 ∧ (∀ f ∈ L, in64 f.2.1 ∧ in64 f.2.2) ∧
  ∃ arr e fz, W.heap[blk]? = some (.cells arr e fz) ∧ ∀ i v, (L.flatMap ftV)[i]? = some v → arr[off + i]? = some v
theorem ft_vr {ι : Inj} {L : List Ft} {v : Value} (h : v ∈ L.flatMap ftV) : VR ι v v := by
  obtain ⟨f, _, hf⟩ := List.mem_flatMap.1 h
  unfold ftV at hf
  simp only [List.mem_cons, List.not_mem_nil, or_false] at hf
  rcases hf with rfl | rfl | rfl <;> exact .int _ _
theorem below_of {P : Program} {ι ι' : Inj} {s s' : St} {W W' : World} (hE : ES ι s W ι' s' W') (h : ∀ k, ¬ Own ι s.look k) : Below W.heap.size W W' :=
  ⟨hE.os, hE.tape, hE.output, hE.size, fun k hk => hE.keep k hk (h k)⟩
theorem reads_calls {W : World} {t2 t3 : TypeId} {a2 a3 : Addr} (G : Laid5 W t2 t3 a2 a3) (S : List UInt8) {many : Nat} (hm : many < 256) :
    Calls Tryz.prog 4 #[str S, .int .u8 many] W fun e W' => e = .returned (.bool true) ∧ Below W.heap.size W W' := by
  have hR := tie5 (blk := 0) (off := 0) (p := none) G fun L h => by cases h
  have hok := vreads_ok (q := true) (S0 := S) (many := many) (Φ := fun v _ => v = .bool true) (ok5 t2 t3 a2 a3 none) (glob5 t2 t3 a2 a3 none) hm fun _ => rfl
  obtain ⟨fn, hfn, hb⟩ : ∃ fn, Tryz.prog.funcs[4]? = some fn ∧ fn.body.isSome = true := ⟨_, rfl, by kernel_rfl⟩
  have hargs : VRs (ι5 0 0) [str S, .int .u8 many] (#[str S, .int .u8 many] : Array Value).toList := .cons (.string _) (.cons (.int _ _) .nil)
  refine (calls_okF mixed orcKT hfn hb hR hargs hok).mono ?_
  rintro e W' ⟨v, s', ι', v', rfl, hv', _, hE, rfl⟩
  exact ⟨by rw [hv'.bool_eq], below_of (P := Tryz.prog) hE fun _ => own5⟩
theorem texts_calls {W : World} {t2 t3 : TypeId} {a2 a3 : Addr} (G : Laid5 W t2 t3 a2 a3) {x : Value} (hx : CameIn W x) :
    Calls Tryz.prog 3 #[x] W fun e W' => e = .returned (.bool true) ∧ Below W.heap.size W W' := by
  obtain ⟨fn, hfn, hb⟩ : ∃ fn, Tryz.prog.funcs[3]? = some fn ∧ fn.body.isSome = true := ⟨_, rfl, by kernel_rfl⟩
  have key : ∀ {blk off : Nat} {p : Option (List Value)} {a : Option Addr} {c : Nat} {L : List Ft}, RS Tryz.prog (ι5 blk off) (st5 t2 t3 a2 a3 p) W → VR (ι5 blk off) (.slice a L.length c) x → L.length ≤ 9223372036854775807 → Sl (st5 t2 t3 a2 a3 p) 3 (.slice a L.length c) (L.flatMap ftV) → L.length ≤ c → Came (st5 t2 t3 a2 a3 p) a c → (∀ f ∈ L, in64 f.2.1 ∧ in64 f.2.2) →
      Calls Tryz.prog 3 #[x] W fun e W' => e = .returned (.bool true) ∧ Below W.heap.size W W' := by
    intro blk off p a c L hR hv hL H hc hcm hr
    have hok := vtexts_ok (q := true) (Φ := fun v _ => v = .bool true) (ok5 t2 t3 a2 a3 p) (glob5 t2 t3 a2 a3 p) hL H hc hcm hr fun _ => rfl
    refine (calls_okF mixed orcKT hfn hb hR (.cons hv .nil) hok).mono ?_
    rintro e W' ⟨v, s', ι', v', rfl, hv', _, hE, rfl⟩
    exact ⟨by rw [hv'.bool_eq], below_of (P := Tryz.prog) hE fun _ => own5⟩
  rcases hx with rfl | ⟨blk, off, c, L, rfl, hc, hL, hr, arr, e, fz, h1, h2⟩
  · exact key (L := []) (tie5 (blk := 0) (off := 0) (p := none) G fun L h => by cases h) (.nilslice 0 0) (by decide) (.nil _ _) (Nat.le_refl _) (.inl ⟨rfl, rfl⟩) fun f hf => by cases hf
  · cases L with
    | nil =>
      refine key (L := []) (blk := blk) (off := 0) (p := some []) (a := some ⟨9, off, none⟩) (c := c) (tie5 G fun L h => ?_) ?_ (by decide) (.nil _ _) hc (.inr ⟨9, off, rfl, PT.ofList [], [], 0, 37, true, 0, st5_nine t2 t3 a2 a3 []⟩) fun f hf => by cases hf
      · cases h
        exact ⟨arr, e, fz, h1, Nat.zero_le _, fun i v hv => by cases hv⟩
      · have := VR.slice (ι := ι5 blk 0) (b := 9) (o := off) 0 c (ι5_nine blk 0)
        simpa using this
    | cons f0 L0 =>
      obtain ⟨L, hLe⟩ : ∃ L, L = f0 :: L0 := ⟨_, rfl⟩
      rw [← hLe] at hc hL hr h2 key ⊢
      have hfl := flat_len L
      have hpos : 0 < L.length := by rw [hLe]; simp
      have hR : RS Tryz.prog (ι5 blk off) (st5 t2 t3 a2 a3 (some (L.flatMap ftV))) W := tie5 G fun M h => by
        cases h
        refine ⟨arr, e, fz, h1, ?_, fun i v hv => ⟨v, h2 i v hv, ft_vr (List.mem_of_getElem? hv)⟩⟩
        have h3 := h2 ((L.flatMap ftV).length - 1) _ (List.getElem?_eq_getElem (by omega))
        have := (Array.getElem?_eq_some_iff.1 h3).1
        omega
      have hvr : VR (ι5 blk off) (.slice (some ⟨9, 0, none⟩) L.length c) (.slice (some ⟨blk, off, none⟩) L.length c) := by
        have := VR.slice (ι := ι5 blk off) (b := 9) (o := 0) L.length c (ι5_nine blk off)
        simpa using this
      have h9 := st5_nine t2 t3 a2 a3 (L.flatMap ftV)
      have hsl : Sl (st5 t2 t3 a2 a3 (some (L.flatMap ftV))) 3 (.slice (some ⟨9, 0, none⟩) L.length c) (L.flatMap ftV) := by
        refine .cells hfl fun i hi => ?_
        rw [Nat.zero_add]
        unfold load1
        simp only [St.look, h9, ro5, cellAt]
        rw [if_pos hi, PT.get_ofList, List.getElem?_eq_getElem hi]
      have hcm : Came (st5 t2 t3 a2 a3 (some (L.flatMap ftV))) (some ⟨9, 0, none⟩) c := .inr ⟨9, 0, rfl, _, _, _, _, _, _, h9⟩
      refine key (blk := blk) (off := off) (p := some (L.flatMap ftV)) (a := some ⟨9, 0, none⟩) (c := c) (L := L) hR ?_ ?_ ?_ ?_ ?_ ?_
      · exact hvr
      · exact hL
      · exact hsl
      · exact hc
      · exact hcm
      · exact hr
section
variable {H : Type} {enc : TypeId × Value → H} {W : World} {base : Nat} {sp : Nat → Bool} {held : Bool} {r : Reach} {b : Nat}
theorem i64_wf {n : Int} (h : (Lit.int IntKind.i64 n).wf = true) : in64 n := by
  unfold Lit.wf at h
  rw [Bool.and_eq_true, decide_eq_true_eq, decide_eq_true_eq] at h
  exact h
theorem trod_ft {n : Nat} {cs : List Value} {y : DataW H × List MemPlace} (h : DataW.trod enc Tryz.prog W base sp held n 37 cs = some y) : ∃ f : Ft, cs = ftV f ∧ in64 f.2.1 ∧ in64 f.2.2 := by
  have c3 : Tryz.prog.cellsOf 3 = 1 := by kernel_rfl
  have c37 : Tryz.prog.cellsOf 37 = 3 := by kernel_rfl
  obtain ⟨xs, m, _, _, hl, hx, hf⟩ := DataW.trod_struct Tryz.underlying37 h
  have hx : xs.length = 3 := hx
  rw [c37] at hl
  have each : ∀ i, i < 3 → ∃ z, in64 z ∧ cs[i]? = some (.int .i64 z) := by
    intro i hi
    have h0 : ∃ fd : Field, (#[{ name := "Kind", type := 3, offset := 0, embedded := false, tag := "", pkgPath := "", byteOffset := 0 },
        { name := "At", type := 3, offset := 1, embedded := false, tag := "", pkgPath := "", byteOffset := 8 },
        { name := "Index", type := 3, offset := 2, embedded := false, tag := "", pkgPath := "", byteOffset := 16 }] : Array Field)[i]? = some fd ∧ fd.type = 3 ∧ fd.offset = i := by
      match i, hi with
      | 0, _ => exact ⟨_, rfl, rfl, rfl⟩
      | 1, _ => exact ⟨_, rfl, rfl, rfl⟩
      | 2, _ => exact ⟨_, rfl, rfl, rfl⟩
    obtain ⟨fd, h1, h2, h3⟩ := h0
    have h4 := hf i fd h1
    rw [h2, h3, c3, List.getElem?_eq_getElem (by omega)] at h4
    obtain ⟨z, e1, _, e2⟩ := DataW.trod_int Tryz.underlying3 h4
    refine ⟨z, i64_wf e2, ?_⟩
    have h0 : ((cs.drop i).take 1)[0]? = some (.int .i64 z) := by rw [e1]; rfl
    simpa using h0
  obtain ⟨z0, _, e0⟩ := each 0 (by omega)
  obtain ⟨z1, w1, e1⟩ := each 1 (by omega)
  obtain ⟨z2, w2, e2⟩ := each 2 (by omega)
  refine ⟨(z0, z1, z2), ?_, w1, w2⟩
  match cs, hl, e0, e1, e2 with
  | [a, b, c], _, e0, e1, e2 =>
    have e0 : some a = some (.int .i64 z0) := e0
    have e1 : some b = some (.int .i64 z1) := e1
    have e2 : some c = some (.int .i64 z2) := e2
    rw [Option.some.inj e0, Option.some.inj e1, Option.some.inj e2]
    rfl
theorem fts_of {fuel : Nat} {x : Value} {y : DataW H × List MemPlace} (hT : DataW.trod enc Tryz.prog W base sp held fuel 22 [x] = some y) (hv : Cell.okWide Tryz.prog W r b 22 x) : CameIn W x := by
  have c37 : Tryz.prog.cellsOf 37 = 3 := by kernel_rfl
  rcases DataW.trod_slice Tryz.underlying22 hT with ⟨hx, _⟩ | ⟨a, len, cap, elems, rest, n, _, hx, _, _, hl, hcap, hlen, hel, _⟩
  · left
    simpa using hx
  · right
    have hx : x = .slice (some a) len cap := by simpa using hx
    subst hx
    obtain ⟨blk, off, spot⟩ := a
    simp only [Cell.okWide, Tryz.underlying22, Cell.ok, World.has] at hv
    obtain ⟨_, hc64, _, hs, row, cells, hsh, _⟩ := hv
    have hs : spot = none := hs
    subst hs
    obtain ⟨arr, e, fz, hh⟩ : ∃ arr e fz, W.heap[blk]? = some (.cells arr e fz) := by
      unfold World.shape? at hsh
      split at hsh
      · rename_i c e f hh
        exact ⟨c, e, f, hh⟩
      · cases hsh
    have each : ∀ i, i < len → ∃ f : Ft, (in64 f.2.1 ∧ in64 f.2.2) ∧ ∀ j, j < 3 → arr[off + (i * 3 + j)]? = (ftV f)[j]? := by
      intro i hi
      have := hel i hi
      rw [List.getElem?_eq_getElem (by omega), Option.bind_eq_some_iff] at this
      obtain ⟨cs, h1, h2⟩ := this
      obtain ⟨f, rfl, hf⟩ := trod_ft h2
      refine ⟨f, hf, fun j hj => ?_⟩
      obtain ⟨_, _, h4⟩ := World.cells?_some h1
      rw [c37] at h4
      have h5 := h4 j hj
      rw [addr_add, addr_add] at h5
      rw [Nat.add_assoc] at h5
      rw [← h5]
      unfold World.cell?
      simp only [hh]
      simp
    obtain ⟨F, hF⟩ := Classical.axiomOfChoice (r := fun (i : Nat) (f : Ft) => i < len → (in64 f.2.1 ∧ in64 f.2.2) ∧ ∀ j, j < 3 → arr[off + (i * 3 + j)]? = (ftV f)[j]?) fun i => by
      by_cases hi : i < len
      · obtain ⟨f, h⟩ := each i hi
        exact ⟨f, fun _ => h⟩
      · exact ⟨(0, 0, 0), fun h => absurd h hi⟩
    have hLl : ((List.range len).map F).length = len := by simp
    have h64 : IntKind.i64.max = 9223372036854775807 := rfl
    have hml : maxLen ≤ 9223372036854775807 := by decide
    refine ⟨blk, off, cap, (List.range len).map F, by rw [hLl], by rw [hLl]; exact hl, by rw [hLl]; omega, fun f hf => ?_, arr, e, fz, hh, fun i v hi => ?_⟩
    · obtain ⟨i, hi, rfl⟩ := List.mem_map.1 hf
      exact (hF i (List.mem_range.1 hi)).1
    · have hil := (List.getElem?_eq_some_iff.1 hi).1
      rw [flat_len, hLl] at hil
      have hq : i / 3 < len := (Nat.div_lt_iff_lt_mul (by omega)).2 hil
      have hr : i % 3 < 3 := Nat.mod_lt _ (by omega)
      have hd := Nat.div_add_mod' i 3
      have h6 := (hF (i / 3) hq).2 (i % 3) hr
      have h7 := ftV_get ((List.range len).map F) (i / 3) (i % 3) (by rw [hLl]; exact hq) hr
      rw [hd] at h6 h7
      rw [hi] at h7
      rw [h6, h7]
      congr 2
      simp
end
end Go.Dust
end
