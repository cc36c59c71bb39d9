/- The twin, part 4: regions whose order is drawn, code, and the whole. -/
import Derived.Test.YthgncfnofmglgaaGreatDz0
noncomputable section
namespace Go.Dust
open PT (getK getK_eq setK setK_eq setLK setLK_eq ofListK ofListK_eq)

/-! ### Regions whose order is drawn -/
def execNK (X : Env) (call : CallK) (round : RoundK) (nm : Nat) (s : St) (a : ACt) (op : Op) (k : Value → St → Bool) : Bool := match kindOf op with
  | .still => stillK X s a op fun v => k v s
  | .alloc => match s with
    | ⟨h, nx, c⟩ => allocK X nm c a op fun v o => putK ⟨h, nx, c⟩ nm (fun _ => o) fun s => k v s
  | .effect => effectK X call round s a op k
theorem execNK_eq {X c r ck rk} (hc : RelC c ck) (hr : RelC r rk) (nm s a op k) : execNK X ck rk nm s a op k = optE (execN X c r nm s a.eval op) fun p => k p.1 p.2 := by
  unfold execNK execN
  cases kindOf op with
  | still => simp only [stillK_eq]; cases stillA X s.look a.eval op <;> rfl
  | alloc =>
    simp only [allocK_eq, putK_eq]
    cases allocA X nm a.eval op with
    | none => rfl
    | some p => rcases p with ⟨v, f⟩; rfl
  | effect =>
    refine (effectK_eq hc hr _ _ _ _).trans ?_
    cases effectA X c r s a.eval op <;> rfl
def readsK (a : ACt) (s : St) (op : Op) (k : List Nat → Bool) : Bool := match op with
  | .load _ x => evalK a x fun v => k (nameOf v)
  | .binOp _ _ x y _ => evalK a x fun v => evalK a y fun w => k (nameOf v ++ nameOf w)
  | .slice _ x _ _ _ => evalK a x fun v => k (nameOf v)
  | .lookup _ x _ _ => evalK a x fun v => k (nameOf v)
  | .entry it => k (readsOf a.eval s.look (.entry it))
  | .call c => match c.args[0]? with
    | some x => evalK a x fun v => k (nameOf v)
    | none => k []
  | _ => k []
theorem readsK_eq (a s op k) : readsK a s op k = k (readsOf a.eval s.look op) := by
  cases op with
  | call c => simp only [readsK, readsOf]; cases c.args[0]? <;> simp only [evalK_eq]
  | _ => first | rfl | simp only [readsK, evalK_eq, readsOf]
def logK (X : Env) (call : CallK) (round : RoundK) (ops : Array Oper) (base : Nat) (l : List Oper) : Nat → ACt → St → (ACt → St → List Note → Bool) → Bool :=
  List.rec (motive := fun _ => Nat → ACt → St → (ACt → St → List Note → Bool) → Bool) (fun _ a s k => k a s [])
  (fun o _ ih i a s k => wantedK ops a o
    (fNat (base + 2 * i) fun nm => readsK a s o.op fun rd => execNK X call round nm s a o.op fun v s' => putTK a o.dst v fun a' => fNat (Nat.succ i) fun i => ih i a' s' fun a2 s2 l => k a2 s2 ({ ran := true, reads := rd, pre := s, post := s' } :: l))
    (putTK a o.dst undef fun a' => fNat (Nat.succ i) fun i => ih i a' s fun a2 s2 l => k a2 s2 ({ ran := false, reads := [], pre := s, post := s } :: l))) l
theorem logK_eq {X c r ck rk} (hc : RelC c ck) (hr : RelC r rk) (ops base) : ∀ (l i a s k), logK X ck rk ops base l i a s k = optE (logOps X c r ops base l i a s) fun p => k p.1 p.2.1 p.2.2
  | [], _, _, _, _ => rfl
  | o :: l, i, a, s, k => by
    show wantedK ops a o
      (fNat (base + 2 * i) fun nm => readsK a s o.op fun rd => execNK X ck rk nm s a o.op fun v s' => putTK a o.dst v fun a' => fNat (Nat.succ i) fun i => logK X ck rk ops base l i a' s' fun a2 s2 l => k a2 s2 ({ ran := true, reads := rd, pre := s, post := s' } :: l))
      (putTK a o.dst undef fun a' => fNat (Nat.succ i) fun i => logK X ck rk ops base l i a' s fun a2 s2 l => k a2 s2 ({ ran := false, reads := [], pre := s, post := s } :: l)) = _
    rw [wantedK_eq, logOps]
    split
    · simp only [fNat_eq, readsK_eq, execNK_eq hc hr, putTK_eq, logK_eq hc hr ops base l]
      cases execN X c r (base + 2 * i) s a.eval o.op with
      | none => rfl
      | some p =>
        rcases p with ⟨v, s'⟩
        simp only [optE]
        show optE (logOps X c r ops base l (i + 1) (a.put o.dst v) s') _ = _
        cases logOps X c r ops base l (i + 1) (a.put o.dst v) s' <;> rfl
    · simp only [fNat_eq, putTK_eq, logK_eq hc hr ops base l]
      show optE (logOps X c r ops base l (i + 1) (a.put o.dst undef) s) _ = _
      cases logOps X c r ops base l (i + 1) (a.put o.dst undef) s <;> rfl
def verK (o : AObj) (k : Nat → Bool) : Bool := match o with
  | .cells _ _ _ _ _ _ v => k v
  | .map _ _ v => k v
  | .miter _ _ _ _ v => k v
  | .siter _ _ v => k v
  | .loop _ _ _ _ _ _ _ v => k v
  | .dead => false
theorem verK_eq (o k) : verK o k = if o.isDead = true then false else k o.ver := by cases o <;> rfl
def sameK (s s' : St) (b : Nat) (x : Bool) : Bool := match s, s' with
  | ⟨h, _, cl⟩, ⟨h', _, _⟩ => getK h b fun o => match o with
    | some o => getK h' b fun o' => match o' with
      | some o' => verK o fun v => verK o' fun v' => Bool.rec (motive := fun _ => Bool) false (Bool.rec (motive := fun _ => Bool) false x (Nat.ble (Nat.succ v) cl)) (Nat.beq v v')
      | none => false
    | none => false
theorem sameK_eq (s s' b x) : sameK s s' b x = andK (sameObj s s' b) x := by
  rcases s with ⟨h, nx, cl⟩
  rcases s' with ⟨h', nx', cl'⟩
  simp only [sameK, getK_eq, sameObj]
  cases h.get b with
  | none => rfl
  | some o =>
    simp only
    cases h'.get b with
    | none => rfl
    | some o' =>
      simp only [verK_eq]
      cases o.isDead with
      | true => rfl
      | false => cases o'.isDead with
        | true => rfl
        | false =>
          have h1 : Nat.beq o.ver o'.ver = (o.ver == o'.ver) := by
            cases hb : Nat.beq o.ver o'.ver with
            | true => have := Nat.eq_of_beq_eq_true hb; simp [this]
            | false => have := Nat.ne_of_beq_eq_false hb; simp [this]
          have h2 : Nat.ble (Nat.succ o.ver) cl = decide (o.ver < cl) := by
            cases hb : Nat.ble (Nat.succ o.ver) cl with
            | true => have := Nat.le_of_ble_eq_true hb; exact (decide_eq_true this).symm
            | false =>
              refine (decide_eq_false fun h => ?_).symm
              rw [Nat.ble_eq_true_of_le (Nat.succ_le_of_lt h)] at hb; cases hb
          simp only [Bool.false_eq_true, if_false, h1, h2]
          cases (o.ver == o'.ver) <;> cases decide (o.ver < cl) <;> rfl
def readsAllK (l : List Nat) (s s' : St) (x : Bool) : Bool := List.rec (motive := fun _ => Bool) x (fun b _ ih => sameK s s' b ih) l
theorem readsAllK_eq (s s' x) : ∀ l, readsAllK l s s' x = andK (l.all fun b => sameObj s s' b) x
  | [] => rfl
  | b :: l => by
    show sameK s s' b (readsAllK l s s' x) = _
    rw [sameK_eq, readsAllK_eq s s' x l, List.all_cons]
    cases sameObj s s' b <;> rfl
def logOkK (log : List Note) (c : List (Nat × Nat)) (x : Bool) : Bool := List.rec (motive := fun _ => Bool) x (fun p _ ih => match p with
  | ⟨i, j⟩ => nthK log i fun nx => match nx with
    | some nx => nthK log j fun nj => match nj with
      | some nj => match nx, nj with
        | ⟨ran, reads, _, _⟩, ⟨ran', _, pre, post⟩ => Bool.rec (motive := fun _ => Bool) ih (Bool.rec (motive := fun _ => Bool) ih (readsAllK reads pre post ih) ran') ran
      | none => false
    | none => false) c
theorem logOkK_eq (log x) : ∀ c, logOkK log c x = andK (logOk log c) x
  | [] => rfl
  | (i, j) :: c => by
    have h := logOkK_eq log x c
    show (nthK log i fun nx => match nx with
      | some nx => nthK log j fun nj => match nj with
        | some nj => match nx, nj with
          | ⟨ran, reads, _, _⟩, ⟨ran', _, pre, post⟩ => Bool.rec (motive := fun _ => Bool) (logOkK log c x) (Bool.rec (motive := fun _ => Bool) (logOkK log c x) (readsAllK reads pre post (logOkK log c x)) ran') ran
        | none => false
      | none => false) = _
    rw [h]
    simp only [nthK_eq, logOk, List.all_cons, readsAllK_eq]
    cases log[i]? with
    | none => rfl
    | some nx =>
      cases log[j]? with
      | none => rfl
      | some nj =>
        rcases nx with ⟨ran, reads, p1, p2⟩
        rcases nj with ⟨ran', r', pre, post⟩
        cases ran <;> cases ran' <;> first | rfl | (simp only; cases (reads.all fun b => sameObj pre post b) <;> rfl)
def drawnK (X : Env) (call : CallK) (round : RoundK) (ops : Array Oper) (a : ACt) (s : St) (k : ACt → St → Bool) : Bool := confK ops fun c => match s with
  | ⟨h, nx, cl⟩ => fNat (nx + 2 * ops.size) fun nx' => logK X call round ops nx ops.toList Nat.zero a ⟨h, nx', cl⟩ fun a s log => logOkK log c (k a s)
theorem drawnK_eq {X c r ck rk} (hc : RelC c ck) (hr : RelC r rk) (ops a s k) : drawnK X ck rk ops a s k = (drawnA X c r ops a s).elim fun p => k p.1 p.2 := by
  unfold drawnK drawnA
  rw [confK_eq]
  cases conf ops with
  | none => rfl
  | some l =>
    simp only [optE, fNat_eq, logK_eq hc hr, logOkK_eq]
    show optE (logOps X c r ops s.next ops.toList 0 a _) _ = _
    cases logOps X c r ops s.next ops.toList 0 a { heap := s.heap, next := s.next + 2 * ops.size, clk := s.clk } with
    | none => rfl
    | some p =>
      rcases p with ⟨a, s, log⟩
      simp only [optE]
      cases logOk log l <;> rfl

/-! ### Code -/
def resK1 (X : Env) (s : St) (a : ACt) (l : List ResultVar) : (List Value → Bool) → Bool := List.rec (motive := fun _ => (List Value → Bool) → Bool) (fun k => k []) (fun r _ ih k => match r with
  | .tmp t => evalK a (.tmp t) fun v => ih fun l => k (v :: l)
  | .cell t ty => evalK a (.tmp t) fun v => match v with
    | .pointer (some ad) => loadK X s ty ad fun v => ih fun l => k (v :: l)
    | _ => false) l
theorem resK1_eq (X s a) : ∀ (l k), resK1 X s a l k = optE (results1 X s.look a l) k
  | [], _ => rfl
  | .tmp t :: l, k => by
    show (evalK a (.tmp t) fun v => resK1 X s a l fun l => k (v :: l)) = _
    rw [evalK_eq, resK1_eq X s a l, results1]
    cases results1 X s.look a l <;> rfl
  | .cell t ty :: l, k => by
    show (evalK a (.tmp t) fun v => match v with
      | .pointer (some ad) => loadK X s ty ad fun v => resK1 X s a l fun l => k (v :: l)
      | _ => false) = _
    rw [evalK_eq, results1]
    simp only [ACt.eval]
    cases a.getT t with
    | pointer ad => cases ad with
      | none => rfl
      | some ad =>
        simp only [loadK_eq, resK1_eq X s a l]
        cases loadT X s.look ty ad with
        | none => rfl
        | some v => cases results1 X s.look a l <;> rfl
    | _ => rfl
def resultsK (X : Env) (s : St) (f : Func) (a : ACt) (k : Value → Bool) : Bool := resK1 X s a f.results.toList fun l => match l with
  | [v] => k v
  | l => k (.tuple ⟨l⟩)
theorem resultsK_eq (X s f a k) : resultsK X s f a k = optE (resultsA X s.look f a) k := by
  unfold resultsK resultsA
  rw [resK1_eq]
  cases results1 X s.look a f.results.toList with
  | none => rfl
  | some l => match l with
    | [] => rfl
    | [v] => rfl
    | v :: w :: l => rfl
def liveK (r : Option Nat) (s : St) (x : Bool) : Bool := match r with
  | none => x
  | some l => match s with
    | ⟨h, _, _⟩ => getK h l fun o => match o with
      | some (.loop ..) => x
      | _ => false
theorem liveK_eq (r s x) : liveK r s x = andK (liveRound r s) x := by
  cases r with
  | none => rfl
  | some l =>
    simp only [liveK, getK_eq, liveRound]
    cases s.heap.get l with
    | none => rfl
    | some o => cases o <;> rfl
def argsK (l : List (Tmp × Value)) : PT Value → (PT Value → Bool) → Bool := List.rec (motive := fun _ => PT Value → (PT Value → Bool) → Bool) (fun t k => k t) (fun p _ ih t k => setK t p.1 p.2 fun t => ih t k) l
theorem argsK_eq : ∀ (l t k), argsK l t k = k (putArgs t l)
  | [], _, _ => rfl
  | (i, v) :: l, t, k => by
    show (setK t i v fun t => argsK l t k) = _
    rw [setK_eq, argsK_eq l]; rfl

inductive Mode where
  | code (r : Option Nat) (c : Code) (a : ACt)
  | call (f : FuncId) (args : List Value)
  | round (l : Nat) (args : List Value)
abbrev GoK := Mode → St → (AExit → ACt → St → Bool) → (Value → St → Bool) → Bool
def noKC (_ : AExit) (_ : ACt) (_ : St) : Bool := false
def noKV (_ : Value) (_ : St) : Bool := false
def callOf (g : GoK) : CallK := fun f args s k => g (.call f args) s noKC k
def roundOf (g : GoK) : RoundK := fun l args s k => g (.round l args) s noKC k
def codeK (X : Env) (g : GoK) (r : Option Nat) (c : Code) (a : ACt) (s : St) (k : AExit → ACt → St → Bool) : Bool := match c with
  | .skip => k .normal a s
  | .label _ => k .normal a s
  | .region _ ops draw => Bool.rec (motive := fun _ => Bool) (runK X (callOf g) (roundOf g) ops ops.toList a s fun a s => k .normal a s) (drawnK X (callOf g) (roundOf g) ops a s fun a s => k .normal a s) draw
  | .seq x y => g (.code r x a) s (fun e a s => match e with
    | .normal => g (.code r y a) s k noKV
    | e => k e a s) noKV
  | .cond c x y => evalK a c fun v => match v with
    | .bool b => Bool.rec (motive := fun _ => Bool) (g (.code r y a) s k noKV) (g (.code r x a) s k noKV) b
    | _ => false
  | .block id b => g (.code r b a) s (fun e a s => match e with
    | .exit i => Bool.rec (motive := fun _ => Bool) (k (.exit i) a s) (k .normal a s) (Nat.beq i id)
    | e => k e a s) noKV
  | .loop b => g (.code r b a) s (fun e a s => match e with
    | .normal => g (.code r (.loop b) a) s k noKV
    | e => k e a s) noKV
  | .exit id => k (.exit id) a s
  | .ret => k .ret a s
  | .rangeFunc f ps assign body => evalK a f fun v => match v with
    | .func (.func f) first captured => liveK r s (match s, a with
      | ⟨h, nx, cl⟩, ⟨tm, nt⟩ => appK [.func (.yield nx) #[] #[]] captured.toList fun l => appK first.toList l fun l => newK ⟨h, nx, cl⟩ (fun v => .loop .ready none tm nt ps assign body v) fun s1 =>
        g (.call f l) s1 noKC fun _ s' => match s' with
          | ⟨h', nx', cl'⟩ => getK h' nx fun o => match o with
            | some (.loop st pend t nt' ps as bd _) => if st = .busy then false else match pend with
              | none => putK ⟨h', nx', cl'⟩ nx (fun v => .loop .exhausted none t nt' ps as bd v) fun s => k .normal ⟨tm, nt⟩ s
              | some .ret => putK ⟨h', nx', cl'⟩ nx (fun v => .loop .exhausted (some .ret) t nt' ps as bd v) fun s => k .ret ⟨tm, nt⟩ s
              | some (.exit id) => putK ⟨h', nx', cl'⟩ nx (fun v => .loop .exhausted (some (.exit id)) t nt' ps as bd v) fun s => k (.exit id) ⟨tm, nt⟩ s
              | some _ => false
            | _ => false)
    | _ => false
  | _ => false
def callKK (X : Env) (g : GoK) (f : FuncId) (args : List Value) (s : St) (k : Value → St → Bool) : Bool := match X.fn f with
  | some fn => match fn.body with
    | some c => lenK args fun n => Bool.rec (motive := fun _ => Bool) false (ofListK args fun tm => g (.code none c ⟨tm, fn.ntmps⟩) s (fun e a s => match e with
      | .exit _ => false
      | _ => resultsK X s fn a fun v => k v s) noKV) (Nat.ble n fn.ntmps)
    | none => (externA s fn args).elim fun p => fV p.1 fun v => k v p.2
  | none => false
def roundKK (g : GoK) (l : Nat) (args : List Value) (s : St) (k : Value → St → Bool) : Bool := match s with
  | ⟨h, nx, cl⟩ => getK h l fun o => match o with
    | some (.loop .ready _ t nt ps assign body _) => lenK args fun n => Bool.rec (motive := fun _ => Bool) false
      (argsK (ps.toList.zip args) t fun t => g (.code (some l) assign ⟨t, nt⟩) ⟨h, nx, cl⟩ (fun e a s => match e with
        | .normal => match s with
          | ⟨h, nx, cl⟩ => getK h l fun o => match o with
            | some (.loop .ready pend t nt ps as bd _) => putK ⟨h, nx, cl⟩ l (fun v => .loop .busy pend t nt ps as bd v) fun s => g (.code (some l) body a) s (fun e _ s => match s with
              | ⟨h, nx, cl⟩ => getK h l fun o => match o with
                | some (.loop _ _ t nt ps as bd _) => match e with
                  | .normal => putK ⟨h, nx, cl⟩ l (fun v => .loop .ready none t nt ps as bd v) fun s => k (.bool true) s
                  | .ret => putK ⟨h, nx, cl⟩ l (fun v => .loop .done (some .ret) t nt ps as bd v) fun s => k (.bool false) s
                  | .exit id => putK ⟨h, nx, cl⟩ l (fun v => .loop .done (some (.exit id)) t nt ps as bd v) fun s => k (.bool false) s
                | _ => false) noKV
            | _ => false
        | _ => false) noKV) (Nat.beq n ps.size)
    | _ => false
def stepK (X : Env) (g : GoK) (m : Mode) (s : St) (kc : AExit → ACt → St → Bool) (kv : Value → St → Bool) : Bool := match m with
  | .code r c a => codeK X g r c a s kc
  | .call f args => callKK X g f args s kv
  | .round l args => roundKK g l args s kv
def goK (X : Env) (n : Nat) : GoK := Nat.rec (motive := fun _ => GoK) (fun _ _ _ _ => false) (fun _ g => stepK X g) n

def resOf (X : Env) (n : Nat) (m : Mode) (s : St) (kc : AExit → ACt → St → Bool) (kv : Value → St → Bool) : Bool := match m with
  | .code r c a => (code X n r c a s).elim fun p => kc p.1 p.2.1 p.2.2
  | .call f args => (callA X n f args s).elim fun p => kv p.1 p.2
  | .round l args => (roundA X n l args s).elim fun p => kv p.1 p.2
theorem goK_eq (X : Env) : ∀ (n m s kc kv), goK X n m s kc kv = resOf X n m s kc kv := by
  intro n
  induction n with
  | zero => intro m s kc kv; cases m <;> simp only [resOf] <;> first | (rw [code]; rfl) | (rw [callA]; rfl) | (rw [roundA]; rfl)
  | succ n ih =>
    have hcode : ∀ r c a s k, goK X n (.code r c a) s k noKV = (code X n r c a s).elim fun p => k p.1 p.2.1 p.2.2 := fun r c a s k => ih _ _ _ _
    have hcall : RelC (callA X n) (callOf (goK X n)) := fun f args s k => ih _ _ _ _
    have hround : RelC (roundA X n) (roundOf (goK X n)) := fun f args s k => ih _ _ _ _
    have hcall' : ∀ f args s k, goK X n (.call f args) s noKC k = (callA X n f args s).elim fun p => k p.1 p.2 := fun f args s k => ih _ _ _ _
    intro m s kc kv
    cases m with
    | code r c a =>
      show codeK X (goK X n) r c a s kc = (code X (n + 1) r c a s).elim fun p => kc p.1 p.2.1 p.2.2
      cases c with
      | region id ops draw =>
        rw [code, Res.elim_bind]
        cases draw with
        | false => exact runK_eq hcall hround _ _ _ _ _
        | true => exact drawnK_eq hcall hround _ _ _ _
      | seq x y =>
        rw [code, Res.elim_bind]
        refine (hcode _ _ _ _ _).trans ?_
        congr 1; funext p
        rcases p with ⟨e, a, s⟩
        cases e with
        | normal => exact hcode _ _ _ _ _
        | _ => rfl
      | cond c x y =>
        rw [code]
        simp only [codeK, evalK_eq]
        cases a.eval c with
        | bool b => cases b with
          | true => exact hcode _ _ _ _ _
          | false => exact hcode _ _ _ _ _
        | _ => rfl
      | block id b =>
        rw [code, Res.elim_bind]
        refine (hcode _ _ _ _ _).trans ?_
        congr 1; funext p
        rcases p with ⟨e, a, s⟩
        cases e with
        | exit i =>
          simp only
          cases hb : Nat.beq i id with
          | true => rw [if_pos (Nat.eq_of_beq_eq_true hb)]; rfl
          | false => rw [if_neg (Nat.ne_of_beq_eq_false hb)]; rfl
        | _ => rfl
      | loop b =>
        rw [code, Res.elim_bind]
        refine (hcode _ _ _ _ _).trans ?_
        congr 1; funext p
        rcases p with ⟨e, a, s⟩
        cases e with
        | normal => exact hcode _ _ _ _ _
        | _ => rfl
      | rangeFunc f ps assign body =>
        rw [code]
        simp only [codeK, evalK_eq]
        cases a.eval f with
        | func fn first captured =>
          cases fn with
          | func f =>
            simp only [liveK_eq]
            by_cases hl : liveRound r s = true
            · rw [if_pos hl, hl]
              simp only [andK]
              rcases s with ⟨h, nx, cl⟩
              rcases a with ⟨tm, nt⟩
              simp only [appK_eq, newK_eq, Res.elim_bind, hcall', List.append_assoc]
              congr 1; funext p
              rcases p with ⟨v, h', nx', cl'⟩
              simp only [getK_eq]
              cases h'.get nx with
              | none => rfl
              | some o =>
                cases o with
                | loop st pend t nt' ps as bd v =>
                  simp only
                  split
                  · rfl
                  · cases pend with
                    | none => simp only [putK_eq]; rfl
                    | some c => cases c <;> first | rfl | (simp only [putK_eq]; rfl)
                | _ => rfl
            · rw [if_neg hl, Bool.eq_false_iff.2 hl]; rfl
          | _ => rfl
        | _ => rfl
      | _ => rw [code]; rfl
    | call f args =>
      show callKK X (goK X n) f args s kv = (callA X (n + 1) f args s).elim fun p => kv p.1 p.2
      rw [callA]
      unfold callKK
      cases X.fn f with
      | none => rfl
      | some fn =>
        simp only
        cases fn.body with
        | none => simp only [fV_eq]
        | some c =>
          simp only [lenK_eq, ofListK_eq, hcode]
          cases hb : Nat.ble args.length fn.ntmps with
          | false =>
            rw [if_neg (fun h => by rw [Nat.ble_eq_true_of_le h] at hb; cases hb)]; rfl
          | true =>
            rw [if_pos (Nat.le_of_ble_eq_true hb), Res.elim_bind]
            refine congrArg (Res.elim _) (funext fun p => ?_)
            rcases p with ⟨e, a, s⟩
            cases e with
            | exit i => rfl
            | _ =>
              simp only [resultsK_eq]
              cases resultsA X s.look fn a <;> rfl
    | round l args =>
      show roundKK (goK X n) l args s kv = (roundA X (n + 1) l args s).elim fun p => kv p.1 p.2
      rw [roundA]
      rcases s with ⟨h, nx, cl⟩
      simp only [roundKK, getK_eq]
      cases h.get l with
      | none => rfl
      | some o =>
        cases o with
        | loop st pend t nt ps assign body v =>
          cases st with
          | ready =>
            simp only [lenK_eq, argsK_eq, hcode]
            cases hb : Nat.beq args.length ps.size with
            | false => rw [if_neg (Nat.ne_of_beq_eq_false hb)]; rfl
            | true =>
              rw [if_pos (Nat.eq_of_beq_eq_true hb), Res.elim_bind]
              refine congrArg (Res.elim _) (funext fun p => ?_)
              rcases p with ⟨e, a, h, nx, cl⟩
              cases e with
              | normal =>
                dsimp only
                cases h.get l with
                | none => rfl
                | some o =>
                  cases o with
                  | loop st pend t nt ps as bd v =>
                    cases st with
                    | ready =>
                      simp only [putK_eq, Res.elim_bind]
                      congr 1; funext p
                      rcases p with ⟨e, a, h, nx, cl⟩
                      dsimp only
                      cases h.get l with
                      | none => rfl
                      | some o =>
                        cases o with
                        | loop st pend t nt ps as bd v => cases e <;> rfl
                        | _ => rfl
                    | _ => rfl
                  | _ => rfl
              | _ => rfl
          | _ => rfl
        | _ => rfl

def isTrueK (v : Value) (_ : St) : Bool := match v with
  | .bool b => b
  | _ => false
theorem isTrue_of {X : Env} {n : Nat} {f : FuncId} {args : List Value} {s : St} (h : goK X n (.call f args) s noKC isTrueK = true) : isTrue (callA X n f args s) = true := by
  rw [goK_eq] at h
  simp only [resOf] at h
  cases hr : callA X n f args s with
  | ret p =>
    rcases p with ⟨v, s'⟩
    rw [hr] at h
    cases v with
    | bool b => cases b with
      | true => rfl
      | false => cases h
    | _ => cases h
  | _ => rw [hr] at h; cases h
end Go.Dust
end
