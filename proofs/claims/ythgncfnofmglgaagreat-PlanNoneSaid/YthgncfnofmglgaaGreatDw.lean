/- The twin of the interpreter that the kernel runs: by continuations, so that nothing that is done is kept. It answers as D does. -/
import Derived.Test.YthgncfnofmglgaaGreatDv
noncomputable section
namespace Go.Dust

def Res.elim {α : Type} (x : Res α) (k : α → Bool) : Bool := match x with
  | .ret a => k a
  | _ => false
theorem Res.elim_bind {α β : Type} (x : Res α) (f : α → Res β) (k : β → Bool) : (x.bind f).elim k = x.elim fun a => (f a).elim k := by cases x <;> rfl
def optE {α : Type} (o : Option α) (k : α → Bool) : Bool := match o with
  | some a => k a
  | none => false
theorem elim_ofOption {α : Type} (w : String) (o : Option α) (k : α → Bool) : (Res.ofOption w o).elim k = optE o k := by cases o <;> rfl

/-! ### Values made plain -/
def fBool (b : Bool) (k : Bool → Bool) : Bool := Bool.rec (motive := fun _ => Bool) (k false) (k true) b
theorem fBool_eq (b k) : fBool b k = k b := by cases b <;> rfl
def fNat (n : Nat) (k : Nat → Bool) : Bool := Nat.rec (motive := fun _ => Bool) (k Nat.zero) (fun n _ => k (Nat.succ n)) n
theorem fNat_eq (n k) : fNat n k = k n := by cases n <;> rfl
def fInt (x : Int) (k : Int → Bool) : Bool := match x with
  | .ofNat n => fNat n fun n => k (.ofNat n)
  | .negSucc n => fNat n fun n => k (.negSucc n)
theorem fInt_eq (x k) : fInt x k = k x := by
  cases x with
  | ofNat n => exact fNat_eq n fun n => k (.ofNat n)
  | negSucc n => exact fNat_eq n fun n => k (.negSucc n)
def fAddr (a : Addr) (k : Addr → Bool) : Bool := match a with
  | ⟨b, o, none⟩ => fNat b fun b => fNat o fun o => k ⟨b, o, none⟩
  | ⟨b, o, some q⟩ => fNat b fun b => fNat o fun o => fNat q fun q => k ⟨b, o, some q⟩
theorem fAddr_eq (a k) : fAddr a k = k a := by
  rcases a with ⟨b, o, _ | q⟩ <;> simp only [fAddr, fNat_eq]
def fOA (a : Option Addr) (k : Option Addr → Bool) : Bool := match a with
  | none => k none
  | some a => fAddr a fun a => k (some a)
theorem fOA_eq (a k) : fOA a k = k a := by cases a <;> simp only [fOA, fAddr_eq]
def fSpine {α : Type} (l : List α) : (List α → Bool) → Bool := List.rec (motive := fun _ => (List α → Bool) → Bool) (fun k => k []) (fun x _ ih k => ih fun l => k (x :: l)) l
theorem fSpine_eq {α : Type} : ∀ (l : List α) (k), fSpine l k = k l
  | [], _ => rfl
  | x :: l, k => fSpine_eq l fun l => k (x :: l)
def f1 (v : Value) (k : Value → Bool) : Bool := match v with
  | .bool b => fBool b fun b => k (.bool b)
  | .int j x => fInt x fun x => k (.int j x)
  | .string ⟨⟨l⟩⟩ => fSpine l fun l => k (.string ⟨⟨l⟩⟩)
  | .pointer a => fOA a fun a => k (.pointer a)
  | .slice a l c => fOA a fun a => fNat l fun l => fNat c fun c => k (.slice a l c)
  | v => k v
theorem f1_eq (v k) : f1 v k = k v := by
  unfold f1
  split <;> simp only [fBool_eq, fInt_eq, fSpine_eq, fOA_eq, fNat_eq]
def fL (l : List Value) : (List Value → Bool) → Bool := List.rec (motive := fun _ => (List Value → Bool) → Bool) (fun k => k []) (fun v _ ih k => f1 v fun v => ih fun l => k (v :: l)) l
theorem fL_eq : ∀ (l : List Value) (k), fL l k = k l
  | [], _ => rfl
  | x :: l, k => (f1_eq x fun v => fL l fun l => k (v :: l)).trans (fL_eq l fun l => k (x :: l))
def fV (v : Value) (k : Value → Bool) : Bool := match v with
  | .agg ⟨l⟩ => fL l fun l => k (.agg ⟨l⟩)
  | .tuple ⟨l⟩ => fL l fun l => k (.tuple ⟨l⟩)
  | v => f1 v k
theorem fV_eq (v k) : fV v k = k v := by
  unfold fV
  split <;> simp only [fL_eq, f1_eq]
def optV (o : Option Value) (k : Value → Bool) : Bool := match o with
  | some v => fV v k
  | none => false
theorem optV_eq (o k) : optV o k = optE o k := by cases o <;> simp only [optV, optE, fV_eq]

/-! ### Finite maps -/
namespace PT
variable {α : Type}
def pathF (f : Nat) : Nat → List Bool := Nat.rec (motive := fun _ => Nat → List Bool) (fun _ => []) (fun _ ih n => Bool.rec (motive := fun _ => List Bool) (List.cons (Nat.beq (Nat.mod n 2) 1) (ih (Nat.div (Nat.sub n 1) 2))) [] (Nat.beq n 0)) f
def path (n : Nat) : List Bool := pathF (Nat.succ n) n
def getP (p : List Bool) : PT α → (Option α → Bool) → Bool := List.rec (motive := fun _ => PT α → (Option α → Bool) → Bool)
  (fun t k => PT.rec (motive := fun _ => Bool) (k none) (fun v _ _ _ _ => k v) t)
  (fun b _ ih t k => PT.rec (motive := fun _ => Bool) (k none) (fun _ l r _ _ => Bool.rec (motive := fun _ => Bool) (ih r k) (ih l k) b) t) p
def setP (p : List Bool) : α → PT α → (PT α → Bool) → Bool := List.rec (motive := fun _ => α → PT α → (PT α → Bool) → Bool)
  (fun a t k => PT.rec (motive := fun _ => Bool) (k (.node (some a) .nil .nil)) (fun _ l r _ _ => k (.node (some a) l r)) t)
  (fun b _ ih a t k => PT.rec (motive := fun _ => Bool)
    (Bool.rec (motive := fun _ => Bool) (ih a .nil fun x => k (.node none .nil x)) (ih a .nil fun x => k (.node none x .nil)) b)
    (fun v l r _ _ => Bool.rec (motive := fun _ => Bool) (ih a r fun x => k (.node v l x)) (ih a l fun x => k (.node v x r)) b) t) p
def getK (t : PT α) (n : Nat) (k : Option α → Bool) : Bool := getP (path n) t k
def setK (t : PT α) (n : Nat) (a : α) (k : PT α → Bool) : Bool := setP (path n) a t k
theorem pathF_zero (f : Nat) : pathF (f + 1) 0 = [] := rfl
theorem pathF_succ (f n : Nat) : pathF (f + 1) (n + 1) = Nat.beq (Nat.mod (n + 1) 2) 1 :: pathF f (n / 2) := rfl
theorem getP_eq : ∀ (f n : Nat) (t : PT α) (k : Option α → Bool), n < f → getP (pathF f n) t k = k (t.get n) := by
  intro f
  induction f with
  | zero => intro n t k h; omega
  | succ f ih =>
    intro n t k h
    cases n with
    | zero => rw [pathF_zero]; cases t <;> rfl
    | succ n =>
      rw [pathF_succ]
      cases t with
      | nil => rfl
      | node v l r =>
        rcases Nat.mod_two_eq_zero_or_one n with e | e
        · rw [beq_odd e, get_node_even _ _ _ _ e]; exact ih _ _ _ (by omega)
        · rw [beq_even e, get_node_odd _ _ _ _ e]; exact ih _ _ _ (by omega)
theorem setP_eq : ∀ (f n : Nat) (a : α) (t : PT α) (k : PT α → Bool), n < f → setP (pathF f n) a t k = k (setF f t n a) := by
  intro f
  induction f with
  | zero => intro n a t k h; omega
  | succ f ih =>
    intro n a t k h
    cases n with
    | zero => rw [pathF_zero]; cases t <;> rfl
    | succ n =>
      rw [pathF_succ]
      cases t with
      | nil =>
        rcases Nat.mod_two_eq_zero_or_one n with e | e
        · rw [beq_odd e, setF_nil_even _ _ _ e]; exact ih _ _ _ _ (by omega)
        · rw [beq_even e, setF_nil_odd _ _ _ e]; exact ih _ _ _ _ (by omega)
      | node v l r =>
        rcases Nat.mod_two_eq_zero_or_one n with e | e
        · rw [beq_odd e, setF_node_even _ _ _ _ _ _ e]; exact ih _ _ _ _ (by omega)
        · rw [beq_even e, setF_node_odd _ _ _ _ _ _ e]; exact ih _ _ _ _ (by omega)
theorem getK_eq (t : PT α) (n k) : getK t n k = k (t.get n) := getP_eq _ _ _ _ (Nat.lt_succ_self n)
theorem setK_eq (t : PT α) (n a k) : setK t n a k = k (t.set n a) := setP_eq _ _ _ _ _ (Nat.lt_succ_self n)
def setLK (l : List α) : PT α → Nat → (PT α → Bool) → Bool := List.rec (motive := fun _ => PT α → Nat → (PT α → Bool) → Bool) (fun t _ k => k t) (fun a _ ih t n k => setK t n a fun t => fNat (Nat.succ n) fun n => ih t n k) l
theorem setLK_eq : ∀ (l : List α) (t : PT α) (n k), setLK l t n k = k (t.setL n l)
  | [], _, _, _ => rfl
  | a :: l, t, n, k => by
    show (setK t n a fun t => fNat (Nat.succ n) fun n => setLK l t n k) = _
    rw [setK_eq, fNat_eq, setLK_eq l]; rfl
def ofListK (l : List α) (k : PT α → Bool) : Bool := setLK l .nil Nat.zero k
theorem ofListK_eq (l : List α) (k) : ofListK l k = k (ofList l) := setLK_eq l _ _ _
end PT
open PT (getK getK_eq setK setK_eq setLK setLK_eq ofListK ofListK_eq)

def nthK {α : Type} (l : List α) : Nat → (Option α → Bool) → Bool := List.rec (motive := fun _ => Nat → (Option α → Bool) → Bool) (fun _ k => k none) (fun x _ ih n k => Nat.rec (motive := fun _ => Bool) (k (some x)) (fun m _ => ih m k) n) l
theorem nthK_eq {α : Type} : ∀ (l : List α) (n k), nthK l n k = k l[n]?
  | [], n, k => by simp; rfl
  | x :: l, 0, k => rfl
  | x :: l, n + 1, k => (nthK_eq l n k).trans (by simp)
def appK {α : Type} (l : List α) : List α → (List α → Bool) → Bool := List.rec (motive := fun _ => List α → (List α → Bool) → Bool) (fun m k => k m) (fun x _ ih m k => ih m fun r => k (x :: r)) l
theorem appK_eq {α : Type} : ∀ (l m : List α) (k), appK l m k = k (l ++ m)
  | [], _, _ => rfl
  | x :: l, m, k => appK_eq l m fun r => k (x :: r)
def lenK {α : Type} (l : List α) (k : Nat → Bool) : Bool := List.rec (motive := fun _ => Nat → Bool) (fun n => fNat n k) (fun _ _ ih n => ih (Nat.succ n)) l Nat.zero
theorem lenK_eq {α : Type} (l : List α) (k) : lenK l k = k l.length := by
  have : ∀ (l : List α) (n : Nat), (List.rec (motive := fun _ => Nat → Bool) (fun n => fNat n k) (fun _ _ ih n => ih (Nat.succ n)) l n) = k (n + l.length) := by
    intro l
    induction l with
    | nil => intro n; exact fNat_eq _ _
    | cons x l ih => intro n; exact (ih (Nat.succ n)).trans (by rw [List.length_cons]; congr 1; omega)
  exact (this l 0).trans (by rw [Nat.zero_add])

/-! ### Operands -/
def evalK (a : ACt) (o : Operand) (k : Value → Bool) : Bool := match o with
  | .tmp t => match a with
    | ⟨tm, _⟩ => getK tm t fun v => match v with
      | some v => k v
      | none => k undef
  | .const v => k v
  | .global g => fNat (Nat.mul 2 g) fun b => k (.pointer (some ⟨b, 0, none⟩))
  | .func f => k (.func (.func f) #[] #[])
theorem evalK_eq (a o k) : evalK a o k = k (a.eval o) := by
  cases o with
  | tmp t =>
    simp only [evalK, getK_eq, ACt.eval, ACt.getT]
    cases a.tmps.get t <;> rfl
  | const v => rfl
  | global g => simp only [evalK, fNat_eq]; rfl
  | func f => rfl
def evalsK (a : ACt) (l : List Operand) : (List Value → Bool) → Bool := List.rec (motive := fun _ => (List Value → Bool) → Bool) (fun k => k []) (fun x _ ih k => evalK a x fun v => ih fun l => k (v :: l)) l
theorem evalsK_eq (a) : ∀ (l k), evalsK a l k = k (l.map a.eval)
  | [], _ => rfl
  | x :: l, k => (evalK_eq a x fun v => evalsK a l fun l => k (v :: l)).trans (evalsK_eq a l _)
def evalOK (a : ACt) (o : Option Operand) (k : Option Value → Bool) : Bool := match o with
  | none => k none
  | some x => evalK a x fun v => k (some v)
theorem evalOK_eq (a o k) : evalOK a o k = k (o.map a.eval) := by cases o <;> simp only [evalOK, evalK_eq, Option.map]
def partsK (a : ACt) (l : List (Nat × Operand)) : (List (Nat × Value) → Bool) → Bool := List.rec (motive := fun _ => (List (Nat × Value) → Bool) → Bool) (fun k => k []) (fun x _ ih k => evalK a x.2 fun v => ih fun l => k ((x.1, v) :: l)) l
theorem partsK_eq (a) : ∀ (l k), partsK a l k = k (l.map fun (i, x) => (i, a.eval x))
  | [], _ => rfl
  | x :: l, k => (evalK_eq a x.2 fun v => partsK a l fun l => k ((x.1, v) :: l)).trans (partsK_eq a l _)
def putTK (a : ACt) (d : Option Tmp) (v : Value) (k : ACt → Bool) : Bool := match d with
  | some d => match a with
    | ⟨tm, nt⟩ => setK tm d v fun tm => k ⟨tm, nt⟩
  | none => k a
theorem putTK_eq (a d v k) : putTK a d v k = k (a.put d v) := by cases d <;> simp only [putTK, setK_eq, ACt.put]
def cellsK (v : Value) (k : List Value → Bool) : Bool := match v with
  | .agg ⟨l⟩ => k l
  | v => k [v]
theorem cellsK_eq (v k) : cellsK v k = k v.cells.toList := by cases v <;> rfl

/-! ### Cells -/
def cellK (c : PT Value) (z : List Value) (n i : Nat) (k : Value → Bool) : Bool := Bool.rec (motive := fun _ => Bool) false
  (getK c i fun v => match v with
    | some v => k v
    | none => fV (z.getD (i % z.length) undef) k) (Nat.ble (Nat.succ i) n)
theorem cellK_eq (c z n i k) : cellK c z n i k = optE (cellAt c z n i) k := by
  unfold cellK cellAt
  cases hb : Nat.ble (Nat.succ i) n with
  | true =>
    have : i < n := Nat.le_of_ble_eq_true hb
    rw [if_pos this]
    simp only [getK_eq]
    cases c.get i <;> simp only [optE, fV_eq]
  | false =>
    have : ¬ i < n := fun h => by
      have := Nat.ble_eq_true_of_le (Nat.succ_le_of_lt h)
      rw [hb] at this; cases this
    rw [if_neg this]; rfl
def readK (c : PT Value) (z : List Value) (n : Nat) (m : Nat) : Nat → (List Value → Bool) → Bool := Nat.rec (motive := fun _ => Nat → (List Value → Bool) → Bool) (fun _ k => k []) (fun _ ih i k => cellK c z n i fun v => fNat (Nat.succ i) fun i => ih i fun l => k (v :: l)) m
theorem readK_eq (c z n) : ∀ (m i k), readK c z n m i k = optE (readCells c z n i m) k
  | 0, _, _ => rfl
  | m + 1, i, k => by
    show (cellK c z n i fun v => fNat (Nat.succ i) fun i => readK c z n m i fun l => k (v :: l)) = _
    rw [cellK_eq, readCells]
    cases cellAt c z n i with
    | none => rfl
    | some v =>
      simp only [optE, fNat_eq]
      rw [readK_eq c z n m]
      cases readCells c z n (i + 1) m <;> rfl
def loadNK (s : St) (a : Addr) (m : Nat) (k : List Value → Bool) : Bool := match s, a with
  | ⟨h, _, _⟩, ⟨b, off, none⟩ => getK h b fun o => match o with
    | some (.cells c z n _ _ _ _) => readK c z n m off k
    | _ => false
  | _, _ => false
theorem loadNK_eq (s a m k) : loadNK s a m k = optE (loadN s.look a m) k := by
  rcases s with ⟨h, nx, cl⟩
  rcases a with ⟨b, off, _ | q⟩
  · simp only [loadNK, getK_eq, loadN, St.look]
    cases h.get b with
    | none => rfl
    | some o => cases o <;> first | rfl | exact readK_eq _ _ _ _ _ _
  · rfl
def load1K (s : St) (a : Addr) (k : Value → Bool) : Bool := match s, a with
  | ⟨h, _, _⟩, ⟨b, off, none⟩ => getK h b fun o => match o with
    | some (.cells c z n _ _ _ _) => cellK c z n off k
    | _ => false
  | _, _ => false
theorem load1K_eq (s a k) : load1K s a k = optE (load1 s.look a) k := by
  rcases s with ⟨h, nx, cl⟩
  rcases a with ⟨b, off, _ | q⟩
  · simp only [load1K, getK_eq, load1, St.look]
    cases h.get b with
    | none => rfl
    | some o => cases o <;> first | rfl | exact cellK_eq _ _ _ _ _
  · rfl
def loadK (X : Env) (s : St) (t : TypeId) (a : Addr) (k : Value → Bool) : Bool := match X.ty t with
  | some i => Bool.rec (motive := fun _ => Bool) (load1K s a k) (loadNK s a i.size fun l => k (.agg ⟨l⟩)) i.agg
  | none => false
theorem loadK_eq (X s t a k) : loadK X s t a k = optE (loadT X s.look t a) k := by
  unfold loadK loadT
  cases X.ty t with
  | none => rfl
  | some i =>
    simp only
    cases i.agg with
    | false => exact load1K_eq _ _ _
    | true =>
      simp only [loadNK_eq, if_true]
      cases loadN s.look a i.size <;> rfl
def allK (l : List Value) (x y : Bool) : Bool := List.rec (motive := fun _ => Bool) x (fun v _ ih => match v with
  | .agg _ => y
  | .tuple _ => y
  | _ => ih) l
theorem allK_eq (x y) : ∀ l, allK l x y = if l.all one1 = true then x else y
  | [] => rfl
  | v :: l => by
    have := allK_eq x y l
    cases v <;> first | rfl | (simp only [List.all_cons, one1, Bool.true_and]; exact this)
def fObj (o : AObj) (k : AObj → Bool) : Bool := match o with
  | .cells c z n e r ro v => k (.cells c z n e r ro v)
  | .map es c v => k (.map es c v)
  | .miter m a b c v => k (.miter m a b c v)
  | .siter s p v => k (.siter s p v)
  | .loop a b c d e f g v => k (.loop a b c d e f g v)
  | .dead => k .dead
theorem fObj_eq (o k) : fObj o k = k o := by cases o <;> rfl
def putK (s : St) (b : Nat) (o : Nat → AObj) (k : St → Bool) : Bool := match s with
  | ⟨h, nx, c⟩ => fObj (o c) fun o => setK h b o fun h => fNat (Nat.succ c) fun c => k ⟨h, nx, c⟩
theorem putK_eq (s b o k) : putK s b o k = k (s.put b o) := by simp only [putK, fObj_eq, setK_eq, fNat_eq]; rfl
def newK (s : St) (o : Nat → AObj) (k : St → Bool) : Bool := match s with
  | ⟨h, nx, c⟩ => fObj (o c) fun o => setK h nx o fun h => fNat (Nat.add nx 2) fun nx => fNat (Nat.succ c) fun c => k ⟨h, nx, c⟩
theorem newK_eq (s o k) : newK s o k = k (s.new o) := by simp only [newK, fObj_eq, setK_eq, fNat_eq]; rfl
def storeNK (s : St) (a : Addr) (vs : List Value) (k : St → Bool) : Bool := match s, a with
  | ⟨h, nx, cl⟩, ⟨b, off, none⟩ => getK h b fun o => match o with
    | some (.cells c z n e r false _) => lenK vs fun m => Bool.rec (motive := fun _ => Bool) false (allK vs
        (setLK vs c off fun c => setK h b (.cells c z n e r false cl) fun h => fNat (Nat.succ cl) fun cl => k ⟨h, nx, cl⟩) false) (Nat.ble (Nat.add off m) n)
    | _ => false
  | _, _ => false
theorem storeNK_eq (s a vs k) : storeNK s a vs k = optE (storeN s a vs) k := by
  rcases s with ⟨h, nx, cl⟩
  rcases a with ⟨b, off, _ | q⟩
  · simp only [storeNK, getK_eq, storeN]
    cases h.get b with
    | none => rfl
    | some o =>
      cases o with
      | cells c z n e r ro v =>
        cases ro with
        | true => rfl
        | false =>
          simp only [lenK_eq, allK_eq, setLK_eq, setK_eq, fNat_eq]
          cases hb : Nat.ble (Nat.add off vs.length) n with
          | false =>
            have h1 : ¬ (off + vs.length ≤ n ∧ vs.all one1 = true) := fun h => by
              have := Nat.ble_eq_true_of_le h.1
              rw [show Nat.ble (off + vs.length) n = false from hb] at this; cases this
            simp only [if_neg h1]; rfl
          | true =>
            have h1 : off + vs.length ≤ n := Nat.le_of_ble_eq_true hb
            simp only
            by_cases h2 : vs.all one1 = true
            · rw [if_pos h2, if_pos ⟨h1, h2⟩]; rfl
            · rw [if_neg h2, if_neg (fun h => h2 h.2)]; rfl
      | _ => rfl
  · rfl
def storeK (X : Env) (s : St) (t : TypeId) (a : Addr) (v : Value) (k : St → Bool) : Bool := match X.ty t with
  | some i => cellsK v fun l => lenK l fun m => Bool.rec (motive := fun _ => Bool) false (storeNK s a l k) (Nat.beq m i.size)
  | none => false
theorem storeK_eq (X s t a v k) : storeK X s t a v k = optE (storeT X s t a v) k := by
  unfold storeK storeT
  cases X.ty t with
  | none => rfl
  | some i =>
    simp only [cellsK_eq, lenK_eq]
    cases hb : Nat.beq v.cells.toList.length i.size with
    | false =>
      rw [if_neg (fun h => ?_)]
      · rfl
      · have : v.cells.toList.length = i.size := h
        rw [this, Nat.beq_refl] at hb
        cases hb
    | true =>
      have : v.cells.size = i.size := Nat.eq_of_beq_eq_true hb
      rw [if_pos this]; exact storeNK_eq _ _ _ _
end Go.Dust
end
