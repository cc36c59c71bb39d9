/- The plain interpreter D and its laws (Dx Dy). -/
import Derived.Test.YtaoiejcaopgjcaaGreatI
set_option linter.unusedVariables false
set_option linter.unusedSimpArgs false
noncomputable section
namespace Go.Dust
open PT (nC fH zH mE zT nM kX gC)
def EM (n:Nat) (k:Value→Bool) (slow:Bool):Bool:=Bool.rec (motive:=fun _=>Bool) slow (dZ n fun n=>k (.int .i64 (.ofNat n))) (Nat.ble n 9223372036854775807)
def FF (op:BinOp) (a b:Nat) (k:Value→Bool) (slow:Bool):Bool:=match op with
 | .add=>EM (Nat.add a b) k slow
 | .sub=>Bool.rec (motive:=fun _=>Bool) slow (EM (Nat.sub a b) k slow) (Nat.ble b a)
 | .mul=>EM (Nat.mul a b) k slow
 | .quo=>Bool.rec (motive:=fun _=>Bool) (EM (Nat.div a b) k slow) slow (Nat.beq b 0)
 | .rem=>Bool.rec (motive:=fun _=>Bool) (dZ (Nat.mod a b) fun n=>k (.int .i64 (.ofNat n))) slow (Nat.beq b 0)
 | .eql=>JD (Nat.beq a b) fun c=>k (.bool c)
 | .neq=>Bool.rec (motive:=fun _=>Bool) (k (.bool true)) (k (.bool false)) (Nat.beq a b)
 | .lss=>JD (Nat.ble (Nat.succ a) b) fun c=>k (.bool c)
 | .leq=>JD (Nat.ble a b) fun c=>k (.bool c)
 | .gtr=>JD (Nat.ble (Nat.succ b) a) fun c=>k (.bool c)
 | .geq=>JD (Nat.ble b a) fun c=>k (.bool c)
 | _=>slow
theorem YF {n:Nat} (h:n≤9223372036854775807):IntKind.i64.wrap (Int.ofNat n)=Int.ofNat n:=by
 have h0:(Int.ofNat n)%((2:Int) ^ IntKind.i64.bits)=Int.ofNat n:=by
  apply Int.emod_eq_of_lt
  ·exact Int.natCast_nonneg n
  ·show (n:Int)<18446744073709551616
   omega
 unfold IntKind.wrap
 simp only[h0]
 rw[if_neg]
 intro hc
 rw[Bool.and_eq_true,decide_eq_true_eq] at hc
 have:(n:Int)≥9223372036854775808:=hc.2
 omega
theorem yU (n k):EM n k (fF (some (.int .i64 (IntKind.i64.wrap (Int.ofNat n)))) k)=fF (some (.int .i64 (IntKind.i64.wrap (Int.ofNat n)))) k:=by
 unfold EM
 cases hb:Nat.ble n 9223372036854775807 with
 | false=>rfl
 | true =>
  simp only[dD]
  rw[YF (Nat.le_of_ble_eq_true hb)]
  rfl
theorem HF (a b:Nat):Nat.ble a b=decide ((a:Int)≤(b:Int)):=by
 cases h:Nat.ble a b with
 | true=>have:=Nat.le_of_ble_eq_true h;simp[this]
 | false =>
  have:¬ a≤b:=fun h'=>by rw[Nat.ble_eq_true_of_le h'] at h;cases h
  simp[this]
theorem dr (a b:Nat):Nat.beq a b=(Int.ofNat a==Int.ofNat b):=by
 cases h:Nat.beq a b with
 | true=>have:=Nat.eq_of_beq_eq_true h;simp[this]
 | false=>have:=Nat.ne_of_beq_eq_false h;simp;omega
theorem uj (op a b k):FF op a b k (fF (arith op .i64 (.ofNat a) (.ofNat b)) k)=fF (arith op .i64 (.ofNat a) (.ofNat b)) k:=by
 cases op with
 | add=>exact yU _ _
 | sub =>
  show (Bool.rec (motive:=fun _=>Bool) _ _ (Nat.ble b a))=_
  cases hb:Nat.ble b a with
  | false=>rfl
  | true =>
   have:=Nat.le_of_ble_eq_true hb
   have h:arith .sub .i64 (.ofNat a) (.ofNat b)=some (.int .i64 (IntKind.i64.wrap (Int.ofNat (a-b)))):=by
    show some (Value.int .i64 (IntKind.i64.wrap ((a:Int)-(b:Int))))=_
    rw[← Int.ofNat_sub this];rfl
   rw[h];exact yU _ _
 | mul=>exact yU _ _
 | quo =>
  show (Bool.rec (motive:=fun _=>Bool) _ _ (Nat.beq b 0))=_
  cases hb:Nat.beq b 0 with
  | true=>rfl
  | false =>
   have h0:=Nat.ne_of_beq_eq_false hb
   have h:arith .quo .i64 (.ofNat a) (.ofNat b)=some (.int .i64 (IntKind.i64.wrap (Int.ofNat (a/b)))):=by
    show (if (b:Int)=0 then none else some (Value.int .i64 (IntKind.i64.wrap ((a:Int).tdiv (b:Int)))))=_
    rw[if_neg (by omega)];rfl
   rw[h];exact yU _ _
 | rem =>
  show (Bool.rec (motive:=fun _=>Bool) _ _ (Nat.beq b 0))=_
  cases hb:Nat.beq b 0 with
  | true=>rfl
  | false =>
   have h0:=Nat.ne_of_beq_eq_false hb
   have h:arith .rem .i64 (.ofNat a) (.ofNat b)=some (.int .i64 (Int.ofNat (a%b))):=by
    show (if (b:Int)=0 then none else some (Value.int .i64 ((a:Int).tmod (b:Int))))=_
    rw[if_neg (by omega)];rfl
   rw[h];exact dD _ _
 | eql =>
  simp only[FF,tE,dr];rfl
 | neq =>
  simp only[FF,dr]
  show _=k (.bool (Int.ofNat a != Int.ofNat b))
  unfold bne
  cases (Int.ofNat a==Int.ofNat b) <;> rfl
 | lss =>
  simp only[FF,tE,HF]
  show _=k (.bool (decide ((a:Int)<b)))
  congr 2
 | leq=>simp only[FF,tE,HF];rfl
 | gtr =>
  simp only[FF,tE,HF]
  show _=k (.bool (decide ((a:Int)>b)))
  congr 2
 | geq =>
  simp only[FF,tE,HF]
  show _=k (.bool (decide ((a:Int)≥b)))
  rfl
 | _=>rfl
def binK (X:Env) (H:aY) (op:BinOp) (t:TypeId) (x y:Value) (k:Value→Bool):Bool:=match x,y with
 | .int .i64 (.ofNat a),.int .i64 (.ofNat b)=>match op with
  | .shl=>qL (binop X H .shl t x y) k
  | .shr=>qL (binop X H .shr t x y) k
  | op=>FF op a b k (qL (binop X H op t x y) k)
 | _,_=>qL (binop X H op t x y) k
theorem binK_eq (X H op t x y k):binK X H op t x y k=fF (binop X H op t x y) k:=by
 unfold binK
 split
 ·rename_i a b
  cases op <;> simp only[eW] <;> exact uj _ a b k
 ·exact eW _ _
def AB (X:Env) (st:TypeId) (x:Value) (f:Nat) (k:Value→Bool):Bool:=match x with
 | .pointer (some ⟨b,off,none⟩)=>match X.ty st with
  | some i=>match i.desc with
   | .struct fields=>WI fields.toList f fun fd=>match fd with
    | some fd=>match X.ty fd.type with
     | some ti=>Bool.rec (motive:=fun _=>Bool) (dZ (Nat.add off fd.offset) fun o=>k (.pointer (some ⟨b,o,none⟩))) false (Nat.beq ti.size 0)
     | none=>false
    | none=>false
   | _=>false
  | none=>false
 | _=>false
theorem aJ (b off m:Nat):(⟨b,off,none⟩:Addr).add m=⟨b,off+m,none⟩:=by
 unfold Addr.add
 split
 ·rename_i h;subst h;rfl
 ·rfl
theorem MS (X st x f k):AB X st x f k=fF (aO X st x f) k:=by
 unfold AB aO
 cases hX:X.ty st with
 | none =>
  split
  ·rfl
  ·rfl
 | some i =>
  rcases i with ⟨desc,size,bytes,zero,agg,methods,cmp⟩
  cases x with
  | pointer a =>
   cases a with
   | none=>cases desc <;> rfl
   | some a =>
    rcases a with ⟨b,off,_ | q⟩
    ·cases desc with
     | struct fields =>
      simp only[CL,Array.getElem?_toList]
      cases fields[f]? with
      | none=>rfl
      | some fd =>
       simp only
       cases X.ty fd.type with
       | none=>rfl
       | some ti =>
        simp only
        cases hb:Nat.beq ti.size 0 with
        | true=>rw[if_pos (Nat.eq_of_beq_eq_true hb)];rfl
        | false=>rw[if_neg (Nat.ne_of_beq_eq_false hb),aJ];simp only[dD];rfl
     | _=>rfl
    ·cases desc with
     | struct fields=>simp only;cases fields[f]? <;> rfl
     | _=>rfl
  | _=>cases desc <;> rfl
def AH (X:Env) (t:TypeId) (x i:Value) (k:Value→Bool):Bool:=match x,i with
 | .slice (some ⟨b,off,none⟩) len cap,.int j (.ofNat n)=>match X.ty t with
  | some it=>match it.desc with
   | .slice e=>match X.ty e with
    | some ei=>Bool.rec (motive:=fun _=>Bool) false (dZ (Nat.add off (Nat.mul n ei.size)) fun o=>k (.pointer (some ⟨b,o,none⟩))) (Nat.ble (Nat.succ n) len)
    | none=>false
   | .array _ _=>qL (bQ X t (.slice (some ⟨b,off,none⟩) len cap) (.int j (.ofNat n))) k
   | _=>false
  | none=>false
 | x,i=>qL (bQ X t x i) k
theorem MT (X t x i k):AH X t x i k=fF (bQ X t x i) k:=by
 unfold AH
 split
 ·rename_i b off len cap j n
  unfold bQ
  cases hX:X.ty t with
  | none=>rfl
  | some it =>
   rcases it with ⟨desc,size,bytes,zero,agg,methods,cmp⟩
   cases desc with
   | slice e =>
    simp only
    cases X.ty e with
    | none=>rfl
    | some ei =>
     simp only
     cases hb:Nat.ble (Nat.succ n) len with
     | false =>
      rw[if_neg]
      ·rfl
      ·intro h
       have:=Nat.ble_eq_true_of_le (Int.ofNat_lt.1 h.2)
       rw[hb] at this;cases this
     | true =>
      have:=Nat.le_of_ble_eq_true hb
      rw[if_pos ⟨Int.natCast_nonneg n,Int.ofNat_lt.2 this⟩,show (Int.ofNat n).toNat=n from rfl,aJ]
      simp only[dD];rfl
   | array l e=>simp only[eW]
   | _=>rfl
 ·exact eW _ _
def loK (lo:Option Value) (k:Nat→Bool) (slow:Bool):Bool:=match lo with
 | none=>k Nat.zero
 | some (.int _ (.ofNat l))=>k l
 | _=>slow
def hiK (hi:Option Value) (len:Nat) (k:Nat→Bool) (slow:Bool):Bool:=match hi with
 | none=>k len
 | some (.int _ (.ofNat h))=>k h
 | _=>slow
theorem loK_eq {lo:Option Value} {k:Nat→Bool} {slow r:Bool} (hs:slow=r) (hk:∀ l x,gO lo=some x→(x=none∧l=0∨x=some (Int.ofNat l))→k l=r):loK lo k slow=r:=by
 unfold loK
 split
 ·exact hk 0 none rfl (.inl ⟨rfl,rfl⟩)
 ·exact hk _ (some _) rfl (.inr rfl)
 ·exact hs
theorem hiK_eq {hi:Option Value} {len:Nat} {k:Nat→Bool} {slow r:Bool} (hs:slow=r) (hk:∀ h x,gO hi=some x→(x=none∧h=len∨x=some (Int.ofNat h))→k h=r):hiK hi len k slow=r:=by
 unfold hiK
 split
 ·exact hk len none rfl (.inl ⟨rfl,rfl⟩)
 ·exact hk _ (some _) rfl (.inr rfl)
 ·exact hs
theorem TZ {len cap l h:Nat} {lo hi:Option Int} (hlo:lo=none∧l=0∨lo=some (Int.ofNat l)) (hhi:hi=none∧h=len∨hi=some (Int.ofNat h)) (h1:l≤h) (h2:h≤cap):iD len cap lo hi=some (l,h):=by
 have a1:(0:Int)≤Int.ofNat l∧Int.ofNat l≤(h:Int):=⟨Int.natCast_nonneg l,Int.ofNat_le.2 h1⟩
 have a2:(0:Int)≤Int.ofNat h∧Int.ofNat h≤(cap:Int):=⟨Int.natCast_nonneg h,Int.ofNat_le.2 h2⟩
 rcases hlo with ⟨rfl,rfl⟩ | rfl <;> rcases hhi with ⟨rfl,rfl⟩ | rfl
 ·rfl
 ·simp only[iD,if_pos a2];rfl
 ·simp only[iD,if_pos a1];rfl
 ·simp only[iD,if_pos a2,show (Int.ofNat h).toNat=h from rfl,if_pos a1];rfl
def cd (X:Env) (o:Option bX) (t:TypeId) (b off len cap:Nat) (lo hi:Option Value) (k:Value→Bool) (slow:Bool):Bool:=match X.ty t with
 | some i=>match i.desc with
  | .slice e=>match X.ty e,o with
   | some ei,some (.cells ..)=>hiK hi len (fun h=>loK lo (fun l=>Bool.rec (motive:=fun _=>Bool) slow (Bool.rec (motive:=fun _=>Bool) slow (Bool.rec (motive:=fun _=>Bool)
     (dZ (Nat.add off (Nat.mul l ei.size)) fun o=>dZ (Nat.sub h l) fun n=>dZ (Nat.sub cap l) fun m=>k (.slice (some ⟨b,o,none⟩) n m)) slow (Nat.beq cap l)) (Nat.ble h cap)) (Nat.ble l h)) slow) slow
   | _,_=>slow
  | _=>slow
 | none=>slow
theorem qo {X:Env} {o:Option bX} {t:TypeId} {b off len cap:Nat} {lo hi:Option Value} {k:Value→Bool} {slow:Bool}
  (hs:slow=fF (dE X (fun _=>o) t (.slice (some ⟨b,off,none⟩) len cap) lo hi none) k) :
  cd X o t b off len cap lo hi k slow=fF (dE X (fun _=>o) t (.slice (some ⟨b,off,none⟩) len cap) lo hi none) k:=by
 unfold cd
 split
 ·rename_i i hi'
  split
  ·rename_i e hd
   split
   ·rename_i ei c z n el room ro dF he
    refine hiK_eq hs fun h xh eh rh=>loK_eq hs fun l xl el rl=>?_
    cases h1:Nat.ble l h with
    | false=>exact hs
    | true =>
     cases h2:Nat.ble h cap with
     | false=>exact hs
     | true =>
      cases h3:Nat.beq cap l with
      | true=>exact hs
      | false =>
       have g1:=Nat.le_of_ble_eq_true h1
       have g2:=Nat.le_of_ble_eq_true h2
       have g3:=Nat.ne_of_beq_eq_false h3
       simp only[dD]
       rcases i with ⟨desc,size,bytes,zero,agg,methods,cmp⟩
       simp only at hd
       subst hd
       unfold dE
       simp only[hi',eh,el,TZ rl rh g1 g2,he,if_pos (show l≤h∧h≤cap from⟨g1,g2⟩),if_neg g3,aJ]
       rfl
   ·exact hs
  ·exact hs
 ·exact hs
def SS (X:Env) (s:St) (t:TypeId) (x:Value) (lo hi mx:Option Value) (k:Value→Bool):Bool:=match x with
 | .slice (some a) l c=>match s with
  | ⟨h,_,_⟩=>nC h a.block fun o=>match o with
   | none=>false
   | some o=>match a,mx with
    | ⟨b,off,none⟩,none=>cd X (some o) t b off l c lo hi k (qL (dE X (fun _=>some o) t (.slice (some ⟨b,off,none⟩) l c) lo hi none) k)
    | a,mx=>qL (dE X (fun _=>some o) t (.slice (some a) l c) lo hi mx) k
 | .pointer (some a)=>match s with
  | ⟨h,_,_⟩=>nC h a.block fun o=>qL (dE X (fun _=>o) t (.pointer (some a)) lo hi mx) k
 | x=>qL (dE X (fun _=>none) t x lo hi mx) k
theorem qm (X:Env) (H:aY) (t a l c lo hi mx):dE X (fun _=>H a.block) t (.slice (some a) l c) lo hi mx=dE X H t (.slice (some a) l c) lo hi mx:=by
 unfold dE
 cases mx with
 | some _=>rfl
 | none =>
  simp only
  cases X.ty t with
  | none=>rfl
  | some i =>
   rcases i with ⟨desc,size,bytes,zero,agg,methods,cmp⟩
   cases gO lo <;> cases gO hi <;> first | rfl | (cases desc <;> rfl)
theorem bz (X:Env) (H:aY) (t a lo hi mx):dE X (fun _=>H a.block) t (.pointer (some a)) lo hi mx=dE X H t (.pointer (some a)) lo hi mx:=by
 unfold dE
 cases mx with
 | some _=>rfl
 | none =>
  simp only
  cases X.ty t with
  | none=>rfl
  | some i =>
   rcases i with ⟨desc,size,bytes,zero,agg,methods,cmp⟩
   cases gO lo <;> cases gO hi <;> first | rfl | (cases desc <;> rfl)
theorem wV (X:Env) (H:aY) (t x lo hi mx) (h1:∀ a l c,x≠.slice (some a) l c) (h2:∀ a,x≠.pointer (some a)):dE X (fun _=>none) t x lo hi mx=dE X H t x lo hi mx:=by
 unfold dE
 cases mx with
 | some _=>rfl
 | none =>
  simp only
  cases X.ty t with
  | none=>rfl
  | some i =>
   rcases i with ⟨desc,size,bytes,zero,agg,methods,cmp⟩
   cases gO lo <;> cases gO hi <;> first | rfl | skip
   cases x with
   | slice a l c=>cases a with
    | none=>cases desc <;> first | rfl | (cases l <;> cases c <;> rfl)
    | some a=>exact absurd rfl (h1 a l c)
   | pointer a=>cases a with
    | none=>cases desc <;> rfl
    | some a=>exact absurd rfl (h2 a)
   | _=>cases desc <;> rfl
theorem XS (X:Env) (t a l c lo hi mx):dE X (fun _=>none) t (.slice (some a) l c) lo hi mx=none:=by
 unfold dE
 cases mx with
 | some _=>rfl
 | none =>
  simp only
  cases X.ty t with
  | none=>rfl
  | some i =>
   rcases i with ⟨desc,size,bytes,zero,agg,methods,cmp⟩
   cases gO lo with
   | none=>rfl
   | some lo=>cases gO hi with
    | none=>rfl
    | some hi =>
     cases desc with
     | slice e =>
      simp only
      cases a.spot with
      | none=>simp only;cases iD l c lo hi <;> cases X.ty e <;> rfl
      | some _=>rfl
     | _=>rfl
theorem qp (X s t x lo hi mx k):SS X s t x lo hi mx k=fF (dE X s.look t x lo hi mx) k:=by
 cases x with
 | slice a l c=>cases a with
  | none=>exact(eW _ _).trans (by rw[wV X s.look] <;> intros <;> simp)
  | some a =>
   rw[← qm X s.look]
   rcases s with ⟨h,nx,cl⟩
   show _=fF (dE X (fun _=>h.get a.block) t (.slice (some a) l c) lo hi mx) k
   simp only[SS,fH]
   cases h.get a.block with
   | none=>rw[XS];rfl
   | some o =>
    rcases a with ⟨b,off,_ | q⟩
    ·cases mx with
     | none=>exact qo (eW _ _)
     | some m=>exact eW _ _
    ·exact eW _ _
 | pointer a=>cases a with
  | none=>exact(eW _ _).trans (by rw[wV X s.look] <;> intros <;> simp)
  | some a =>
   rw[← bz X s.look]
   rcases s with ⟨h,nx,cl⟩
   simp only[SS,fH,eW];rfl
 | _=>exact(eW _ _).trans (by rw[wV X s.look] <;> intros <;> simp)
def vz (X:Env) (s:St) (t:TypeId) (v:Value) (k:Value→Bool):Bool:=match v with
 | .slice a n c=>match X.ty t with
  | some i=>match i.desc with
   | .slice _=>k (.int .i64 (.ofNat n))
   | _=>qL (fA X s.look t (.slice a n c)) k
  | none=>false
 | v=>qL (fA X s.look t v) k
theorem wg (X s t v k):vz X s t v k=fF (fA X s.look t v) k:=by
 cases v with
 | slice a n c =>
  simp only[vz,eW,fA]
  cases X.ty t with
  | none=>rfl
  | some i =>
   rcases i with ⟨desc,size,bytes,zero,agg,methods,cmp⟩
   cases desc <;> rfl
 | _=>exact eW _ _
def iI (X:Env) (s:St) (a:bD) (op:Op) (k:Value→Bool):Bool:=match op with
 | .move x=>dG a x k
 | .assign x=>dG a x k
 | .pick c x y=>dG a c fun v=>match v with
  | .bool t=>Bool.rec (motive:=fun _=>Bool) (dG a y k) (dG a x k) t
  | _=>false
 | .build t parts=>SJ a parts.toList fun ps=>qL (fJ X t ps) k
 | .load t x=>dG a x fun v=>match v with
  | .pointer (some ad)=>VZ X s t ad k
  | _=>false
 | .nilCheck x=>dG a x fun v=>fF (mT v) k
 | .binOp op t x y _=>dG a x fun v=>dG a y fun w=>Bool.rec (motive:=fun _=>Bool) (binK X s.look op t v w k) false (kB v w&&!(dY x||dY y))
 | .unOp op _ x=>dG a x fun v=>qL (unop op v) k
 | .convert c d x=>dG a x fun v=>qL (iM X c d v) k
 | .makeInterface t x=>dG a x fun v=>match X.ty t with
  | some i=>match i.desc with
   | .interface _=>false
   | _=>k (.iface t v)
  | none=>false
 | .makeFunc fn first captured=>pO a first.toList fun u=>pO a captured.toList fun w=>match fn with
  | .func f=>k (.func (.func f) ⟨u⟩ ⟨w⟩)
  | .method m=>k (.func (.method m) ⟨u⟩ ⟨w⟩)
  | _=>false
 | .slice t x lo hi mx=>dG a x fun v=>DJ a lo fun lo=>DJ a hi fun hi=>DJ a mx fun mx=>SS X s t v lo hi mx k
 | .fieldAddr c x f=>dG a x fun v=>AB X c v f k
 | .field t x f=>dG a x fun v=>qL (wD X t v f) k
 | .indexAddr t x i=>dG a x fun v=>dG a i fun w=>AH X t v w k
 | .index t x i=>dG a x fun v=>dG a i fun w=>qL (uH X t v w) k
 | .lookup t x y ok=>dG a x fun v=>dG a y fun w=>qL (kW X s.look t v w ok) k
 | .extract t i=>dG a t fun v=>match v with
  | .tuple ⟨vs⟩=>WI vs i fun v=>fF v k
  | _=>false
 | .entry it=>dG a it fun v=>qL (nZ s.look v) k
 | .typeAssert x _ t ok=>dG a x fun v=>qL (jF X v t ok) k
 | .call c=>match c.callee with
  | .builtin .len=>match c.argTypes[0]?,c.args[0]? with
   | some t,some x=>dG a x fun v=>vz X s t v k
   | _,_=>false
  | .builtin .min=>pO a c.args.toList fun l=>qL (match l with
   | v::rest=>eT (fun x y=>decide (y<x)) v rest
   | _=>none) k
  | .builtin .max=>pO a c.args.toList fun l=>qL (match l with
   | v::rest=>eT (fun x y=>decide (y>x)) v rest
   | _=>none) k
  | _=>false
 | _=>false
theorem map_mk (l:Array Operand) (f:Operand→Value):l.map f=⟨l.toList.map f⟩:=by
 apply Array.toList_inj.1;simp
theorem PE (X s a op k):iI X s a op k=fF (bS X s.look a.eval op) k:=by
 cases op with
 | move x=>exact bY _ _ _
 | assign x=>exact bY _ _ _
 | pick c x y =>
  simp only[iI,bY,bS]
  cases a.eval c with
  | bool t=>cases t <;> rfl
  | _=>rfl
 | build t parts=>simp only[iI,ED,eW,bS]
 | load t x =>
  simp only[iI,bY,bS]
  cases a.eval x with
  | pointer ad=>cases ad with
   | none=>rfl
   | some ad=>exact WA _ _ _ _ _
  | _=>rfl
 | nilCheck x=>simp only[iI,bY,bS]
 | binOp op t x y y' =>
  simp only[iI,bY,bS,binK_eq]
  cases (kB (a.eval x) (a.eval y)&&!(dY x||dY y)) <;> rfl
 | unOp op t x=>simp only[iI,bY,bS,eW]
 | convert c d x=>simp only[iI,bY,bS,eW]
 | makeInterface t x =>
  simp only[iI,bY,bS]
  cases X.ty t with
  | none=>rfl
  | some i =>
   rcases i with ⟨desc,size,bytes,zero,agg,methods,cmp⟩
   cases desc <;> rfl
 | makeFunc fn first captured =>
  simp only[iI,oA,bS,map_mk]
  cases fn <;> rfl
 | slice t x lo hi mx=>simp only[iI,bY,NT,bS,qp]
 | fieldAddr c x f=>simp only[iI,bY,bS,MS]
 | field t x f=>simp only[iI,bY,bS,eW]
 | indexAddr t x i=>simp only[iI,bY,bS,MT]
 | index t x i=>simp only[iI,bY,bS,eW]
 | lookup t x y ok=>simp only[iI,bY,bS,eW]
 | extract t i =>
  simp only[iI,bY,bS]
  cases a.eval t with
  | tuple vs=>rcases vs with ⟨vs⟩;simp only[CL,List.getElem?_toArray]
  | _=>rfl
 | entry it=>simp only[iI,bY,bS,eW]
 | typeAssert x t t' ok=>simp only[iI,bY,bS,eW]
 | call c =>
  simp only[iI,bS]
  cases c.callee with
  | value f=>rfl
  | invoke r m=>rfl
  | builtin b =>
   cases b with
   | len =>
    simp only
    cases c.argTypes[0]? <;> cases c.args[0]? <;> first | rfl | simp only[bY,wg]
   | min =>
    simp only[oA,eW]
    cases c.args.toList.map a.eval <;> rfl
   | max =>
    simp only[oA,eW]
    cases c.args.toList.map a.eval <;> rfl
   | _=>rfl
 | _=>rfl
end Go.Dust
end
noncomputable section
namespace Go.Dust
open PT (nC fH zH mE zT nM kX gC)
def vT (X:Env) (nm cM:Nat) (a:bD) (op:Op) (k:Value→bX→Bool):Bool:=match op with
 | .alloc e=>match X.ty e with
  | some i=>match i.zero with
   | some z=>IP z fun l=>kX l fun c=>VW l fun n=>k (.pointer (some ⟨nm,0,none⟩)) (.cells c [] n e false false cM)
   | none=>false
  | none=>false
 | .box e x=>dG a x fun v=>IP v fun l=>kX l fun c=>VW l fun n=>k (.pointer (some ⟨nm,0,none⟩)) (.cells c [] n e false false cM)
 | .buildSlice t len parts=>match X.ty t with
  | some i=>match i.desc with
   | .slice e=>match X.ty e with
    | some ei=>match ei.zero with
     | some z=>SJ a parts.toList fun ps =>
      if len*ei.size≤2 ^ 24 then
       match Instr.fill (fun i=>some (i*ei.size,ei.size)) ((Array.range (len*ei.size)).map (z.cells[·%z.cells.size]!)) ps with
       | some ⟨cs⟩=>fL cs fun cs=>kX cs fun c=>VW cs fun n=>k (.slice (some ⟨nm,0,none⟩) len len) (.cells c [] n e false false cM)
       | none=>false
      else false
     | none=>false
    | none=>false
   | _=>false
  | none=>false
 | .makeMap t r=>DJ a r fun r=>match X.ty t with
  | some i=>match i.desc,r with
   | .map _ _,none=>k (.map (some nm)) (.map [] 0 cM)
   | .map _ _,some (.int _ _)=>k (.map (some nm)) (.map [] 0 cM)
   | _,_=>false
  | none=>false
 | .makeSlice t len cap=>dG a len fun len=>dG a cap fun cap=>match X.ty t with
  | some i=>match i.desc,len,cap with
   | .slice e,.int .i64 l,.int .i64 c=>match X.ty e with
    | some ei=>match ei.zero with
     | some z=>if 0≤l∧l≤c∧c<2 ^ 40∧ei.bytes*c≤2 ^ 48∧z.cells.size=ei.size then
       IP z fun zs=>dZ l.toNat fun l=>dZ c.toNat fun c=>dZ (c*ei.size) fun n=>k (.slice (some ⟨nm,0,none⟩) l c) (.cells .nil zs n e false false cM)
      else false
     | none=>false
    | none=>false
   | _,_,_=>false
  | none=>false
 | _=>false
theorem NI (X nm cM a op k):vT X nm cM a op k=fF (cS X nm a.eval op) fun p=>k p.1 (p.2 cM):=by
  cases op with
  | alloc e =>
    simp only[vT,cS]
    cases X.ty e with
    | none=>rfl
    | some i =>
      rcases i with ⟨desc,size,bytes,_ | z,agg,methods,cmp⟩
      · rfl
      · simp only[xK,gC,uK];rfl
  | box e x=>simp only[vT,cS,bY,xK,gC,uK];rfl
  | buildSlice t len parts =>
    simp only[vT,cS]
    cases X.ty t with
    | none=>rfl
    | some i =>
      rcases i with ⟨desc,size,bytes,zero,agg,methods,cmp⟩
      cases desc with
      | slice e =>
        simp only
        cases X.ty e with
        | none=>rfl
        | some ei =>
          rcases ei with ⟨desc,esz,bytes,_ | z,agg,methods,cmp⟩
          · rfl
          · simp only[ED]
            by_cases h:len*esz≤2 ^ 24
            · simp only[if_pos h]
              cases Instr.fill (fun i=>some (i*esz,esz)) ((Array.range (len*esz)).map (z.cells[·%z.cells.size]!)) (parts.toList.map fun(i,x)=>(i,a.eval x)) with
              | none=>rfl
              | some cs=>rcases cs with ⟨cs⟩;simp only[fm,gC,uK];rfl
            · simp only[if_neg h];rfl
      | _=>rfl
  | makeMap t r =>
    simp only[vT,cS,NT]
    cases X.ty t with
    | none=>rfl
    | some i =>
      rcases i with ⟨desc,size,bytes,zero,agg,methods,cmp⟩
      cases desc <;> (cases r.map a.eval with
        | none=>rfl
        | some v=>cases v <;> rfl)
  | makeSlice t len cap =>
    simp only[vT,cS,bY]
    cases X.ty t with
    | none=>rfl
    | some i =>
      rcases i with ⟨desc,size,bytes,zero,agg,methods,cmp⟩
      cases desc with
      | slice e =>
        cases a.eval len with
        | int j l=>cases j with
          | i64=>cases a.eval cap with
            | int j c=>cases j with
              | i64 =>
                simp only
                cases X.ty e with
                | none=>rfl
                | some ei =>
                  rcases ei with ⟨desc,esz,bytes,_ | z,agg,methods,cmp⟩
                  · rfl
                  · simp only[xK,dD]
                    split <;> rfl
              | _=>rfl
            | _=>rfl
          | _=>rfl
        | _=>rfl
      | _=>rfl
  | _=>rfl
def ZF (s:St) (size n:Nat) (x:Value) (k:List Value→Bool):Bool:=match x with
 | .slice (some a) _ _=>dZ (Nat.mul n size) fun m=>Bool.rec (motive:=fun _=>Bool) (RJ s a m k) (k []) (Nat.beq m 0)
 | .slice none _ _=>k []
 | .string s=>fL ((s.extract 0 n).data.toList.map fun b=>.int .u8 b.toNat) k
 | _=>false
theorem ml (s size n x k):ZF s size n x k=fF (iS s.look size n x) k:=by
 cases x with
 | slice a l c=>cases a with
  | none=>rfl
  | some a =>
   simp only[ZF,dD,iS]
   cases hb:Nat.beq (Nat.mul n size) 0 with
   | true=>rw[if_pos (show n*size=0 from Nat.eq_of_beq_eq_true hb)];rfl
   | false=>rw[if_neg (show ¬ n*size=0 from Nat.ne_of_beq_eq_false hb)];exact OJ _ _ _ _
 | string b=>exact fm _ _
 | _=>rfl
def ZI (c:PT Value) (z:List Value) (m:Nat) (a:Addr) (n:Nat) (new:List Value) (k:PT Value→List Value→Bool):Bool :=
 Bool.rec (motive:=fun _=>Bool) (match a with
  | ⟨_,off,none⟩=>Bool.rec (motive:=fun _=>Bool) (iz c z m n off fun mC=>GS mC new fun l=>kX l fun c=>k c [])
   (Bool.rec (motive:=fun _=>Bool) false (zT new c n fun c=>k c z) (Nat.ble n m)) (Nat.beq off 0)
  | _=>false) (kX new fun c=>k c []) (Nat.beq n 0)
theorem mv (c z m a n new k):ZI c z m a n new k=fF (jK c z m a n new) fun p=>k p.1 p.2:=by
 unfold ZI jK
 cases hb:Nat.beq n 0 with
 | true=>rw[if_pos (Nat.eq_of_beq_eq_true hb)];exact gC _ _
 | false =>
  rw[if_neg (Nat.ne_of_beq_eq_false hb)]
  rcases a with ⟨b,off,_ | q⟩
  ·simp only
   cases ho:Nat.beq off 0 with
   | true =>
    rw[if_pos (Nat.eq_of_beq_eq_true ho)]
    cases hm:Nat.ble n m with
    | true=>rw[if_pos (Nat.le_of_ble_eq_true hm)];exact nM _ _ _ _
    | false =>
     rw[if_neg]
     ·rfl
     ·intro h;rw[Nat.ble_eq_true_of_le h] at hm;cases hm
   | false =>
    rw[if_neg (Nat.ne_of_beq_eq_false ho)]
    simp only[KW,tU,gC]
    cases dJ c z m off n <;> rfl
  ·rfl
def IB (s:St) (e:TypeId) (esz:Nat) (base:Option Addr) (sLen sCap n:Nat) (new:List Value) (k:Value→St→Bool):Bool :=
 dZ (Nat.add sLen n) fun t=>Bool.rec (motive:=fun _=>Bool)
  (match base with
   | none=>Bool.rec (motive:=fun _=>Bool) false
    (kX new fun c=>dZ (Nat.mul t esz) fun m=>match s with
     | ⟨h,nx,cl⟩=>au ⟨h,nx,cl⟩ (fun v=>.cells c [] m e true false v) fun s=>k (.slice (some ⟨nx,0,none⟩) t t) s) (Nat.beq sLen 0)
   | some a=>match s with
    | ⟨h,nx,cl⟩=>nC h a.block fun o=>match o with
     | some (.cells c z m e0 room false _)=>if e0=e∧inBlock a sLen sCap esz m=true then
       dZ (Nat.mul sLen esz) fun q=>ZI c z m a q new fun c' z'=>dZ (Nat.mul t esz) fun m' =>
        Bool.rec (motive:=fun _=>Bool) (au ⟨h,nx,cl⟩ (fun v=>.cells c' z' m' e true false v) fun s=>k (.slice (some ⟨nx,0,none⟩) t t) s)
         (KU ⟨h,nx,cl⟩ a.block (fun _=>.dead) fun s=>au s (fun v=>.cells c' z' m' e true false v) fun s=>k (.slice (some ⟨nx,0,none⟩) t t) s) room
      else false
     | _=>false)
  (match base with
   | some a=>match new with
    | []=>k (.slice base t sCap) s
    | new=>fl (a.add (Nat.mul sLen esz)) fun a=>HQ s a new fun s=>k (.slice base t sCap) s
   | none=>Bool.rec (motive:=fun _=>Bool) false (k (.slice base t sCap) s) (Nat.beq n 0))
  (Nat.ble t sCap)
theorem TL (s e esz base sLen sCap n new k):IB s e esz base sLen sCap n new k=fF (jI s e esz base sLen sCap n new) fun p=>k p.1 p.2:=by
 unfold IB jI
 simp only[dD]
 cases hb:Nat.ble (Nat.add sLen n) sCap with
 | true =>
  rw[if_pos (show sLen+n≤sCap from Nat.le_of_ble_eq_true hb)]
  cases base with
  | none =>
   simp only
   cases hn:Nat.beq n 0 with
   | true=>rw[if_pos (Nat.eq_of_beq_eq_true hn)];rfl
   | false=>rw[if_neg (Nat.ne_of_beq_eq_false hn)];rfl
  | some a =>
   cases new with
   | nil=>rfl
   | cons x l =>
    simp only[UU,LR]
    rw[if_neg (by simp)]
    show fF (bJ s (a.add (sLen*esz)) (x::l)) _=_
    cases bJ s (a.add (sLen*esz)) (x::l) <;> rfl
 | false =>
  rw[if_neg (show ¬ sLen+n≤sCap from fun h=>by rw[show Nat.ble (Nat.add sLen n) sCap=true from Nat.ble_eq_true_of_le h] at hb;cases hb)]
  rcases s with ⟨h,nx,cl⟩
  cases base with
  | none =>
   simp only
   cases hn:Nat.beq sLen 0 with
   | true=>rw[if_pos (Nat.eq_of_beq_eq_true hn)];simp only[gC,CI];rfl
   | false=>rw[if_neg (Nat.ne_of_beq_eq_false hn)];rfl
  | some a =>
   simp only[fH]
   cases h.get a.block with
   | none=>rfl
   | some o =>
    cases o with
    | cells c z m e0 room ro v =>
     cases ro with
     | true=>rfl
     | false =>
      simp only
      by_cases hc:e0=e∧inBlock a sLen sCap esz m=true
      ·rw[if_pos hc,if_pos hc]
       simp only[mv]
       show fF (jK c z m a (sLen*esz) new) _=_
       cases jK c z m a (sLen*esz) new with
       | none=>rfl
       | some p =>
        rcases p with ⟨c',z'⟩
        simp only[fF]
        cases room with
        | true=>simp only[CU,CI];rfl
        | false=>simp only[CI];rfl
      ·rw[if_neg hc,if_neg hc];rfl
    | _=>rfl
def QC (X:Env) (s:St) (argTypes:Array TypeId) (args:List Value) (k:Value→St→Bool):Bool :=
 match argTypes.toList,args with
 | [t,t2],[.slice base sLen sCap,x]=>match X.ty t with
  | some i=>match i.desc,X.ty t2 with
   | .slice e,some i2=>match X.ty e with
    | some ei=>match ei.zero,JS x with
     | some z,some n=>ZF s ei.size n x fun new =>
      if new.length=n*ei.size∧uY i2.desc=true∧z.cells.size=ei.size∧sLen+n<2 ^ 40∧(2*(sLen+n)+1000)*ei.bytes≤2 ^ 47∧new.all kZ=true then
       IB s e ei.size base sLen sCap n new k
      else false
     | _,_=>false
    | none=>false
   | _,_=>false
  | none=>false
 | _,_=>false
theorem YI (X s ts args k):QC X s ts args k=fF (iC X s ts args) fun p=>k p.1 p.2:=by
 unfold QC iC
 split
 ·rename_i _ _ t t2 base sLen sCap x hts
  simp only[hts]
  cases X.ty t with
  | none=>rfl
  | some i =>
   rcases i with ⟨desc,size,bytes,zero,agg,methods,cmp⟩
   cases X.ty t2 with
   | none=>cases desc <;> rfl
   | some i2 =>
    cases desc with
    | slice e =>
     simp only
     cases X.ty e with
     | none=>rfl
     | some ei =>
      rcases ei with ⟨desc,esz,bytes,_ | z,agg,methods,cmp⟩
      ·rfl
      ·cases JS x with
       | none=>rfl
       | some n =>
        simp only[ml]
        cases iS s.look esz n x with
        | none=>rfl
        | some new =>
         simp only[fF]
         split
         ·exact TL _ _ _ _ _ _ _ _ _
         ·rfl
    | _=>rfl
 ·rename_i hno
  split
  ·rename_i _ _ t t2 base sLen sCap x hts
   exact absurd rfl (hno t t2 base sLen sCap x hts)
  ·rfl
abbrev AV:=FuncId→List Value→St→(Value→St→Bool)→Bool
abbrev vS:=Nat→List Value→St→(Value→St→Bool)→Bool
def IM (X:Env) (call:AV) (round:vS) (s:St) (f:Value) (args:List Value) (k:Value→St→Bool):Bool:=match f with
 | .func fn first captured=>match fn with
  | .func f=>GS args captured.toList fun l=>GS first.toList l fun l=>call f l s k
  | .yield j=>GS first.toList args fun l=>round j l s k
  | .method name=>GS first.toList args fun l=>match l with
   | .iface t v::rest=>match sG X t v name with
    | some (f,r)=>fV r fun r=>call f (r::rest) s k
    | none=>false
   | _=>false
  | _=>false
 | _=>false
def yZ (c:eR) (ck:AV):Prop:=∀ f args s k,ck f args s k=(c f args s).elim fun p=>k p.1 p.2
theorem ki {X c r ck rk} (hc:yZ c ck) (hr:yZ r rk) (s f args k):IM X ck rk s f args k=(mQ X c r s f args).elim fun p=>k p.1 p.2:=by
 cases f with
 | func fn first captured =>
  cases fn with
  | func f=>simp only[IM,tU,mQ,← List.append_assoc];exact hc _ _ _ _
  | yield j=>simp only[IM,tU,mQ];exact hr _ _ _ _
  | method name =>
   simp only[IM,tU,mQ]
   cases first.toList++args with
   | nil=>rfl
   | cons v rest =>
    cases v with
    | iface t v =>
     simp only
     cases sG X t v name with
     | none=>rfl
     | some p=>rcases p with ⟨f,r⟩;simp only[FE];exact hc _ _ _ _
    | _=>rfl
  | _=>rfl
 | _=>rfl
def noC:eR:=fun _ _ _=>.fail ""
def uB (X:Env) (call:AV) (round:vS) (s:St) (a:bD) (op:Op) (k:Value→St→Bool):Bool:=match op with
 | .store t p x=>dG a p fun v=>match v with
  | .pointer (some ad)=>dG a x fun v=>cj X s t ad v fun s=>k undef s
  | _=>false
 | .next it str=>dG a it fun v=>(FT s v str).elim fun p=>fV p.1 fun v=>k v p.2
 | .call c=>match c.callee with
  | .value f=>dG a f fun v=>pO a c.args.toList fun l=>IM X call round s v l k
  | .invoke x name=>dG a x fun v=>match v with
   | .iface t v=>match sG X t v name with
    | some (f,r)=>fV r fun r=>pO a c.args.toList fun l=>call f (r::l) s k
    | none=>false
   | _=>false
  | .builtin .append=>pO a c.args.toList fun l=>QC X s c.argTypes l k
  | .builtin .copy=>pO a c.args.toList fun l=>fF (NR X s c.argTypes l) fun p=>fV p.1 fun v=>k v p.2
  | .builtin .clear=>pO a c.args.toList fun l=>fF (qZ X s c.argTypes l) fun p=>fV p.1 fun v=>k v p.2
  | .builtin .delete=>pO a c.args.toList fun l=>fF (mZ X s c.argTypes l) fun p=>fV p.1 fun v=>k v p.2
  | .builtin _=>false
 | op=>(bL X noC noC s a.eval op).elim fun p=>fV p.1 fun v=>k v p.2
theorem IX {X c r ck rk} (hc:yZ c ck) (hr:yZ r rk) (s a op k):uB X ck rk s a op k=(bL X c r s a.eval op).elim fun p=>k p.1 p.2:=by
 cases op with
 | store t p x =>
  simp only[uB,bL,bY]
  cases a.eval p with
  | pointer ad =>
   cases ad with
   | none=>rfl
   | some ad =>
    simp only[qq]
    cases storeT X s t ad (a.eval x) <;> rfl
  | _=>rfl
 | next it str=>simp only[uB,bL,bY,FE]
 | call cl =>
  simp only[uB,bL]
  cases cl.callee with
  | value f=>simp only[bY,oA];exact ki hc hr _ _ _ _
  | invoke x name =>
   simp only[bY,oA]
   cases a.eval x with
   | iface t v =>
    simp only
    cases sG X t v name with
    | none=>rfl
    | some p=>rcases p with ⟨f,r⟩;simp only[FE];exact hc _ _ _ _
   | _=>rfl
  | builtin b =>
   cases b <;> simp only[oA,YI,MR,FE] <;> rfl
 | _=>simp only[uB,FE];rfl
def fk (X:Env) (call:AV) (round:vS) (s:St) (a:bD) (op:Op) (k:Value→St→Bool):Bool:=match bN op with
 | .still=>iI X s a op fun v=>k v s
 | .alloc=>match s with
  | ⟨h,nx,c⟩=>vT X nx c a op fun v o=>au ⟨h,nx,c⟩ (fun _=>o) fun s=>k v s
 | .effect=>uB X call round s a op k
theorem ug {X c r ck rk} (hc:yZ c ck) (hr:yZ r rk) (s a op k):fk X ck rk s a op k=(kD X c r s a.eval op).elim fun p=>k p.1 p.2:=by
 unfold fk kD
 cases bN op with
 | still=>simp only[PE];cases bS X s.look a.eval op <;> rfl
 | alloc =>
  simp only[NI,CI]
  cases cS X s.next a.eval op with
  | none=>rfl
  | some p=>rcases p with ⟨v,f⟩;rfl
 | effect=>exact IX hc hr _ _ _ _
def yW (ops:Array Oper) (a:bD) (o:Oper) (x y:Bool):Bool:=match o.guard with
 | none=>x
 | some (j,w)=>WI ops.toList j fun og=>match og with
  | some og=>match og.dst with
   | some d=>match a with
    | ⟨tm,_⟩=>nC tm d fun v=>match v with
     | some (.bool b)=>Bool.rec (motive:=fun _=>Bool) (Bool.rec (motive:=fun _=>Bool) x y w) (Bool.rec (motive:=fun _=>Bool) y x w) b
     | _=>y
   | none=>y
  | none=>y
theorem ite_rec (b x y:Bool):(Bool.rec (motive:=fun _=>Bool) y x b)=if b=true then x else y:=by cases b <;> rfl
theorem YD (a:bD) (w x y:Bool):∀ og:Option Oper,(match og with
  | some og=>match og.dst with
   | some d=>match a with
    | ⟨tm,_⟩=>nC tm d fun v=>match v with
     | some (.bool b)=>Bool.rec (motive:=fun _=>Bool) (Bool.rec (motive:=fun _=>Bool) x y w) (Bool.rec (motive:=fun _=>Bool) y x w) b
     | _=>y
   | none=>y
  | none=>y)=Bool.rec (motive:=fun _=>Bool) y x ((match og.bind (·.dst) with
   | some d=>match a.aD d with
    | .bool b=>some b
    | _=>none
   | none=>none)==some w)
 | none=>rfl
 | some ⟨none,op,ty,pos,after,guard⟩=>rfl
 | some ⟨some d,op,ty,pos,after,guard⟩=>by
   rcases a with ⟨tm,nt⟩
   simp only[fH,Option.bind,bD.aD]
   cases tm.get d with
   | none=>rfl
   | some v=>cases v with
    | bool b=>cases b <;> cases w <;> rfl
    | _=>rfl
theorem ML (ops a o x y):yW ops a o x y=if Region.wanted o (aE ops a)=true then x else y:=by
 unfold yW Region.wanted
 cases o.guard with
 | none=>rfl
 | some g =>
  rcases g with ⟨j,w⟩
  simp only[CL,Array.getElem?_toList]
  refine(YD a w x y _).trans ?_
  exact ite_rec _ _ _
def runK (X:Env) (call:AV) (round:vS) (ops:Array Oper) (l:List Oper):bD→St→(bD→St→Bool)→Bool:=List.rec (motive:=fun _=>bD→St→(bD→St→Bool)→Bool) (fun a s k=>k a s)
 (fun o _ ih a s k=>yW ops a o (fk X call round s a o.op fun v s=>zP a o.dst v fun a=>ih a s k) (zP a o.dst undef fun a=>ih a s k)) l
theorem SO {X c r ck rk} (hc:yZ c ck) (hr:yZ r rk) (ops):∀ (l a s k),runK X ck rk ops l a s k=(dL X c r ops l a s).elim fun p=>k p.1 p.2
 | [],_,_,_=>rfl
 | o::l,a,s,k=>by
  show yW ops a o (fk X ck rk s a o.op fun v s=>zP a o.dst v fun a=>runK X ck rk ops l a s k) (zP a o.dst undef fun a=>runK X ck rk ops l a s k)=_
  rw[ML,dL]
  split
  ·rw[ug hc hr,cQ.kU]
   congr 1;funext p
   rw[CW,SO hc hr ops l]
  ·rw[CW,SO hc hr ops l]
end Go.Dust
end
