/- The plain interpreter D and its laws (Dx Dy Dz0). -/
import Derived.Test.YtaoiejcaopgjcaaGreatF
set_option linter.unusedVariables false
set_option linter.unusedSimpArgs false
noncomputable section
namespace Go.Dust
open PT (jN nS qQ vO zT BM tN vK)
def LF (n:Nat) (k:Value→Bool) (slow:Bool):Bool:=Bool.rec (motive:=fun _=>Bool) slow (cZ n fun n=>k (.int .i64 (.ofNat n))) (Nat.ble n 9223372036854775807)
def CU (op:BinOp) (a b:Nat) (k:Value→Bool) (slow:Bool):Bool:=match op with
 | .add=>LF (Nat.add a b) k slow
 | .sub=>Bool.rec (motive:=fun _=>Bool) slow (LF (Nat.sub a b) k slow) (Nat.ble b a)
 | .mul=>LF (Nat.mul a b) k slow
 | .quo=>Bool.rec (motive:=fun _=>Bool) (LF (Nat.div a b) k slow) slow (Nat.beq b 0)
 | .rem=>Bool.rec (motive:=fun _=>Bool) (cZ (Nat.mod a b) fun n=>k (.int .i64 (.ofNat n))) slow (Nat.beq b 0)
 | .eql=>FL (Nat.beq a b) fun c=>k (.bool c)
 | .neq=>Bool.rec (motive:=fun _=>Bool) (k (.bool true)) (k (.bool false)) (Nat.beq a b)
 | .lss=>FL (Nat.ble (Nat.succ a) b) fun c=>k (.bool c)
 | .leq=>FL (Nat.ble a b) fun c=>k (.bool c)
 | .gtr=>FL (Nat.ble (Nat.succ b) a) fun c=>k (.bool c)
 | .geq=>FL (Nat.ble b a) fun c=>k (.bool c)
 | _=>slow
theorem aIx {n:Nat} (h:n≤9223372036854775807):IntKind.i64.wrap (Int.ofNat n)=Int.ofNat n:=by
 have h0:(Int.ofNat n)%((2:Int) ^ IntKind.i64.bits)=Int.ofNat n:=by
  apply Int.emod_eq_of_lt
  ·exact Int.natCast_nonneg n
  ·show (n:Int)<18446744073709551616;omega
 unfold IntKind.wrap;simp only[h0];rw[if_neg];intro hc;rw[Bool.and_eq_true,decide_eq_true_eq] at hc;have:(n:Int)≥9223372036854775808:=hc.2;omega
theorem YK (n k):LF n k (dT (some (.int .i64 (IntKind.i64.wrap (Int.ofNat n)))) k)=dT (some (.int .i64 (IntKind.i64.wrap (Int.ofNat n)))) k:=by
 unfold LF;cases hb:Nat.ble n 9223372036854775807 with
 | false=>rfl
 | true =>
  simp only[iV];rw[aIx (Nat.le_of_ble_eq_true hb)];rfl
theorem SF (a b:Nat):Nat.ble a b=decide ((a:Int)≤(b:Int)):=by
 cases h:Nat.ble a b with
 | true=>have:=Nat.le_of_ble_eq_true h;simp[this]
 | false =>
  have:¬ a≤b:=fun h'=>by rw[Nat.ble_eq_true_of_le h'] at h;cases h
  simp[this]
theorem vh (a b:Nat):Nat.beq a b=(Int.ofNat a==Int.ofNat b):=by
 cases h:Nat.beq a b with
 | true=>have:=Nat.eq_of_beq_eq_true h;simp[this]
 | false=>have:=Nat.ne_of_beq_eq_false h;simp;omega
theorem Xt (op a b k):CU op a b k (dT (arith op .i64 (.ofNat a) (.ofNat b)) k)=dT (arith op .i64 (.ofNat a) (.ofNat b)) k:=by
 cases op with
 | add=>exact YK _ _
 | sub =>
  show (Bool.rec (motive:=fun _=>Bool) _ _ (Nat.ble b a))=_;cases hb:Nat.ble b a with
  | false=>rfl
  | true =>
   have:=Nat.le_of_ble_eq_true hb;have h:arith .sub .i64 (.ofNat a) (.ofNat b)=some (.int .i64 (IntKind.i64.wrap (Int.ofNat (a-b)))):=by
    show some (Value.int .i64 (IntKind.i64.wrap ((a:Int)-(b:Int))))=_;rw[← Int.ofNat_sub this];rfl
   rw[h];exact YK _ _
 | mul=>exact YK _ _
 | quo =>
  show (Bool.rec (motive:=fun _=>Bool) _ _ (Nat.beq b 0))=_;cases hb:Nat.beq b 0 with
  | true=>rfl
  | false =>
   have h0:=Nat.ne_of_beq_eq_false hb;have h:arith .quo .i64 (.ofNat a) (.ofNat b)=some (.int .i64 (IntKind.i64.wrap (Int.ofNat (a/b)))):=by
    show (if (b:Int)=0 then none else some (Value.int .i64 (IntKind.i64.wrap ((a:Int).tdiv (b:Int)))))=_;rw[if_neg (by omega)];rfl
   rw[h];exact YK _ _
 | rem =>
  show (Bool.rec (motive:=fun _=>Bool) _ _ (Nat.beq b 0))=_;cases hb:Nat.beq b 0 with
  | true=>rfl
  | false =>
   have h0:=Nat.ne_of_beq_eq_false hb;have h:arith .rem .i64 (.ofNat a) (.ofNat b)=some (.int .i64 (Int.ofNat (a%b))):=by
    show (if (b:Int)=0 then none else some (Value.int .i64 ((a:Int).tmod (b:Int))))=_;rw[if_neg (by omega)];rfl
   rw[h];exact iV _ _
 | eql =>
  simp only[CU,IX,vh];rfl
 | neq =>
  simp only[CU,vh];show _=k (.bool (Int.ofNat a != Int.ofNat b));unfold bne;cases (Int.ofNat a==Int.ofNat b) <;> rfl
 | lss =>
  simp only[CU,IX,SF];show _=k (.bool (decide ((a:Int)<b)));congr 2
 | leq=>simp only[CU,IX,SF];rfl
 | gtr =>
  simp only[CU,IX,SF];show _=k (.bool (decide ((a:Int)>b)));congr 2
 | geq =>
  simp only[CU,IX,SF];show _=k (.bool (decide ((a:Int)≥b)));rfl
 | _=>rfl
def ZZ (X:Env) (H:bG) (op:BinOp) (t:TypeId) (x y:Value) (k:Value→Bool):Bool:=match x,y with
 | .int .i64 (.ofNat a),.int .i64 (.ofNat b)=>match op with
  | .shl=>mG (binop X H .shl t x y) k
  | .shr=>mG (binop X H .shr t x y) k
  | op=>CU op a b k (mG (binop X H op t x y) k)
 | _,_=>mG (binop X H op t x y) k
theorem Ti (X H op t x y k):ZZ X H op t x y k=dT (binop X H op t x y) k:=by
 unfold ZZ;split
 ·rename_i a b;cases op <;> simp only[mT] <;> exact Xt _ a b k
 ·exact mT _ _
def cv (X:Env) (st:TypeId) (x:Value) (f:Nat) (k:Value→Bool):Bool:=match x with
 | .pointer (some ⟨b,off,none⟩)=>match X.ty st with
  | some i=>match i.desc with
   | .struct fields=>DV fields.toList f fun fd=>match fd with
    | some fd=>match X.ty fd.type with
     | some ti=>Bool.rec (motive:=fun _=>Bool) (cZ (Nat.add off fd.offset) fun o=>k (.pointer (some ⟨b,o,none⟩))) false (Nat.beq ti.size 0)
     | none=>false
    | none=>false
   | _=>false
  | none=>false
 | _=>false
theorem bJ (b off m:Nat):(⟨b,off,none⟩:Addr).add m=⟨b,off+m,none⟩:=by
 unfold Addr.add;split
 ·rename_i h;subst h;rfl
 ·rfl
theorem Xv (X st x f k):cv X st x f k=dT (cU X st x f) k:=by
 unfold cv cU;cases hX:X.ty st with
 | none =>
  split
  ·rfl
  ·rfl
 | some i =>
  rcases i with ⟨desc,size,bytes,zero,agg,methods,cmp⟩;cases x with
  | pointer a =>
   cases a with
   | none=>cases desc <;> rfl
   | some a =>
    rcases a with ⟨b,off,_ | q⟩
    ·cases desc with
     | struct fields =>
      simp only[OZ,Array.getElem?_toList];cases fields[f]? with
      | none=>rfl
      | some fd =>
       simp only;cases X.ty fd.type with
       | none=>rfl
       | some ti =>
        simp only;cases hb:Nat.beq ti.size 0 with
        | true=>rw[if_pos (Nat.eq_of_beq_eq_true hb)];rfl
        | false=>rw[if_neg (Nat.ne_of_beq_eq_false hb),bJ];simp only[iV];rfl
     | _=>rfl
    ·cases desc with
     | struct fields=>simp only;cases fields[f]? <;> rfl
     | _=>rfl
  | _=>cases desc <;> rfl
def iw (X:Env) (t:TypeId) (x i:Value) (k:Value→Bool):Bool:=match x,i with
 | .slice (some ⟨b,off,none⟩) len cap,.int j (.ofNat n)=>match X.ty t with
  | some it=>match it.desc with
   | .slice e=>match X.ty e with
    | some ei=>Bool.rec (motive:=fun _=>Bool) false (cZ (Nat.add off (Nat.mul n ei.size)) fun o=>k (.pointer (some ⟨b,o,none⟩))) (Nat.ble (Nat.succ n) len)
    | none=>false
   | .array _ _=>mG (kM X t (.slice (some ⟨b,off,none⟩) len cap) (.int j (.ofNat n))) k
   | _=>false
  | none=>false
 | x,i=>mG (kM X t x i) k
theorem aB0 (X t x i k):iw X t x i k=dT (kM X t x i) k:=by
 unfold iw;split
 ·rename_i b off len cap j n;unfold kM;cases hX:X.ty t with
  | none=>rfl
  | some it =>
   rcases it with ⟨desc,size,bytes,zero,agg,methods,cmp⟩;cases desc with
   | slice e =>
    simp only;cases X.ty e with
    | none=>rfl
    | some ei =>
     simp only;cases hb:Nat.ble (Nat.succ n) len with
     | false =>
      rw[if_neg]
      ·rfl
      ·intro h;have:=Nat.ble_eq_true_of_le (Int.ofNat_lt.1 h.2);rw[hb] at this;cases this
     | true =>
      have:=Nat.le_of_ble_eq_true hb;rw[if_pos ⟨Int.natCast_nonneg n,Int.ofNat_lt.2 this⟩,show (Int.ofNat n).toNat=n from rfl,bJ];simp only[iV];rfl
   | array l e=>simp only[mT]
   | _=>rfl
 ·exact mT _ _
def jt (lo:Option Value) (k:Nat→Bool) (slow:Bool):Bool:=match lo with
 | none=>k Nat.zero
 | some (.int _ (.ofNat l))=>k l
 | _=>slow
def fm (hi:Option Value) (len:Nat) (k:Nat→Bool) (slow:Bool):Bool:=match hi with
 | none=>k len
 | some (.int _ (.ofNat h))=>k h
 | _=>slow
theorem aC3 {lo:Option Value} {k:Nat→Bool} {slow r:Bool} (hs:slow=r) (hk:∀ l x,kC lo=some x→(x=none∧l=0∨x=some (Int.ofNat l))→k l=r):jt lo k slow=r:=by
 unfold jt;split
 ·exact hk 0 none rfl (.inl ⟨rfl,rfl⟩)
 ·exact hk _ (some _) rfl (.inr rfl)
 ·exact hs
theorem Y8 {hi:Option Value} {len:Nat} {k:Nat→Bool} {slow r:Bool} (hs:slow=r) (hk:∀ h x,kC hi=some x→(x=none∧h=len∨x=some (Int.ofNat h))→k h=r):fm hi len k slow=r:=by
 unfold fm;split
 ·exact hk len none rfl (.inl ⟨rfl,rfl⟩)
 ·exact hk _ (some _) rfl (.inr rfl)
 ·exact hs
theorem Tw {len cap l h:Nat} {lo hi:Option Int} (hlo:lo=none∧l=0∨lo=some (Int.ofNat l)) (hhi:hi=none∧h=len∨hi=some (Int.ofNat h)) (h1:l≤h) (h2:h≤cap):lU len cap lo hi=some (l,h):=by
 have a1:(0:Int)≤Int.ofNat l∧Int.ofNat l≤(h:Int):=⟨Int.natCast_nonneg l,Int.ofNat_le.2 h1⟩;have a2:(0:Int)≤Int.ofNat h∧Int.ofNat h≤(cap:Int):=⟨Int.natCast_nonneg h,Int.ofNat_le.2 h2⟩;rcases hlo with ⟨rfl,rfl⟩ | rfl <;> rcases hhi with ⟨rfl,rfl⟩ | rfl
 ·rfl
 ·simp only[lU,if_pos a2];rfl
 ·simp only[lU,if_pos a1];rfl
 ·simp only[lU,if_pos a2,show (Int.ofNat h).toNat=h from rfl,if_pos a1];rfl
def pz (X:Env) (o:Option bU) (t:TypeId) (b off len cap:Nat) (lo hi:Option Value) (k:Value→Bool) (slow:Bool):Bool:=match X.ty t with
 | some i=>match i.desc with
  | .slice e=>match X.ty e,o with
   | some ei,some (.cells ..)=>fm hi len (fun h=>jt lo (fun l=>Bool.rec (motive:=fun _=>Bool) slow (Bool.rec (motive:=fun _=>Bool) slow (Bool.rec (motive:=fun _=>Bool)
     (cZ (Nat.add off (Nat.mul l ei.size)) fun o=>cZ (Nat.sub h l) fun n=>cZ (Nat.sub cap l) fun m=>k (.slice (some ⟨b,o,none⟩) n m)) slow (Nat.beq cap l)) (Nat.ble h cap)) (Nat.ble l h)) slow) slow
   | _,_=>slow
  | _=>slow
 | none=>slow
theorem aHl {X:Env} {o:Option bU} {t:TypeId} {b off len cap:Nat} {lo hi:Option Value} {k:Value→Bool} {slow:Bool}
  (hs:slow=dT (eI X (fun _=>o) t (.slice (some ⟨b,off,none⟩) len cap) lo hi none) k) :
  pz X o t b off len cap lo hi k slow=dT (eI X (fun _=>o) t (.slice (some ⟨b,off,none⟩) len cap) lo hi none) k:=by
 unfold pz;split
 ·rename_i i hi';split
  ·rename_i e hd;split
   ·rename_i ei c z n el room ro aT he;refine Y8 hs fun h xh eh rh=>aC3 hs fun l xl el rl=>?_;cases h1:Nat.ble l h with
    | false=>exact hs
    | true =>
     cases h2:Nat.ble h cap with
     | false=>exact hs
     | true =>
      cases h3:Nat.beq cap l with
      | true=>exact hs
      | false =>
       have g1:=Nat.le_of_ble_eq_true h1;have g2:=Nat.le_of_ble_eq_true h2;have g3:=Nat.ne_of_beq_eq_false h3;simp only[iV];rcases i with ⟨desc,size,bytes,zero,agg,methods,cmp⟩;simp only at hd;subst hd;unfold eI;simp only[hi',eh,el,Tw rl rh g1 g2,he,if_pos (show l≤h∧h≤cap from⟨g1,g2⟩),if_neg g3,bJ];rfl
   ·exact hs
  ·exact hs
 ·exact hs
def YI (X:Env) (s:St) (t:TypeId) (x:Value) (lo hi mx:Option Value) (k:Value→Bool):Bool:=match x with
 | .slice (some a) l c=>match s with
  | ⟨h,_,_⟩=>jN h a.block fun o=>match o with
   | none=>false
   | some o=>match a,mx with
    | ⟨b,off,none⟩,none=>pz X (some o) t b off l c lo hi k (mG (eI X (fun _=>some o) t (.slice (some ⟨b,off,none⟩) l c) lo hi none) k)
    | a,mx=>mG (eI X (fun _=>some o) t (.slice (some a) l c) lo hi mx) k
 | .pointer (some a)=>match s with
  | ⟨h,_,_⟩=>jN h a.block fun o=>mG (eI X (fun _=>o) t (.pointer (some a)) lo hi mx) k
 | x=>mG (eI X (fun _=>none) t x lo hi mx) k
theorem aHh (X:Env) (H:bG) (t a l c lo hi mx):eI X (fun _=>H a.block) t (.slice (some a) l c) lo hi mx=eI X H t (.slice (some a) l c) lo hi mx:=by
 unfold eI;cases mx with
 | some _=>rfl
 | none =>
  simp only;cases X.ty t with
  | none=>rfl
  | some i =>
   rcases i with ⟨desc,size,bytes,zero,agg,methods,cmp⟩;cases kC lo <;> cases kC hi <;> first | rfl | (cases desc <;> rfl)
theorem aHi (X:Env) (H:bG) (t a lo hi mx):eI X (fun _=>H a.block) t (.pointer (some a)) lo hi mx=eI X H t (.pointer (some a)) lo hi mx:=by
 unfold eI;cases mx with
 | some _=>rfl
 | none =>
  simp only;cases X.ty t with
  | none=>rfl
  | some i =>
   rcases i with ⟨desc,size,bytes,zero,agg,methods,cmp⟩;cases kC lo <;> cases kC hi <;> first | rfl | (cases desc <;> rfl)
theorem py (X:Env) (H:bG) (t x lo hi mx) (h1:∀ a l c,x≠.slice (some a) l c) (h2:∀ a,x≠.pointer (some a)):eI X (fun _=>none) t x lo hi mx=eI X H t x lo hi mx:=by
 unfold eI;cases mx with
 | some _=>rfl
 | none =>
  simp only;cases X.ty t with
  | none=>rfl
  | some i =>
   rcases i with ⟨desc,size,bytes,zero,agg,methods,cmp⟩;cases kC lo <;> cases kC hi <;> first | rfl | skip
   cases x with
   | slice a l c=>cases a with
    | none=>cases desc <;> first | rfl | (cases l <;> cases c <;> rfl)
    | some a=>exact absurd rfl (h1 a l c)
   | pointer a=>cases a with
    | none=>cases desc <;> rfl
    | some a=>exact absurd rfl (h2 a)
   | _=>cases desc <;> rfl
theorem aHk (X:Env) (t a l c lo hi mx):eI X (fun _=>none) t (.slice (some a) l c) lo hi mx=none:=by
 unfold eI;cases mx with
 | some _=>rfl
 | none =>
  simp only;cases X.ty t with
  | none=>rfl
  | some i =>
   rcases i with ⟨desc,size,bytes,zero,agg,methods,cmp⟩;cases kC lo with
   | none=>rfl
   | some lo=>cases kC hi with
    | none=>rfl
    | some hi =>
     cases desc with
     | slice e =>
      simp only;cases a.spot with
      | none=>simp only;cases lU l c lo hi <;> cases X.ty e <;> rfl
      | some _=>rfl
     | _=>rfl
theorem aHm (X s t x lo hi mx k):YI X s t x lo hi mx k=dT (eI X s.look t x lo hi mx) k:=by
 cases x with
 | slice a l c=>cases a with
  | none=>exact(mT _ _).trans (by rw[py X s.look] <;> intros <;> simp)
  | some a =>
   rw[← aHh X s.look];rcases s with ⟨h,nx,cl⟩;show _=dT (eI X (fun _=>h.get a.block) t (.slice (some a) l c) lo hi mx) k;simp only[YI,nS];cases h.get a.block with
   | none=>rw[aHk];rfl
   | some o =>
    rcases a with ⟨b,off,_ | q⟩
    ·cases mx with
     | none=>exact aHl (mT _ _)
     | some m=>exact mT _ _
    ·exact mT _ _
 | pointer a=>cases a with
  | none=>exact(mT _ _).trans (by rw[py X s.look] <;> intros <;> simp)
  | some a =>
   rw[← aHi X s.look];rcases s with ⟨h,nx,cl⟩;simp only[YI,nS,mT];rfl
 | _=>exact(mT _ _).trans (by rw[py X s.look] <;> intros <;> simp)
def jr (X:Env) (s:St) (t:TypeId) (v:Value) (k:Value→Bool):Bool:=match v with
 | .slice a n c=>match X.ty t with
  | some i=>match i.desc with
   | .slice _=>k (.int .i64 (.ofNat n))
   | _=>mG (jY X s.look t (.slice a n c)) k
  | none=>false
 | v=>mG (jY X s.look t v) k
theorem aBv (X s t v k):jr X s t v k=dT (jY X s.look t v) k:=by
 cases v with
 | slice a n c =>
  simp only[jr,mT,jY];cases X.ty t with
  | none=>rfl
  | some i =>
   rcases i with ⟨desc,size,bytes,zero,agg,methods,cmp⟩;cases desc <;> rfl
 | _=>exact mT _ _
def nL (X:Env) (s:St) (a:aG) (op:Op) (k:Value→Bool):Bool:=match op with
 | .move x=>dY a x k
 | .assign x=>dY a x k
 | .pick c x y=>dY a c fun v=>match v with
  | .bool t=>Bool.rec (motive:=fun _=>Bool) (dY a y k) (dY a x k) t
  | _=>false
 | .build t parts=>XJ a parts.toList fun ps=>mG (iU X t ps) k
 | .load t x=>dY a x fun v=>match v with
  | .pointer (some ad)=>OK X s t ad k
  | _=>false
 | .nilCheck x=>dY a x fun v=>dT (DU v) k
 | .binOp op t x y _=>dY a x fun v=>dY a y fun w=>Bool.rec (motive:=fun _=>Bool) (ZZ X s.look op t v w k) false (rY v w&&!(nI x||nI y))
 | .unOp op _ x=>dY a x fun v=>mG (unop op v) k
 | .convert c d x=>dY a x fun v=>mG (sA X c d v) k
 | .makeInterface t x=>dY a x fun v=>match X.ty t with
  | some i=>match i.desc with
   | .interface _=>false
   | _=>k (.iface t v)
  | none=>false
 | .makeFunc fn first captured=>uU a first.toList fun u=>uU a captured.toList fun w=>match fn with
  | .func f=>k (.func (.func f) ⟨u⟩ ⟨w⟩)
  | .method m=>k (.func (.method m) ⟨u⟩ ⟨w⟩)
  | _=>false
 | .slice t x lo hi mx=>dY a x fun v=>IW a lo fun lo=>IW a hi fun hi=>IW a mx fun mx=>YI X s t v lo hi mx k
 | .fieldAddr c x f=>dY a x fun v=>cv X c v f k
 | .field t x f=>dY a x fun v=>mG (CV X t v f) k
 | .indexAddr t x i=>dY a x fun v=>dY a i fun w=>iw X t v w k
 | .index t x i=>dY a x fun v=>dY a i fun w=>mG (AT X t v w) k
 | .lookup t x y ok=>dY a x fun v=>dY a y fun w=>mG (vI X s.look t v w ok) k
 | .extract t i=>dY a t fun v=>match v with
  | .tuple ⟨vs⟩=>DV vs i fun v=>dT v k
  | _=>false
 | .entry it=>dY a it fun v=>mG (tE s.look v) k
 | .typeAssert x _ t ok=>dY a x fun v=>mG (EN X v t ok) k
 | .call c=>match c.callee with
  | .builtin .len=>match c.argTypes[0]?,c.args[0]? with
   | some t,some x=>dY a x fun v=>jr X s t v k
   | _,_=>false
  | .builtin .min=>uU a c.args.toList fun l=>mG (match l with
   | v::rest=>mS (fun x y=>decide (y<x)) v rest
   | _=>none) k
  | .builtin .max=>uU a c.args.toList fun l=>mG (match l with
   | v::rest=>mS (fun x y=>decide (y>x)) v rest
   | _=>none) k
  | _=>false
 | _=>false
theorem map_mk (l:Array Operand) (f:Operand→Value):l.map f=⟨l.toList.map f⟩:=by
 apply Array.toList_inj.1;simp
theorem Ou (X s a op k):nL X s a op k=dT (dU X s.look a.eval op) k:=by
 cases op with
 | move x=>exact hY _ _ _
 | assign x=>exact hY _ _ _
 | pick c x y =>
  simp only[nL,hY,dU];cases a.eval c with
  | bool t=>cases t <;> rfl
  | _=>rfl
 | build t parts=>simp only[nL,mz,mT,dU]
 | load t x =>
  simp only[nL,hY,dU];cases a.eval x with
  | pointer ad=>cases ad with
   | none=>rfl
   | some ad=>exact Gt _ _ _ _ _
  | _=>rfl
 | nilCheck x=>simp only[nL,hY,dU]
 | binOp op t x y y' =>
  simp only[nL,hY,dU,Ti];cases (rY (a.eval x) (a.eval y)&&!(nI x||nI y)) <;> rfl
 | unOp op t x=>simp only[nL,hY,dU,mT]
 | convert c d x=>simp only[nL,hY,dU,mT]
 | makeInterface t x =>
  simp only[nL,hY,dU];cases X.ty t with
  | none=>rfl
  | some i =>
   rcases i with ⟨desc,size,bytes,zero,agg,methods,cmp⟩;cases desc <;> rfl
 | makeFunc fn first captured =>
  simp only[nL,FK,dU,map_mk];cases fn <;> rfl
 | slice t x lo hi mx=>simp only[nL,hY,zj,dU,aHm]
 | fieldAddr c x f=>simp only[nL,hY,dU,Xv]
 | field t x f=>simp only[nL,hY,dU,mT]
 | indexAddr t x i=>simp only[nL,hY,dU,aB0]
 | index t x i=>simp only[nL,hY,dU,mT]
 | lookup t x y ok=>simp only[nL,hY,dU,mT]
 | extract t i =>
  simp only[nL,hY,dU];cases a.eval t with
  | tuple vs=>rcases vs with ⟨vs⟩;simp only[OZ,List.getElem?_toArray]
  | _=>rfl
 | entry it=>simp only[nL,hY,dU,mT]
 | typeAssert x t t' ok=>simp only[nL,hY,dU,mT]
 | call c =>
  simp only[nL,dU];cases c.callee with
  | value f=>rfl
  | invoke r m=>rfl
  | builtin b =>
   cases b with
   | len =>
    simp only;cases c.argTypes[0]? <;> cases c.args[0]? <;> first | rfl | simp only[hY,aBv]
   | min =>
    simp only[FK,mT];cases c.args.toList.map a.eval <;> rfl
   | max =>
    simp only[FK,mT];cases c.args.toList.map a.eval <;> rfl
   | _=>rfl
 | _=>rfl
end Go.Dust
end
noncomputable section
namespace Go.Dust
open PT (jN nS qQ vO zT BM tN vK)
def CG (X:Env) (nm aO:Nat) (a:aG) (op:Op) (k:Value→bU→Bool):Bool:=match op with
 | .alloc e=>match X.ty e with
  | some i=>match i.zero with
   | some z=>MV z fun l=>tN l fun c=>DM l fun n=>k (.pointer (some ⟨nm,0,none⟩)) (.cells c [] n e false false aO)
   | none=>false
  | none=>false
 | .box e x=>dY a x fun v=>MV v fun l=>tN l fun c=>DM l fun n=>k (.pointer (some ⟨nm,0,none⟩)) (.cells c [] n e false false aO)
 | .buildSlice t len parts=>match X.ty t with
  | some i=>match i.desc with
   | .slice e=>match X.ty e with
    | some ei=>match ei.zero with
     | some z=>XJ a parts.toList fun ps =>
      if len*ei.size≤2 ^ 24 then
       match Instr.fill (fun i=>some (i*ei.size,ei.size)) ((Array.range (len*ei.size)).map (z.cells[·%z.cells.size]!)) ps with
       | some ⟨cs⟩=>fL cs fun cs=>tN cs fun c=>DM cs fun n=>k (.slice (some ⟨nm,0,none⟩) len len) (.cells c [] n e false false aO)
       | none=>false
      else false
     | none=>false
    | none=>false
   | _=>false
  | none=>false
 | .makeMap t r=>IW a r fun r=>match X.ty t with
  | some i=>match i.desc,r with
   | .map _ _,none=>k (.map (some nm)) (.map [] 0 aO)
   | .map _ _,some (.int _ _)=>k (.map (some nm)) (.map [] 0 aO)
   | _,_=>false
  | none=>false
 | .makeSlice t len cap=>dY a len fun len=>dY a cap fun cap=>match X.ty t with
  | some i=>match i.desc,len,cap with
   | .slice e,.int .i64 l,.int .i64 c=>match X.ty e with
    | some ei=>match ei.zero with
     | some z=>if 0≤l∧l≤c∧c<2 ^ 40∧ei.bytes*c≤2 ^ 48∧z.cells.size=ei.size then
       MV z fun zs=>cZ l.toNat fun l=>cZ c.toNat fun c=>cZ (c*ei.size) fun n=>k (.slice (some ⟨nm,0,none⟩) l c) (.cells .nil zs n e false false aO)
      else false
     | none=>false
    | none=>false
   | _,_,_=>false
  | none=>false
 | _=>false
theorem tx (X nm aO a op k):CG X nm aO a op k=dT (fE X nm a.eval op) fun p=>k p.1 (p.2 aO):=by
  cases op with
  | alloc e =>
    simp only[CG,fE];cases X.ty e with
    | none=>rfl
    | some i =>
      rcases i with ⟨desc,size,bytes,_ | z,agg,methods,cmp⟩
      · rfl
      · simp only[SO,vK,GV];rfl
  | box e x=>simp only[CG,fE,hY,SO,vK,GV];rfl
  | buildSlice t len parts =>
    simp only[CG,fE];cases X.ty t with
    | none=>rfl
    | some i =>
      rcases i with ⟨desc,size,bytes,zero,agg,methods,cmp⟩;cases desc with
      | slice e =>
        simp only;cases X.ty e with
        | none=>rfl
        | some ei =>
          rcases ei with ⟨desc,esz,bytes,_ | z,agg,methods,cmp⟩
          · rfl
          · simp only[mz]
            by_cases h:len*esz≤2 ^ 24
            · simp only[if_pos h]
              cases Instr.fill (fun i=>some (i*esz,esz)) ((Array.range (len*esz)).map (z.cells[·%z.cells.size]!)) (parts.toList.map fun(i,x)=>(i,a.eval x)) with
              | none=>rfl
              | some cs=>rcases cs with ⟨cs⟩;simp only[TK,vK,GV];rfl
            · simp only[if_neg h];rfl
      | _=>rfl
  | makeMap t r =>
    simp only[CG,fE,zj];cases X.ty t with
    | none=>rfl
    | some i =>
      rcases i with ⟨desc,size,bytes,zero,agg,methods,cmp⟩;cases desc <;> (cases r.map a.eval with
        | none=>rfl
        | some v=>cases v <;> rfl)
  | makeSlice t len cap =>
    simp only[CG,fE,hY];cases X.ty t with
    | none=>rfl
    | some i =>
      rcases i with ⟨desc,size,bytes,zero,agg,methods,cmp⟩;cases desc with
      | slice e =>
        cases a.eval len with
        | int j l=>cases j with
          | i64=>cases a.eval cap with
            | int j c=>cases j with
              | i64 =>
                simp only;cases X.ty e with
                | none=>rfl
                | some ei =>
                  rcases ei with ⟨desc,esz,bytes,_ | z,agg,methods,cmp⟩
                  · rfl
                  · simp only[SO,iV]
                    split <;> rfl
              | _=>rfl
            | _=>rfl
          | _=>rfl
        | _=>rfl
      | _=>rfl
  | _=>rfl
def cz (s:St) (size n:Nat) (x:Value) (k:List Value→Bool):Bool:=match x with
 | .slice (some a) _ _=>cZ (Nat.mul n size) fun m=>Bool.rec (motive:=fun _=>Bool) (VZ s a m k) (k []) (Nat.beq m 0)
 | .slice none _ _=>k []
 | .string s=>fL ((s.extract 0 n).data.toList.map fun b=>.int .u8 b.toNat) k
 | _=>false
theorem Yd (s size n x k):cz s size n x k=dT (jM s.look size n x) k:=by
 cases x with
 | slice a l c=>cases a with
  | none=>rfl
  | some a =>
   simp only[cz,iV,jM];cases hb:Nat.beq (Nat.mul n size) 0 with
   | true=>rw[if_pos (show n*size=0 from Nat.eq_of_beq_eq_true hb)];rfl
   | false=>rw[if_neg (show ¬ n*size=0 from Nat.ne_of_beq_eq_false hb)];exact Gu _ _ _ _
 | string b=>exact TK _ _
 | _=>rfl
def dw (c:PT Value) (z:List Value) (m:Nat) (a:Addr) (n:Nat) (new:List Value) (k:PT Value→List Value→Bool):Bool :=
 Bool.rec (motive:=fun _=>Bool) (match a with
  | ⟨_,off,none⟩=>Bool.rec (motive:=fun _=>Bool) (XS c z m n off fun cW=>uN cW new fun l=>tN l fun c=>k c [])
   (Bool.rec (motive:=fun _=>Bool) false (zT new c n fun c=>k c z) (Nat.ble n m)) (Nat.beq off 0)
  | _=>false) (tN new fun c=>k c []) (Nat.beq n 0)
theorem O0 (c z m a n new k):dw c z m a n new k=dT (AM c z m a n new) fun p=>k p.1 p.2:=by
 unfold dw AM;cases hb:Nat.beq n 0 with
 | true=>rw[if_pos (Nat.eq_of_beq_eq_true hb)];exact vK _ _
 | false =>
  rw[if_neg (Nat.ne_of_beq_eq_false hb)];rcases a with ⟨b,off,_ | q⟩
  ·simp only;cases ho:Nat.beq off 0 with
   | true =>
    rw[if_pos (Nat.eq_of_beq_eq_true ho)];cases hm:Nat.ble n m with
    | true=>rw[if_pos (Nat.le_of_ble_eq_true hm)];exact BM _ _ _ _
    | false =>
     rw[if_neg]
     ·rfl
     ·intro h;rw[Nat.ble_eq_true_of_le h] at hm;cases hm
   | false =>
    rw[if_neg (Nat.ne_of_beq_eq_false ho)];simp only[nu,FC,vK];cases nX c z m off n <;> rfl
  ·rfl
def ZT (s:St) (e:TypeId) (esz:Nat) (base:Option Addr) (sLen sCap n:Nat) (new:List Value) (k:Value→St→Bool):Bool :=
 cZ (Nat.add sLen n) fun t=>Bool.rec (motive:=fun _=>Bool)
  (match base with
   | none=>Bool.rec (motive:=fun _=>Bool) false
    (tN new fun c=>cZ (Nat.mul t esz) fun m=>match s with
     | ⟨h,nx,cl⟩=>GZ ⟨h,nx,cl⟩ (fun v=>.cells c [] m e true false v) fun s=>k (.slice (some ⟨nx,0,none⟩) t t) s) (Nat.beq sLen 0)
   | some a=>match s with
    | ⟨h,nx,cl⟩=>jN h a.block fun o=>match o with
     | some (.cells c z m e0 room false _)=>if e0=e∧inBlock a sLen sCap esz m=true then
       cZ (Nat.mul sLen esz) fun q=>dw c z m a q new fun c' z'=>cZ (Nat.mul t esz) fun m' =>
        Bool.rec (motive:=fun _=>Bool) (GZ ⟨h,nx,cl⟩ (fun v=>.cells c' z' m' e true false v) fun s=>k (.slice (some ⟨nx,0,none⟩) t t) s)
         (wW ⟨h,nx,cl⟩ a.block (fun _=>.dead) fun s=>GZ s (fun v=>.cells c' z' m' e true false v) fun s=>k (.slice (some ⟨nx,0,none⟩) t t) s) room
      else false
     | _=>false)
  (match base with
   | some a=>match new with
    | []=>k (.slice base t sCap) s
    | new=>TJ (a.add (Nat.mul sLen esz)) fun a=>YN s a new fun s=>k (.slice base t sCap) s
   | none=>Bool.rec (motive:=fun _=>Bool) false (k (.slice base t sCap) s) (Nat.beq n 0))
  (Nat.ble t sCap)
theorem Sw (s e esz base sLen sCap n new k):ZT s e esz base sLen sCap n new k=dT (qZ s e esz base sLen sCap n new) fun p=>k p.1 p.2:=by
 unfold ZT qZ;simp only[iV];cases hb:Nat.ble (Nat.add sLen n) sCap with
 | true =>
  rw[if_pos (show sLen+n≤sCap from Nat.le_of_ble_eq_true hb)];cases base with
  | none =>
   simp only;cases hn:Nat.beq n 0 with
   | true=>rw[if_pos (Nat.eq_of_beq_eq_true hn)];rfl
   | false=>rw[if_neg (Nat.ne_of_beq_eq_false hn)];rfl
  | some a =>
   cases new with
   | nil=>rfl
   | cons x l =>
    simp only[zx,Ow];rw[if_neg (by simp)];show dT (dB s (a.add (sLen*esz)) (x::l)) _=_;cases dB s (a.add (sLen*esz)) (x::l) <;> rfl
 | false =>
  rw[if_neg (show ¬ sLen+n≤sCap from fun h=>by rw[show Nat.ble (Nat.add sLen n) sCap=true from Nat.ble_eq_true_of_le h] at hb;cases hb)];rcases s with ⟨h,nx,cl⟩;cases base with
  | none =>
   simp only;cases hn:Nat.beq sLen 0 with
   | true=>rw[if_pos (Nat.eq_of_beq_eq_true hn)];simp only[vK,OV];rfl
   | false=>rw[if_neg (Nat.ne_of_beq_eq_false hn)];rfl
  | some a =>
   simp only[nS];cases h.get a.block with
   | none=>rfl
   | some o =>
    cases o with
    | cells c z m e0 room ro v =>
     cases ro with
     | true=>rfl
     | false =>
      simp only;by_cases hc:e0=e∧inBlock a sLen sCap esz m=true
      ·rw[if_pos hc,if_pos hc];simp only[O0];show dT (AM c z m a (sLen*esz) new) _=_;cases AM c z m a (sLen*esz) new with
       | none=>rfl
       | some p =>
        rcases p with ⟨c',z'⟩;simp only[dT];cases room with
        | true=>simp only[PM,OV];rfl
        | false=>simp only[OV];rfl
      ·rw[if_neg hc,if_neg hc];rfl
    | _=>rfl
def ZU (X:Env) (s:St) (argTypes:Array TypeId) (args:List Value) (k:Value→St→Bool):Bool :=
 match argTypes.toList,args with
 | [t,t2],[.slice base sLen sCap,x]=>match X.ty t with
  | some i=>match i.desc,X.ty t2 with
   | .slice e,some i2=>match X.ty e with
    | some ei=>match ei.zero,tL x with
     | some z,some n=>cz s ei.size n x fun new =>
      if new.length=n*ei.size∧YP i2.desc=true∧z.cells.size=ei.size∧sLen+n<2 ^ 40∧(2*(sLen+n)+1000)*ei.bytes≤2 ^ 47∧new.all iB=true then
       ZT s e ei.size base sLen sCap n new k
      else false
     | _,_=>false
    | none=>false
   | _,_=>false
  | none=>false
 | _,_=>false
theorem Sy (X s ts args k):ZU X s ts args k=dT (oY X s ts args) fun p=>k p.1 p.2:=by
 unfold ZU oY;split
 ·rename_i _ _ t t2 base sLen sCap x hts;simp only[hts];cases X.ty t with
  | none=>rfl
  | some i =>
   rcases i with ⟨desc,size,bytes,zero,agg,methods,cmp⟩;cases X.ty t2 with
   | none=>cases desc <;> rfl
   | some i2 =>
    cases desc with
    | slice e =>
     simp only;cases X.ty e with
     | none=>rfl
     | some ei =>
      rcases ei with ⟨desc,esz,bytes,_ | z,agg,methods,cmp⟩
      ·rfl
      ·cases tL x with
       | none=>rfl
       | some n =>
        simp only[Yd];cases jM s.look esz n x with
        | none=>rfl
        | some new =>
         simp only[dT];split
         ·exact Sw _ _ _ _ _ _ _ _ _
         ·rfl
    | _=>rfl
 ·rename_i hno;split
  ·rename_i _ _ t t2 base sLen sCap x hts;exact absurd rfl (hno t t2 base sLen sCap x hts)
  ·rfl
abbrev AD:=FuncId→List Value→St→(Value→St→Bool)→Bool
abbrev CF:=Nat→List Value→St→(Value→St→Bool)→Bool
def MS (X:Env) (call:AD) (round:CF) (s:St) (f:Value) (args:List Value) (k:Value→St→Bool):Bool:=match f with
 | .func fn first captured=>match fn with
  | .func f=>uN args captured.toList fun l=>uN first.toList l fun l=>call f l s k
  | .yield j=>uN first.toList args fun l=>round j l s k
  | .method name=>uN first.toList args fun l=>match l with
   | .iface t v::rest=>match DP X t v name with
    | some (f,r)=>fV r fun r=>call f (r::rest) s k
    | none=>false
   | _=>false
  | _=>false
 | _=>false
def qC (c:fZ) (ck:AD):Prop:=∀ f args s k,ck f args s k=(c f args s).elim fun p=>k p.1 p.2
theorem Ui {X c r ck rk} (hc:qC c ck) (hr:qC r rk) (s f args k):MS X ck rk s f args k=(oC X c r s f args).elim fun p=>k p.1 p.2:=by
 cases f with
 | func fn first captured =>
  cases fn with
  | func f=>simp only[MS,FC,oC,← List.append_assoc];exact hc _ _ _ _
  | yield j=>simp only[MS,FC,oC];exact hr _ _ _ _
  | method name =>
   simp only[MS,FC,oC];cases first.toList++args with
   | nil=>rfl
   | cons v rest =>
    cases v with
    | iface t v =>
     simp only;cases DP X t v name with
     | none=>rfl
     | some p=>rcases p with ⟨f,r⟩;simp only[CM];exact hc _ _ _ _
    | _=>rfl
  | _=>rfl
 | _=>rfl
def It:fZ:=fun _ _ _=>.fail ""
def FJ (X:Env) (call:AD) (round:CF) (s:St) (a:aG) (op:Op) (k:Value→St→Bool):Bool:=match op with
 | .store t p x=>dY a p fun v=>match v with
  | .pointer (some ad)=>dY a x fun v=>qc X s t ad v fun s=>k undef s
  | _=>false
 | .next it str=>dY a it fun v=>(DT s v str).elim fun p=>fV p.1 fun v=>k v p.2
 | .call c=>match c.callee with
  | .value f=>dY a f fun v=>uU a c.args.toList fun l=>MS X call round s v l k
  | .invoke x name=>dY a x fun v=>match v with
   | .iface t v=>match DP X t v name with
    | some (f,r)=>fV r fun r=>uU a c.args.toList fun l=>call f (r::l) s k
    | none=>false
   | _=>false
  | .builtin .append=>uU a c.args.toList fun l=>ZU X s c.argTypes l k
  | .builtin .copy=>uU a c.args.toList fun l=>dT (IT X s c.argTypes l) fun p=>fV p.1 fun v=>k v p.2
  | .builtin .clear=>uU a c.args.toList fun l=>dT (uQ X s c.argTypes l) fun p=>fV p.1 fun v=>k v p.2
  | .builtin .delete=>uU a c.args.toList fun l=>dT (wG X s c.argTypes l) fun p=>fV p.1 fun v=>k v p.2
  | .builtin _=>false
 | op=>(eX X It It s a.eval op).elim fun p=>fV p.1 fun v=>k v p.2
theorem yr {X c r ck rk} (hc:qC c ck) (hr:qC r rk) (s a op k):FJ X ck rk s a op k=(eX X c r s a.eval op).elim fun p=>k p.1 p.2:=by
 cases op with
 | store t p x =>
  simp only[FJ,eX,hY];cases a.eval p with
  | pointer ad =>
   cases ad with
   | none=>rfl
   | some ad =>
    simp only[aHr];cases storeT X s t ad (a.eval x) <;> rfl
  | _=>rfl
 | next it str=>simp only[FJ,eX,hY,CM]
 | call cl =>
  simp only[FJ,eX];cases cl.callee with
  | value f=>simp only[hY,FK];exact Ui hc hr _ _ _ _
  | invoke x name =>
   simp only[hY,FK];cases a.eval x with
   | iface t v =>
    simp only;cases DP X t v name with
    | none=>rfl
    | some p=>rcases p with ⟨f,r⟩;simp only[CM];exact hc _ _ _ _
   | _=>rfl
  | builtin b =>
   cases b <;> simp only[FK,Sy,Wr,CM] <;> rfl
 | _=>simp only[FJ,CM];rfl
def TH (X:Env) (call:AD) (round:CF) (s:St) (a:aG) (op:Op) (k:Value→St→Bool):Bool:=match dP op with
 | .still=>nL X s a op fun v=>k v s
 | .alloc=>match s with
  | ⟨h,nx,c⟩=>CG X nx c a op fun v o=>GZ ⟨h,nx,c⟩ (fun _=>o) fun s=>k v s
 | .effect=>FJ X call round s a op k
theorem Xk {X c r ck rk} (hc:qC c ck) (hr:qC r rk) (s a op k):TH X ck rk s a op k=(lX X c r s a.eval op).elim fun p=>k p.1 p.2:=by
 unfold TH lX;cases dP op with
 | still=>simp only[Ou];cases dU X s.look a.eval op <;> rfl
 | alloc =>
  simp only[tx,OV];cases fE X s.next a.eval op with
  | none=>rfl
  | some p=>rcases p with ⟨v,f⟩;rfl
 | effect=>exact yr hc hr _ _ _ _
def MA (ops:Array Oper) (a:aG) (o:Oper) (x y:Bool):Bool:=match o.guard with
 | none=>x
 | some (j,w)=>DV ops.toList j fun og=>match og with
  | some og=>match og.dst with
   | some d=>match a with
    | ⟨tm,_⟩=>jN tm d fun v=>match v with
     | some (.bool b)=>Bool.rec (motive:=fun _=>Bool) (Bool.rec (motive:=fun _=>Bool) x y w) (Bool.rec (motive:=fun _=>Bool) y x w) b
     | _=>y
   | none=>y
  | none=>y
theorem aB6 (b x y:Bool):(Bool.rec (motive:=fun _=>Bool) y x b)=if b=true then x else y:=by cases b <;> rfl
theorem aIr (a:aG) (w x y:Bool):∀ og:Option Oper,(match og with
  | some og=>match og.dst with
   | some d=>match a with
    | ⟨tm,_⟩=>jN tm d fun v=>match v with
     | some (.bool b)=>Bool.rec (motive:=fun _=>Bool) (Bool.rec (motive:=fun _=>Bool) x y w) (Bool.rec (motive:=fun _=>Bool) y x w) b
     | _=>y
   | none=>y
  | none=>y)=Bool.rec (motive:=fun _=>Bool) y x ((match og.bind (·.dst) with
   | some d=>match a.aB d with
    | .bool b=>some b
    | _=>none
   | none=>none)==some w)
 | none=>rfl
 | some ⟨none,op,ty,pos,after,guard⟩=>rfl
 | some ⟨some d,op,ty,pos,after,guard⟩=>by
   rcases a with ⟨tm,nt⟩;simp only[nS,Option.bind,aG.aB];cases tm.get d with
   | none=>rfl
   | some v=>cases v with
    | bool b=>cases b <;> cases w <;> rfl
    | _=>rfl
theorem Qy (ops a o x y):MA ops a o x y=if Region.wanted o (aN ops a)=true then x else y:=by
 unfold MA Region.wanted;cases o.guard with
 | none=>rfl
 | some g =>
  rcases g with ⟨j,w⟩;simp only[OZ,Array.getElem?_toList];refine(aIr a w x y _).trans ?_;exact aB6 _ _ _
def runK (X:Env) (call:AD) (round:CF) (ops:Array Oper) (l:List Oper):aG→St→(aG→St→Bool)→Bool:=List.rec (motive:=fun _=>aG→St→(aG→St→Bool)→Bool) (fun a s k=>k a s)
 (fun o _ ih a s k=>MA ops a o (TH X call round s a o.op fun v s=>zP a o.dst v fun a=>ih a s k) (zP a o.dst undef fun a=>ih a s k)) l
theorem pe {X c r ck rk} (hc:qC c ck) (hr:qC r rk) (ops):∀ (l a s k),runK X ck rk ops l a s k=(gP X c r ops l a s).elim fun p=>k p.1 p.2
 | [],_,_,_=>rfl
 | o::l,a,s,k=>by
  show MA ops a o (TH X ck rk s a o.op fun v s=>zP a o.dst v fun a=>runK X ck rk ops l a s k) (zP a o.dst undef fun a=>runK X ck rk ops l a s k)=_;rw[Qy,gP];split
  ·rw[Xk hc hr,aS.AJ];congr 1;funext p;rw[XM,pe hc hr ops l]
  ·rw[XM,pe hc hr ops l]
end Go.Dust
end
noncomputable section
namespace Go.Dust
open PT (jN nS qQ vO zT BM tN vK)
def jU (t:PT Nat) (a:Array Nat):Prop:=∀ i,(t.get i).getD 0=a.getD i 0
def LJ (acc:PT Nat) (l:List Edge):Nat→(Nat→Bool)→Bool:=List.rec (motive:=fun _=>Nat→(Nat→Bool)→Bool) (fun s k=>k s)
 (fun e _ ih s k=>Bool.rec (motive:=fun _=>Bool) (ih s k) (jN acc e.on fun v=>match v with
  | some v=>cZ (Nat.lor (Nat.lor s (Nat.pow 2 e.on)) v) fun s=>ih s k
  | none=>cZ (Nat.lor s (Nat.pow 2 e.on)) fun s=>ih s k) (Region.binds .any e)) l
theorem Ot {t:PT Nat} {a:Array Nat} (h:jU t a) (k):∀ (l:List Edge) (s:Nat),LJ t l s k=k (l.foldl (fun s e=>if Region.binds .any e then s ||| 2 ^ e.on ||| a.getD e.on 0 else s) s)
 | [],_=>rfl
 | e::l,s=>by
  have ih:=Ot h k l;show (Bool.rec (motive:=fun _=>Bool) (LJ t l s k) (jN t e.on fun v=>match v with
   | some v=>cZ (Nat.lor (Nat.lor s (Nat.pow 2 e.on)) v) fun s=>LJ t l s k
   | none=>cZ (Nat.lor s (Nat.pow 2 e.on)) fun s=>LJ t l s k) (Region.binds .any e))=_
  rw[List.foldl_cons];cases hb:Region.binds .any e with
  | false=>rw[if_neg (by simp)];exact ih s
  | true =>
   rw[if_pos rfl];simp only[nS];have h1:=h e.on;cases hg:t.get e.on with
   | none =>
    rw[hg] at h1;simp only[iV];rw[← h1,ih];simp only[Option.getD_none,Nat.or_zero];rfl
   | some v =>
    rw[hg] at h1;simp only[iV];rw[← h1,ih];rfl
def ah (l:List Oper):PT Nat→Nat→(PT Nat→Bool)→Bool:=List.rec (motive:=fun _=>PT Nat→Nat→(PT Nat→Bool)→Bool) (fun t _ k=>k t)
 (fun o _ ih t j k=>LJ t o.after.toList Nat.zero fun b=>qQ t j b fun t=>cZ (Nat.succ j) fun j=>ih t j k) l
theorem wg (k):∀ (l:List Oper) (t:PT Nat) (a:Array Nat),jU t a→∃ t',ah l t a.size k=k t'∧jU t' (l.foldl (fun acc o=>acc.push (sS acc o)) a)
 | [],t,a,h=>⟨t,rfl,h⟩
 | o::l,t,a,h=>by
  have h':jU (t.set a.size (sS a o)) (a.push (sS a o)):=by
   intro i;rw[PT.fC];simp only[Array.getD_eq_getD_getElem?,Array.getElem?_push];split
   ·rfl
   ·rw[h i,Array.getD_eq_getD_getElem?]
  obtain⟨t',h1,h2⟩:=wg k l _ _ h';refine⟨t',?_,h2⟩;rw[← h1];show (LJ t o.after.toList 0 fun b=>qQ t a.size b fun t=>cZ (Nat.succ a.size) fun j=>ah l t j k)=_;rw[Ot h];simp only[vO,iV,Array.size_push];unfold sS;rw[← Array.foldl_toList]
def ZW (ops:Array Oper) (k:PT Nat→Bool):Bool:=ah ops.toList .nil Nat.zero k
theorem uz (ops k):∃ t,ZW ops k=k t∧jU t (Region.before ops):=by
 have hb:Region.before ops=ops.toList.foldl (fun acc o=>acc.push (sS acc o)) #[]:=by
  unfold Region.before;rw[← Array.foldl_toList];rfl
 rw[hb];exact wg k ops.toList .nil #[] fun i=>by rw[PT.get_nil];simp
def IP (b i:Nat) (x y:Bool):Bool:=Bool.rec (motive:=fun _=>Bool) y x (Nat.beq (Nat.land (Nat.shiftRight b i) 1) 1)
theorem vy (b i x y):IP b i x y=if b.testBit i=true then x else y:=by
 unfold IP;have h:Nat.beq (Nat.land (Nat.shiftRight b i) 1) 1=b.testBit i:=by
  rw[Nat.testBit_eq_decide_div_mod_eq];have h1:Nat.land (Nat.shiftRight b i) 1=b/2 ^ i%2:=by
   show (b >>> i) &&& 1=_;rw[Nat.and_one_is_mod,Nat.shiftRight_eq_div_pow]
  rw[h1];cases hb:Nat.beq (b/2 ^ i%2) 1 with
  | true=>exact(decide_eq_true (Nat.eq_of_beq_eq_true hb)).symm
  | false=>exact(decide_eq_false (Nat.ne_of_beq_eq_false hb)).symm
 rw[h];cases b.testBit i <;> rfl
def XH (oi oj:Oper) (i j:Nat) (k:Option (Nat×Nat)→Bool):Bool:=match dP oi.op,dP oj.op with
 | .still,.effect=>Bool.rec (motive:=fun _=>Bool) (k none) (k (some (i,j))) (wQ oi.op)
 | .effect,.still=>Bool.rec (motive:=fun _=>Bool) (k none) (k (some (j,i))) (wQ oj.op)
 | .alloc,.still=>Bool.rec (motive:=fun _=>Bool) (k none) (k (some (j,i))) (wQ oj.op)
 | .effect,.effect=>false
 | .alloc,.effect=>false
 | _,_=>k none
theorem aEf (oi oj i j k):XH oi oj i j k=dT (rD oi oj i j) fun l=>k l.head?:=by
 unfold XH rD;cases dP oi.op <;> cases dP oj.op <;> first | rfl | (cases wQ oi.op <;> rfl) | (cases wQ oj.op <;> rfl)
theorem Vi {oi oj i j l} (h:rD oi oj i j=some l):l=[]∨∃ p,l=[p]:=by
 unfold rD at h;split at h <;> first | cases h | skip
 all_goals first | exact .inl rfl | (split <;> simp)
def AI (bj j:Nat) (oj:Oper) (rest:List Oper):Nat→(List (Nat×Nat)→Bool)→Bool:=List.rec (motive:=fun _=>Nat→(List (Nat×Nat)→Bool)→Bool) (fun _ k=>k [])
 (fun oi _ ih i k=>Bool.rec (motive:=fun _=>Bool) (k []) (IP bj i (cZ (Nat.succ i) fun i=>ih i k)
  (XH oi oj i j fun p=>match p with
   | none=>cZ (Nat.succ i) fun i=>ih i k
   | some p=>cZ (Nat.succ i) fun i=>ih i fun m=>k (p::m))) (Nat.ble (Nat.succ i) j)) rest
theorem xz (b:Array Nat) (j oj):∀ (rest i k),AI (b.getD j 0) j oj rest i k=dT (yK b j oj rest i) k
 | [],_,_=>rfl
 | oi::rest,i,k=>by
  have ih:=xz b j oj rest;show (Bool.rec (motive:=fun _=>Bool) (k []) (IP (b.getD j 0) i (cZ (Nat.succ i) fun i=>AI (b.getD j 0) j oj rest i k)
   (XH oi oj i j fun p=>match p with
    | none=>cZ (Nat.succ i) fun i=>AI (b.getD j 0) j oj rest i k
    | some p=>cZ (Nat.succ i) fun i=>AI (b.getD j 0) j oj rest i fun m=>k (p::m))) (Nat.ble (Nat.succ i) j))=_
  rw[yK];cases hb:Nat.ble (Nat.succ i) j with
  | false=>rw[if_neg (fun h=>by rw[Nat.ble_eq_true_of_le (Nat.succ_le_of_lt h)] at hb;cases hb)];rfl
  | true =>
   rw[if_pos (show i<j from Nat.le_of_ble_eq_true hb)];simp only[vy];split
   ·rw[iV,ih]
   ·rw[aEf];cases hp:rD oi oj i j with
    | none=>rfl
    | some l =>
     simp only[dT];rcases Vi hp with rfl | ⟨p,rfl⟩
     ·simp only[List.head?_nil,iV];rw[ih];cases yK b j oj rest (i+1) <;> rfl
     ·simp only[List.head?_cons,iV];rw[ih];cases yK b j oj rest (i+1) <;> rfl
def FG (b:PT Nat) (all rest:List Oper):Nat→(List (Nat×Nat)→Bool)→Bool:=List.rec (motive:=fun _=>Nat→(List (Nat×Nat)→Bool)→Bool) (fun _ k=>k [])
 (fun oj _ ih j k=>jN b j fun bj=>match bj with
  | some bj=>AI bj j oj all Nat.zero fun l=>cZ (Nat.succ j) fun j=>ih j fun m=>uN l m k
  | none=>AI Nat.zero j oj all Nat.zero fun l=>cZ (Nat.succ j) fun j=>ih j fun m=>uN l m k) rest
theorem ya {t:PT Nat} {b:Array Nat} (h:jU t b) (all):∀ (rest j k),FG t all rest j k=dT (FF b all rest j) k
 | [],_,_=>rfl
 | oj::rest,j,k=>by
  have ih:=ya h all rest;have hh:FG t all (oj::rest) j k=AI ((t.get j).getD 0) j oj all 0 fun l=>FG t all rest (j+1) fun m=>k (l++m):=by
   show (jN t j fun bj=>match bj with
    | some bj=>AI bj j oj all Nat.zero fun l=>cZ (Nat.succ j) fun j=>FG t all rest j fun m=>uN l m k
    | none=>AI Nat.zero j oj all Nat.zero fun l=>cZ (Nat.succ j) fun j=>FG t all rest j fun m=>uN l m k)=_
   simp only[nS,iV,FC];cases t.get j <;> rfl
  rw[hh,h j,xz,FF];cases yK b j oj all 0 with
  | none=>rfl
  | some l =>
   simp only[dT];rw[ih];cases FF b all rest (j+1) <;> rfl
def bl (ops:Array Oper) (k:List (Nat×Nat)→Bool):Bool:=ZW ops fun b=>FG b ops.toList ops.toList Nat.zero k
theorem Vh (ops k):bl ops k=dT (rZ ops) k:=by
 obtain⟨t,h1,h2⟩:=uz ops fun b=>FG b ops.toList ops.toList Nat.zero k;unfold bl rZ;rw[h1,ya h2]
def ky (d:Nat) (l:List Nat) (x y:Bool):Bool:=List.rec (motive:=fun _=>Bool) y (fun e _ ih=>Bool.rec (motive:=fun _=>Bool) ih x (Nat.beq d e)) l
theorem Hl (d x y):∀ l:List Nat,ky d l x y=if l.contains d=true then x else y
 | []=>rfl
 | e::l=>by
  show (Bool.rec (motive:=fun _=>Bool) (ky d l x y) x (Nat.beq d e))=_;rw[Hl d x y l,List.contains_cons];cases hb:Nat.beq d e with
  | true=>have:=Nat.eq_of_beq_eq_true hb;simp[this]
  | false =>
   have:=Nat.ne_of_beq_eq_false hb;have h:(d==e)=false:=by simpa using this
   rw[h];rfl
def MN (d:Option Tmp) (l:List Tmp) (x:Bool):Bool:=match d with
 | some d=>ky d l false x
 | none=>x
theorem Sv (d l x):MN d l x=if (match d with | some d=>l.contains d | none=>false)=true then false else x:=by
 cases d with
 | none=>rfl
 | some d=>exact Hl d false x l
def DX (ops:Array Oper) (bj:Nat) (oj:Oper) (tj:List Tmp) (j:Nat) (rest:List Oper):Nat→Bool→Bool:=List.rec (motive:=fun _=>Nat→Bool→Bool) (fun _ x=>x)
 (fun oi _ ih i x=>Bool.rec (motive:=fun _=>Bool) x (IP bj i (cZ (Nat.succ i) fun i=>ih i x)
  (MN oi.dst tj (MN oj.dst (tmpsOf ops oi) (cZ (Nat.succ i) fun i=>ih i x)))) (Nat.ble (Nat.succ i) j)) rest
theorem three (a b c d x:Bool):(if a=true then(if d=true then x else false) else if b=true then false else if c=true then false else(if d=true then x else false))=if ((a||!(b||c))&&d)=true then x else false:=by
 cases a <;> cases b <;> cases c <;> cases d <;> rfl
theorem aI0 (a b c x:Bool):(if b=true then(if (a&&c)=true then x else false) else false)=if (a&&b&&c)=true then x else false:=by
 cases a <;> cases b <;> cases c <;> rfl
theorem Ji (ops:Array Oper) (b:Array Nat) (oj j):∀ (rest i x),DX ops (b.getD j 0) oj (tmpsOf ops oj) j rest i x=if HE ops b oj j rest i=true then x else false
 | [],_,_=>rfl
 | oi::rest,i,x=>by
  have ih:=Ji ops b oj j rest;show (Bool.rec (motive:=fun _=>Bool) x (IP (b.getD j 0) i (cZ (Nat.succ i) fun i=>DX ops (b.getD j 0) oj (tmpsOf ops oj) j rest i x)
   (MN oi.dst (tmpsOf ops oj) (MN oj.dst (tmpsOf ops oi) (cZ (Nat.succ i) fun i=>DX ops (b.getD j 0) oj (tmpsOf ops oj) j rest i x)))) (Nat.ble (Nat.succ i) j))=_
  rw[HE];cases hb:Nat.ble (Nat.succ i) j with
  | false =>
   have bY:¬ i<j:=fun h=>by rw[Nat.ble_eq_true_of_le (Nat.succ_le_of_lt h)] at hb;cases hb
   simp only[if_neg bY];rfl
  | true =>
   simp only[if_pos (show i<j from Nat.le_of_ble_eq_true hb)];simp only[vy,Sv,iV,ih,PJ];exact three _ _ _ _ _
def HC (ops:Array Oper) (b:PT Nat) (rest:List Oper):Nat→Bool→Bool:=List.rec (motive:=fun _=>Nat→Bool→Bool) (fun _ x=>x)
 (fun oj _ ih j x=>jN b j fun bj=>match bj with
  | some bj=>DX ops bj oj (tmpsOf ops oj) j ops.toList Nat.zero (cZ (Nat.succ j) fun j=>ih j x)
  | none=>DX ops Nat.zero oj (tmpsOf ops oj) j ops.toList Nat.zero (cZ (Nat.succ j) fun j=>ih j x)) rest
theorem Jo {t:PT Nat} {b:Array Nat} (h:jU t b) (ops):∀ (rest j x),HC ops t rest j x=if DY ops b rest j=true then x else false
 | [],_,_=>rfl
 | oj::rest,j,x=>by
  have ih:=Jo h ops rest;have hh:HC ops t (oj::rest) j x=DX ops ((t.get j).getD 0) oj (tmpsOf ops oj) j ops.toList 0 (HC ops t rest (j+1) x):=by
   show (jN t j fun bj=>match bj with
    | some bj=>DX ops bj oj (tmpsOf ops oj) j ops.toList Nat.zero (cZ (Nat.succ j) fun j=>HC ops t rest j x)
    | none=>DX ops Nat.zero oj (tmpsOf ops oj) j ops.toList Nat.zero (cZ (Nat.succ j) fun j=>HC ops t rest j x))=_
   simp only[nS,iV];cases t.get j <;> rfl
  rw[hh,h j,Ji,ih,DY];cases HE ops b oj j ops.toList 0 <;> simp
def XB (ops:Array Oper) (x:Bool):Bool:=ZW ops fun b=>HC ops b ops.toList Nat.zero (Bool.rec (motive:=fun _=>Bool) false x (HB ops.toList 0))
theorem aDp (ops x):XB ops x=if BE ops=true then x else false:=by
 obtain⟨t,h1,h2⟩:=uz ops fun b=>HC ops b ops.toList Nat.zero (Bool.rec (motive:=fun _=>Bool) false x (HB ops.toList 0));unfold XB BE;rw[h1,Jo h2];show (if DY ops (Region.before ops) ops.toList 0=true then _ else _)=_;cases DY ops (Region.before ops) ops.toList 0 <;> cases HB ops.toList 0 <;> rfl
def XF (nt:Nat) (l:List Oper) (x:Bool):Bool:=List.rec (motive:=fun _=>Bool) x (fun o _ ih=>Bool.rec (motive:=fun _=>Bool) false ih (nW nt o)) l
theorem Jt (nt x):∀ l:List Oper,XF nt l x=if l.all (nW nt)=true then x else false
 | []=>rfl
 | o::l=>by
  show (Bool.rec (motive:=fun _=>Bool) false (XF nt l x) (nW nt o))=_;rw[Jt nt x l,List.all_cons];cases nW nt o <;> simp
def wE (b x:Bool):Bool:=Bool.rec (motive:=fun _=>Bool) false x b
theorem ZS (b x):wE b x=if b=true then x else false:=by cases b <;> rfl
def zN (nt:Nat) (c:Code):Bool→Bool:=Code.rec (motive:=fun _=>Bool→Bool)
 (fun x=>x)
 (fun _ ops draw x=>XF nt ops.toList (Bool.rec (motive:=fun _=>Bool) x (XB ops x) draw))
 (fun _ _ ia ib x=>ia (ib x))
 (fun c _ _ ia ib x=>wE (tQ nt c) (ia (ib x)))
 (fun _ _ ib x=>ib x)
 (fun _ ib x=>ib x)
 (fun g ps _ _ ia ib x=>wE (tQ nt g&&ps.toList.all (fun p=>decide (p<nt))) (ia (ib x)))
 (fun _ x=>x)
 (fun _ _ x=>x)
 (fun _ x=>x)
 (fun _ x=>x)
 (fun x=>x)
 (fun _ x=>x) c
theorem aDm (nt:Nat):∀ (c:Code) (x:Bool),zN nt c x=if fK nt c=true then x else false:=by
 intro c
 induction c with
 | region id ops draw =>
  intro x;show XF nt ops.toList (Bool.rec (motive:=fun _=>Bool) x (XB ops x) draw)=_;rw[Jt,fK,aDp];cases ops.toList.all (nW nt) <;> cases draw <;> cases BE ops <;> rfl
 | seq a b ia ib =>
  intro x;show zN nt a (zN nt b x)=_;rw[ia,ib,fK];cases fK nt a <;> cases fK nt b <;> rfl
 | cond c a b ia ib =>
  intro x;show wE (tQ nt c) (zN nt a (zN nt b x))=_;rw[ZS,ia,ib,fK];cases tQ nt c <;> cases fK nt a <;> cases fK nt b <;> rfl
 | rangeFunc g ps a b ia ib =>
  intro x;show wE (tQ nt g&&ps.toList.all (fun p=>decide (p<nt))) (zN nt a (zN nt b x))=_;rw[ZS,ia,ib,fK];cases tQ nt g <;> cases ps.toList.all (fun p=>decide (p<nt)) <;> cases fK nt a <;> cases fK nt b <;> rfl
 | block id b ib=>intro x;show zN nt b x=_;rw[ib,fK]
 | loop b ib=>intro x;show zN nt b x=_;rw[ib,fK]
 | _=>intro x;rw[fK];rfl
def XC (f:Func) (x:Bool):Bool:=match f.body with
 | some c=>zN f.ntmps c (wE (f.name != "runtime.NumGoroutine"&&KR f.ntmps f.results.toList) x)
 | none=>x
theorem aDs (f x):XC f x=if BF f=true then x else false:=by
 unfold XC BF;cases f.body with
 | none=>rfl
 | some c =>
  simp only[aDm,ZS];exact aI0 _ _ _ _
def WZ (l:List Func):Bool:=List.rec (motive:=fun _=>Bool) true (fun f _ ih=>XC f ih) l
theorem Jh:∀ {l:List Func},WZ l=true→∀ f∈l,BF f=true
 | [],_,f,hf=>by cases hf
 | g::l,h,f,hf=>by
  have h':XC g (WZ l)=true:=h;rw[aDs] at h';split at h'
  ·rename_i hg;cases hf with
   | head=>exact hg
   | tail _ hf=>exact Jh h' f hf
  ·cases h'
def dj (P:Program):PT (Option Func):=PT.ofList (P.funcs.toList.map some)
def TB (P:Program):Env:={ty:=fun t=>match (YY P).get t with | some x=>x | none=>none,fn:=fun f=>match (dj P).get f with | some x=>x | none=>none}
theorem yw {P:Program} (h:WZ P.funcs.toList=true):env P=TB P:=by
 have:NG P=dj P:=by
  unfold NG dj;congr 1;apply List.map_congr_left;intro f hf;rw[if_pos (Jh h f hf)]
 unfold env TB;rw[this];rfl
end Go.Dust
end
