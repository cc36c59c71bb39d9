/- The plain interpreter D and its laws (Dz0 Dz Dv2 Dv3). -/
import Derived.Test.YtaoiejcaopgjcaaGreatJ
import Derived.OpenShut
import Derived.ChangeSlices
set_option linter.unusedVariables false
set_option linter.unusedSimpArgs false
noncomputable section
namespace Go.Dust
open PT (nC fH zH mE zT nM kX gC)
def HT (t:PT Nat) (a:Array Nat):Prop:=∀ i,(t.get i).getD 0=a.getD i 0
def EN (acc:PT Nat) (l:List Edge):Nat→(Nat→Bool)→Bool:=List.rec (motive:=fun _=>Nat→(Nat→Bool)→Bool) (fun s k=>k s)
 (fun e _ ih s k=>Bool.rec (motive:=fun _=>Bool) (ih s k) (nC acc e.on fun v=>match v with
  | some v=>dZ (Nat.lor (Nat.lor s (Nat.pow 2 e.on)) v) fun s=>ih s k
  | none=>dZ (Nat.lor s (Nat.pow 2 e.on)) fun s=>ih s k) (Region.binds .any e)) l
theorem PD {t:PT Nat} {a:Array Nat} (h:HT t a) (k):∀ (l:List Edge) (s:Nat),EN t l s k=k (l.foldl (fun s e=>if Region.binds .any e then s ||| 2 ^ e.on ||| a.getD e.on 0 else s) s)
 | [],_=>rfl
 | e::l,s=>by
  have ih:=PD h k l
  show (Bool.rec (motive:=fun _=>Bool) (EN t l s k) (nC t e.on fun v=>match v with
   | some v=>dZ (Nat.lor (Nat.lor s (Nat.pow 2 e.on)) v) fun s=>EN t l s k
   | none=>dZ (Nat.lor s (Nat.pow 2 e.on)) fun s=>EN t l s k) (Region.binds .any e))=_
  rw[List.foldl_cons]
  cases hb:Region.binds .any e with
  | false=>rw[if_neg (by simp)];exact ih s
  | true =>
   rw[if_pos rfl]
   simp only[fH]
   have h1:=h e.on
   cases hg:t.get e.on with
   | none =>
    rw[hg] at h1
    simp only[dD]
    rw[← h1,ih]
    simp only[Option.getD_none,Nat.or_zero];rfl
   | some v =>
    rw[hg] at h1
    simp only[dD]
    rw[← h1,ih];rfl
def sj (l:List Oper):PT Nat→Nat→(PT Nat→Bool)→Bool:=List.rec (motive:=fun _=>PT Nat→Nat→(PT Nat→Bool)→Bool) (fun t _ k=>k t)
 (fun o _ ih t j k=>EN t o.after.toList Nat.zero fun b=>zH t j b fun t=>dZ (Nat.succ j) fun j=>ih t j k) l
theorem TX (k):∀ (l:List Oper) (t:PT Nat) (a:Array Nat),HT t a→∃ t',sj l t a.size k=k t'∧HT t' (l.foldl (fun acc o=>acc.push (sI acc o)) a)
 | [],t,a,h=>⟨t,rfl,h⟩
 | o::l,t,a,h=>by
  have h':HT (t.set a.size (sI a o)) (a.push (sI a o)):=by
   intro i
   rw[PT.bU]
   simp only[Array.getD_eq_getD_getElem?,Array.getElem?_push]
   split
   ·rfl
   ·rw[h i,Array.getD_eq_getD_getElem?]
  obtain⟨t',h1,h2⟩:=TX k l _ _ h'
  refine⟨t',?_,h2⟩
  rw[← h1]
  show (EN t o.after.toList 0 fun b=>zH t a.size b fun t=>dZ (Nat.succ a.size) fun j=>sj l t j k)=_
  rw[PD h]
  simp only[mE,dD,Array.size_push]
  unfold sI
  rw[← Array.foldl_toList]
def QF (ops:Array Oper) (k:PT Nat→Bool):Bool:=sj ops.toList .nil Nat.zero k
theorem IE (ops k):∃ t,QF ops k=k t∧HT t (Region.before ops):=by
 have hb:Region.before ops=ops.toList.foldl (fun acc o=>acc.push (sI acc o)) #[]:=by
  unfold Region.before
  rw[← Array.foldl_toList]
  rfl
 rw[hb]
 exact TX k ops.toList .nil #[] fun i=>by rw[PT.get_nil];simp
def kh (b i:Nat) (x y:Bool):Bool:=Bool.rec (motive:=fun _=>Bool) y x (Nat.beq (Nat.land (Nat.shiftRight b i) 1) 1)
theorem er (b i x y):kh b i x y=if b.testBit i=true then x else y:=by
 unfold kh
 have h:Nat.beq (Nat.land (Nat.shiftRight b i) 1) 1=b.testBit i:=by
  rw[Nat.testBit_eq_decide_div_mod_eq]
  have h1:Nat.land (Nat.shiftRight b i) 1=b/2 ^ i%2:=by
   show (b >>> i) &&& 1=_
   rw[Nat.and_one_is_mod,Nat.shiftRight_eq_div_pow]
  rw[h1]
  cases hb:Nat.beq (b/2 ^ i%2) 1 with
  | true=>exact(decide_eq_true (Nat.eq_of_beq_eq_true hb)).symm
  | false=>exact(decide_eq_false (Nat.ne_of_beq_eq_false hb)).symm
 rw[h]
 cases b.testBit i <;> rfl
def iw (oi oj:Oper) (i j:Nat) (k:Option (Nat×Nat)→Bool):Bool:=match bN oi.op,bN oj.op with
 | .still,.effect=>Bool.rec (motive:=fun _=>Bool) (k none) (k (some (i,j))) (nE oi.op)
 | .effect,.still=>Bool.rec (motive:=fun _=>Bool) (k none) (k (some (j,i))) (nE oj.op)
 | .alloc,.still=>Bool.rec (motive:=fun _=>Bool) (k none) (k (some (j,i))) (nE oj.op)
 | .effect,.effect=>false
 | .alloc,.effect=>false
 | _,_=>k none
theorem yw (oi oj i j k):iw oi oj i j k=fF (gY oi oj i j) fun l=>k l.head?:=by
 unfold iw gY
 cases bN oi.op <;> cases bN oj.op <;> first | rfl | (cases nE oi.op <;> rfl) | (cases nE oj.op <;> rfl)
theorem IS {oi oj i j l} (h:gY oi oj i j=some l):l=[]∨∃ p,l=[p]:=by
 unfold gY at h
 split at h <;> first | cases h | skip
 all_goals first | exact .inl rfl | (split <;> simp)
def qH (bj j:Nat) (oj:Oper) (rest:List Oper):Nat→(List (Nat×Nat)→Bool)→Bool:=List.rec (motive:=fun _=>Nat→(List (Nat×Nat)→Bool)→Bool) (fun _ k=>k [])
 (fun oi _ ih i k=>Bool.rec (motive:=fun _=>Bool) (k []) (kh bj i (dZ (Nat.succ i) fun i=>ih i k)
  (iw oi oj i j fun p=>match p with
   | none=>dZ (Nat.succ i) fun i=>ih i k
   | some p=>dZ (Nat.succ i) fun i=>ih i fun m=>k (p::m))) (Nat.ble (Nat.succ i) j)) rest
theorem IQ (b:Array Nat) (j oj):∀ (rest i k),qH (b.getD j 0) j oj rest i k=fF (sQ b j oj rest i) k
 | [],_,_=>rfl
 | oi::rest,i,k=>by
  have ih:=IQ b j oj rest
  show (Bool.rec (motive:=fun _=>Bool) (k []) (kh (b.getD j 0) i (dZ (Nat.succ i) fun i=>qH (b.getD j 0) j oj rest i k)
   (iw oi oj i j fun p=>match p with
    | none=>dZ (Nat.succ i) fun i=>qH (b.getD j 0) j oj rest i k
    | some p=>dZ (Nat.succ i) fun i=>qH (b.getD j 0) j oj rest i fun m=>k (p::m))) (Nat.ble (Nat.succ i) j))=_
  rw[sQ]
  cases hb:Nat.ble (Nat.succ i) j with
  | false=>rw[if_neg (fun h=>by rw[Nat.ble_eq_true_of_le (Nat.succ_le_of_lt h)] at hb;cases hb)];rfl
  | true =>
   rw[if_pos (show i<j from Nat.le_of_ble_eq_true hb)]
   simp only[er]
   split
   ·rw[dD,ih]
   ·rw[yw]
    cases hp:gY oi oj i j with
    | none=>rfl
    | some l =>
     simp only[fF]
     rcases IS hp with rfl | ⟨p,rfl⟩
     ·simp only[List.head?_nil,dD]
      rw[ih]
      cases sQ b j oj rest (i+1) <;> rfl
     ·simp only[List.head?_cons,dD]
      rw[ih]
      cases sQ b j oj rest (i+1) <;> rfl
def nY (b:PT Nat) (all rest:List Oper):Nat→(List (Nat×Nat)→Bool)→Bool:=List.rec (motive:=fun _=>Nat→(List (Nat×Nat)→Bool)→Bool) (fun _ k=>k [])
 (fun oj _ ih j k=>nC b j fun bj=>match bj with
  | some bj=>qH bj j oj all Nat.zero fun l=>dZ (Nat.succ j) fun j=>ih j fun m=>GS l m k
  | none=>qH Nat.zero j oj all Nat.zero fun l=>dZ (Nat.succ j) fun j=>ih j fun m=>GS l m k) rest
theorem BI {t:PT Nat} {b:Array Nat} (h:HT t b) (all):∀ (rest j k),nY t all rest j k=fF (rA b all rest j) k
 | [],_,_=>rfl
 | oj::rest,j,k=>by
  have ih:=BI h all rest
  have hh:nY t all (oj::rest) j k=qH ((t.get j).getD 0) j oj all 0 fun l=>nY t all rest (j+1) fun m=>k (l++m):=by
   show (nC t j fun bj=>match bj with
    | some bj=>qH bj j oj all Nat.zero fun l=>dZ (Nat.succ j) fun j=>nY t all rest j fun m=>GS l m k
    | none=>qH Nat.zero j oj all Nat.zero fun l=>dZ (Nat.succ j) fun j=>nY t all rest j fun m=>GS l m k)=_
   simp only[fH,dD,tU]
   cases t.get j <;> rfl
  rw[hh,h j,IQ,rA]
  cases sQ b j oj all 0 with
  | none=>rfl
  | some l =>
   simp only[fF]
   rw[ih]
   cases rA b all rest (j+1) <;> rfl
def sw (ops:Array Oper) (k:List (Nat×Nat)→Bool):Bool:=QF ops fun b=>nY b ops.toList ops.toList Nat.zero k
theorem sx (ops k):sw ops k=fF (BH ops) k:=by
 obtain⟨t,h1,h2⟩:=IE ops fun b=>nY b ops.toList ops.toList Nat.zero k
 unfold sw BH
 rw[h1,BI h2]
def memK (d:Nat) (l:List Nat) (x y:Bool):Bool:=List.rec (motive:=fun _=>Bool) y (fun e _ ih=>Bool.rec (motive:=fun _=>Bool) ih x (Nat.beq d e)) l
theorem gy (d x y):∀ l:List Nat,memK d l x y=if l.contains d=true then x else y
 | []=>rfl
 | e::l=>by
  show (Bool.rec (motive:=fun _=>Bool) (memK d l x y) x (Nat.beq d e))=_
  rw[gy d x y l,List.contains_cons]
  cases hb:Nat.beq d e with
  | true=>have:=Nat.eq_of_beq_eq_true hb;simp[this]
  | false =>
   have:=Nat.ne_of_beq_eq_false hb
   have h:(d==e)=false:=by simpa using this
   rw[h];rfl
def IA (d:Option Tmp) (l:List Tmp) (x:Bool):Bool:=match d with
 | some d=>memK d l false x
 | none=>x
theorem ke (d l x):IA d l x=if (match d with | some d=>l.contains d | none=>false)=true then false else x:=by
 cases d with
 | none=>rfl
 | some d=>exact gy d false x l
def FU (ops:Array Oper) (bj:Nat) (oj:Oper) (tj:List Tmp) (j:Nat) (rest:List Oper):Nat→Bool→Bool:=List.rec (motive:=fun _=>Nat→Bool→Bool) (fun _ x=>x)
 (fun oi _ ih i x=>Bool.rec (motive:=fun _=>Bool) x (kh bj i (dZ (Nat.succ i) fun i=>ih i x)
  (IA oi.dst tj (IA oj.dst (tmpsOf ops oi) (dZ (Nat.succ i) fun i=>ih i x)))) (Nat.ble (Nat.succ i) j)) rest
theorem three (a b c d x:Bool):(if a=true then(if d=true then x else false) else if b=true then false else if c=true then false else(if d=true then x else false))=if ((a||!(b||c))&&d)=true then x else false:=by
 cases a <;> cases b <;> cases c <;> cases d <;> rfl
theorem three' (a b c x:Bool):(if b=true then(if (a&&c)=true then x else false) else false)=if (a&&b&&c)=true then x else false:=by
 cases a <;> cases b <;> cases c <;> rfl
theorem WM (ops:Array Oper) (b:Array Nat) (oj j):∀ (rest i x),FU ops (b.getD j 0) oj (tmpsOf ops oj) j rest i x=if oE ops b oj j rest i=true then x else false
 | [],_,_=>rfl
 | oi::rest,i,x=>by
  have ih:=WM ops b oj j rest
  show (Bool.rec (motive:=fun _=>Bool) x (kh (b.getD j 0) i (dZ (Nat.succ i) fun i=>FU ops (b.getD j 0) oj (tmpsOf ops oj) j rest i x)
   (IA oi.dst (tmpsOf ops oj) (IA oj.dst (tmpsOf ops oi) (dZ (Nat.succ i) fun i=>FU ops (b.getD j 0) oj (tmpsOf ops oj) j rest i x)))) (Nat.ble (Nat.succ i) j))=_
  rw[oE]
  cases hb:Nat.ble (Nat.succ i) j with
  | false =>
   have gU:¬ i<j:=fun h=>by rw[Nat.ble_eq_true_of_le (Nat.succ_le_of_lt h)] at hb;cases hb
   simp only[if_neg gU];rfl
  | true =>
   simp only[if_pos (show i<j from Nat.le_of_ble_eq_true hb)]
   simp only[er,ke,dD,ih,KL]
   exact three _ _ _ _ _
def uR (ops:Array Oper) (b:PT Nat) (rest:List Oper):Nat→Bool→Bool:=List.rec (motive:=fun _=>Nat→Bool→Bool) (fun _ x=>x)
 (fun oj _ ih j x=>nC b j fun bj=>match bj with
  | some bj=>FU ops bj oj (tmpsOf ops oj) j ops.toList Nat.zero (dZ (Nat.succ j) fun j=>ih j x)
  | none=>FU ops Nat.zero oj (tmpsOf ops oj) j ops.toList Nat.zero (dZ (Nat.succ j) fun j=>ih j x)) rest
theorem KK {t:PT Nat} {b:Array Nat} (h:HT t b) (ops):∀ (rest j x),uR ops t rest j x=if sH ops b rest j=true then x else false
 | [],_,_=>rfl
 | oj::rest,j,x=>by
  have ih:=KK h ops rest
  have hh:uR ops t (oj::rest) j x=FU ops ((t.get j).getD 0) oj (tmpsOf ops oj) j ops.toList 0 (uR ops t rest (j+1) x):=by
   show (nC t j fun bj=>match bj with
    | some bj=>FU ops bj oj (tmpsOf ops oj) j ops.toList Nat.zero (dZ (Nat.succ j) fun j=>uR ops t rest j x)
    | none=>FU ops Nat.zero oj (tmpsOf ops oj) j ops.toList Nat.zero (dZ (Nat.succ j) fun j=>uR ops t rest j x))=_
   simp only[fH,dD]
   cases t.get j <;> rfl
  rw[hh,h j,WM,ih,sH]
  cases oE ops b oj j ops.toList 0 <;> simp
def HM (ops:Array Oper) (x:Bool):Bool:=QF ops fun b=>uR ops b ops.toList Nat.zero (Bool.rec (motive:=fun _=>Bool) false x (mI ops.toList 0))
theorem bf (ops x):HM ops x=if uQ ops=true then x else false:=by
 obtain⟨t,h1,h2⟩:=IE ops fun b=>uR ops b ops.toList Nat.zero (Bool.rec (motive:=fun _=>Bool) false x (mI ops.toList 0))
 unfold HM uQ
 rw[h1,KK h2]
 show (if sH ops (Region.before ops) ops.toList 0=true then _ else _)=_
 cases sH ops (Region.before ops) ops.toList 0 <;> cases mI ops.toList 0 <;> rfl
def CQ (nt:Nat) (l:List Oper) (x:Bool):Bool:=List.rec (motive:=fun _=>Bool) x (fun o _ ih=>Bool.rec (motive:=fun _=>Bool) false ih (iT nt o)) l
theorem FX (nt x):∀ l:List Oper,CQ nt l x=if l.all (iT nt)=true then x else false
 | []=>rfl
 | o::l=>by
  show (Bool.rec (motive:=fun _=>Bool) false (CQ nt l x) (iT nt o))=_
  rw[FX nt x l,List.all_cons]
  cases iT nt o <;> simp
def HZ (b x:Bool):Bool:=Bool.rec (motive:=fun _=>Bool) false x b
theorem QB (b x):HZ b x=if b=true then x else false:=by cases b <;> rfl
def oQ (nt:Nat) (c:Code):Bool→Bool:=Code.rec (motive:=fun _=>Bool→Bool)
 (fun x=>x)
 (fun _ ops draw x=>CQ nt ops.toList (Bool.rec (motive:=fun _=>Bool) x (HM ops x) draw))
 (fun _ _ ia ib x=>ia (ib x))
 (fun c _ _ ia ib x=>HZ (gX nt c) (ia (ib x)))
 (fun _ _ ib x=>ib x)
 (fun _ ib x=>ib x)
 (fun g ps _ _ ia ib x=>HZ (gX nt g&&ps.toList.all (fun p=>decide (p<nt))) (ia (ib x)))
 (fun _ x=>x)
 (fun _ _ x=>x)
 (fun _ x=>x)
 (fun _ x=>x)
 (fun x=>x)
 (fun _ x=>x) c
theorem az (nt:Nat):∀ (c:Code) (x:Bool),oQ nt c x=if cX nt c=true then x else false:=by
 intro c
 induction c with
 | region id ops draw =>
  intro x
  show CQ nt ops.toList (Bool.rec (motive:=fun _=>Bool) x (HM ops x) draw)=_
  rw[FX,cX,bf]
  cases ops.toList.all (iT nt) <;> cases draw <;> cases uQ ops <;> rfl
 | seq a b ia ib =>
  intro x
  show oQ nt a (oQ nt b x)=_
  rw[ia,ib,cX]
  cases cX nt a <;> cases cX nt b <;> rfl
 | cond c a b ia ib =>
  intro x
  show HZ (gX nt c) (oQ nt a (oQ nt b x))=_
  rw[QB,ia,ib,cX]
  cases gX nt c <;> cases cX nt a <;> cases cX nt b <;> rfl
 | rangeFunc g ps a b ia ib =>
  intro x
  show HZ (gX nt g&&ps.toList.all (fun p=>decide (p<nt))) (oQ nt a (oQ nt b x))=_
  rw[QB,ia,ib,cX]
  cases gX nt g <;> cases ps.toList.all (fun p=>decide (p<nt)) <;> cases cX nt a <;> cases cX nt b <;> rfl
 | block id b ib=>intro x;show oQ nt b x=_;rw[ib,cX]
 | loop b ib=>intro x;show oQ nt b x=_;rw[ib,cX]
 | _=>intro x;rw[cX];rfl
def iq (f:Func) (x:Bool):Bool:=match f.body with
 | some c=>oQ f.ntmps c (HZ (f.name != "runtime.NumGoroutine"&&qV f.ntmps f.results.toList) x)
 | none=>x
theorem yo (f x):iq f x=if SG f=true then x else false:=by
 unfold iq SG
 cases f.body with
 | none=>rfl
 | some c =>
  simp only[az,QB]
  exact three' _ _ _ _
def SC (l:List Func):Bool:=List.rec (motive:=fun _=>Bool) true (fun f _ ih=>iq f ih) l
theorem KJ:∀ {l:List Func},SC l=true→∀ f∈l,SG f=true
 | [],_,f,hf=>by cases hf
 | g::l,h,f,hf=>by
  have h':iq g (SC l)=true:=h
  rw[yo] at h'
  split at h'
  ·rename_i hg
   cases hf with
   | head=>exact hg
   | tail _ hf=>exact KJ h' f hf
  ·cases h'
def ZH (P:Program):PT (Option Func):=PT.ofList (P.funcs.toList.map some)
def envF (P:Program):Env:={ty:=fun t=>match (jz P).get t with | some x=>x | none=>none,fn:=fun f=>match (ZH P).get f with | some x=>x | none=>none}
theorem tn {P:Program} (h:SC P.funcs.toList=true):env P=envF P:=by
 have:VI P=ZH P:=by
  unfold VI ZH
  congr 1
  apply List.map_congr_left
  intro f hf
  rw[if_pos (KJ h f hf)]
 unfold env envF
 rw[this]
 rfl
end Go.Dust
end
noncomputable section
namespace Go.Dust
open PT (nC fH zH mE zT nM kX gC)
def QR (X:Env) (call:AV) (round:vS) (nm:Nat) (s:St) (a:bD) (op:Op) (k:Value→St→Bool):Bool:=match bN op with
 | .still=>iI X s a op fun v=>k v s
 | .alloc=>match s with
  | ⟨h,nx,c⟩=>vT X nm c a op fun v o=>KU ⟨h,nx,c⟩ nm (fun _=>o) fun s=>k v s
 | .effect=>uB X call round s a op k
theorem mh {X c r ck rk} (hc:yZ c ck) (hr:yZ r rk) (nm s a op k):QR X ck rk nm s a op k=fF (jP X c r nm s a.eval op) fun p=>k p.1 p.2:=by
 unfold QR jP
 cases bN op with
 | still=>simp only[PE];cases bS X s.look a.eval op <;> rfl
 | alloc =>
  simp only[NI,CU]
  cases cS X nm a.eval op with
  | none=>rfl
  | some p=>rcases p with ⟨v,f⟩;rfl
 | effect =>
  refine(IX hc hr _ _ _ _).trans ?_
  cases bL X c r s a.eval op <;> rfl
def KX (a:bD) (s:St) (op:Op) (k:List Nat→Bool):Bool:=match op with
 | .load _ x=>dG a x fun v=>k (nameOf v)
 | .binOp _ _ x y _=>dG a x fun v=>dG a y fun w=>k (nameOf v++nameOf w)
 | .slice _ x _ _ _=>dG a x fun v=>k (nameOf v)
 | .lookup _ x _ _=>dG a x fun v=>k (nameOf v)
 | .entry it=>k (bZ a.eval s.look (.entry it))
 | .call c=>match c.args[0]? with
  | some x=>dG a x fun v=>k (nameOf v)
  | none=>k []
 | _=>k []
theorem pq (a s op k):KX a s op k=k (bZ a.eval s.look op):=by
 cases op with
 | call c=>simp only[KX,bZ];cases c.args[0]? <;> simp only[bY]
 | _=>first | rfl | simp only[KX,bY,bZ]
def logK (X:Env) (call:AV) (round:vS) (ops:Array Oper) (base:Nat) (l:List Oper):Nat→bD→St→(bD→St→List rU→Bool)→Bool :=
 List.rec (motive:=fun _=>Nat→bD→St→(bD→St→List rU→Bool)→Bool) (fun _ a s k=>k a s [])
 (fun o _ ih i a s k=>yW ops a o
  (dZ (base+2*i) fun nm=>KX a s o.op fun rd=>QR X call round nm s a o.op fun v s'=>zP a o.dst v fun a'=>dZ (Nat.succ i) fun i=>ih i a' s' fun a2 s2 l=>k a2 s2 ({yK:=true,reads:=rd,pre:=s,post:=s'}::l))
  (zP a o.dst undef fun a'=>dZ (Nat.succ i) fun i=>ih i a' s fun a2 s2 l=>k a2 s2 ({yK:=false,reads:=[],pre:=s,post:=s}::l))) l
theorem RK {X c r ck rk} (hc:yZ c ck) (hr:yZ r rk) (ops base):∀ (l i a s k),logK X ck rk ops base l i a s k=fF (cI X c r ops base l i a s) fun p=>k p.1 p.2.1 p.2.2
 | [],_,_,_,_=>rfl
 | o::l,i,a,s,k=>by
  show yW ops a o
   (dZ (base+2*i) fun nm=>KX a s o.op fun rd=>QR X ck rk nm s a o.op fun v s'=>zP a o.dst v fun a'=>dZ (Nat.succ i) fun i=>logK X ck rk ops base l i a' s' fun a2 s2 l=>k a2 s2 ({yK:=true,reads:=rd,pre:=s,post:=s'}::l))
   (zP a o.dst undef fun a'=>dZ (Nat.succ i) fun i=>logK X ck rk ops base l i a' s fun a2 s2 l=>k a2 s2 ({yK:=false,reads:=[],pre:=s,post:=s}::l))=_
  rw[ML,cI]
  split
  ·simp only[dD,pq,mh hc hr,CW,RK hc hr ops base l]
   cases jP X c r (base+2*i) s a.eval o.op with
   | none=>rfl
   | some p =>
    rcases p with ⟨v,s'⟩
    simp only[fF]
    show fF (cI X c r ops base l (i+1) (a.put o.dst v) s') _=_
    cases cI X c r ops base l (i+1) (a.put o.dst v) s' <;> rfl
  ·simp only[dD,CW,RK hc hr ops base l]
   show fF (cI X c r ops base l (i+1) (a.put o.dst undef) s) _=_
   cases cI X c r ops base l (i+1) (a.put o.dst undef) s <;> rfl
def verK (o:bX) (k:Nat→Bool):Bool:=match o with
 | .cells _ _ _ _ _ _ v=>k v
 | .map _ _ v=>k v
 | .eU _ _ _ _ v=>k v
 | .nW _ _ v=>k v
 | .loop _ _ _ _ _ _ _ v=>k v
 | .dead=>false
theorem verK_eq (o k):verK o k=if o.bC=true then false else k o.dF:=by cases o <;> rfl
def jq (s s':St) (b:Nat) (x:Bool):Bool:=match s,s' with
 | ⟨h,_,cl⟩,⟨h',_,_⟩=>nC h b fun o=>match o with
  | some o=>nC h' b fun o'=>match o' with
   | some o'=>verK o fun v=>verK o' fun v'=>Bool.rec (motive:=fun _=>Bool) false (Bool.rec (motive:=fun _=>Bool) false x (Nat.ble (Nat.succ v) cl)) (Nat.beq v v')
   | none=>false
  | none=>false
theorem zp (s s' b x):jq s s' b x=HZ (bP s s' b) x:=by
 rcases s with ⟨h,nx,cl⟩
 rcases s' with ⟨h',nx',cl'⟩
 simp only[jq,fH,bP]
 cases h.get b with
 | none=>rfl
 | some o =>
  simp only
  cases h'.get b with
  | none=>rfl
  | some o' =>
   simp only[verK_eq]
   cases o.bC with
   | true=>rfl
   | false=>cases o'.bC with
    | true=>rfl
    | false =>
     have h1:Nat.beq o.dF o'.dF=(o.dF==o'.dF):=by
      cases hb:Nat.beq o.dF o'.dF with
      | true=>have:=Nat.eq_of_beq_eq_true hb;simp[this]
      | false=>have:=Nat.ne_of_beq_eq_false hb;simp[this]
     have h2:Nat.ble (Nat.succ o.dF) cl=decide (o.dF<cl):=by
      cases hb:Nat.ble (Nat.succ o.dF) cl with
      | true=>have:=Nat.le_of_ble_eq_true hb;exact(decide_eq_true this).symm
      | false =>
       refine(decide_eq_false fun h=>?_).symm
       rw[Nat.ble_eq_true_of_le (Nat.succ_le_of_lt h)] at hb;cases hb
     simp only[Bool.false_eq_true,if_false,h1,h2]
     cases (o.dF==o'.dF) <;> cases decide (o.dF<cl) <;> rfl
def yL (l:List Nat) (s s':St) (x:Bool):Bool:=List.rec (motive:=fun _=>Bool) x (fun b _ ih=>jq s s' b ih) l
theorem CX (s s' x):∀ l,yL l s s' x=HZ (l.all fun b=>bP s s' b) x
 | []=>rfl
 | b::l=>by
  show jq s s' b (yL l s s' x)=_
  rw[zp,CX s s' x l,List.all_cons]
  cases bP s s' b <;> rfl
def JV (log:List rU) (c:List (Nat×Nat)) (x:Bool):Bool:=List.rec (motive:=fun _=>Bool) x (fun p _ ih=>match p with
 | ⟨i,j⟩=>WI log i fun nx=>match nx with
  | some nx=>WI log j fun nj=>match nj with
   | some nj=>match nx,nj with
    | ⟨yK,reads,_,_⟩,⟨ran',_,pre,post⟩=>Bool.rec (motive:=fun _=>Bool) ih (Bool.rec (motive:=fun _=>Bool) ih (yL reads pre post ih) ran') yK
   | none=>false
  | none=>false) c
theorem OL (log x):∀ c,JV log c x=HZ (WB log c) x
 | []=>rfl
 | (i,j)::c=>by
  have h:=OL log x c
  show (WI log i fun nx=>match nx with
   | some nx=>WI log j fun nj=>match nj with
    | some nj=>match nx,nj with
     | ⟨yK,reads,_,_⟩,⟨ran',_,pre,post⟩=>Bool.rec (motive:=fun _=>Bool) (JV log c x) (Bool.rec (motive:=fun _=>Bool) (JV log c x) (yL reads pre post (JV log c x)) ran') yK
    | none=>false
   | none=>false)=_
  rw[h]
  simp only[CL,WB,List.all_cons,CX]
  cases log[i]? with
  | none=>rfl
  | some nx =>
   cases log[j]? with
   | none=>rfl
   | some nj =>
    rcases nx with ⟨yK,reads,p1,p2⟩
    rcases nj with ⟨ran',r',pre,post⟩
    cases yK <;> cases ran' <;> first | rfl | (simp only;cases (reads.all fun b=>bP pre post b) <;> rfl)
def YX (X:Env) (call:AV) (round:vS) (ops:Array Oper) (a:bD) (s:St) (k:bD→St→Bool):Bool:=sw ops fun c=>match s with
 | ⟨h,nx,cl⟩=>dZ (nx+2*ops.size) fun nx'=>logK X call round ops nx ops.toList Nat.zero a ⟨h,nx',cl⟩ fun a s log=>JV log c (k a s)
theorem ma {X c r ck rk} (hc:yZ c ck) (hr:yZ r rk) (ops a s k):YX X ck rk ops a s k=(pM X c r ops a s).elim fun p=>k p.1 p.2:=by
 unfold YX pM
 rw[sx]
 cases BH ops with
 | none=>rfl
 | some l =>
  simp only[fF,dD,RK hc hr,OL]
  show fF (cI X c r ops s.next ops.toList 0 a _) _=_
  cases cI X c r ops s.next ops.toList 0 a {heap:=s.heap,next:=s.next+2*ops.size,cM:=s.cM} with
  | none=>rfl
  | some p =>
   rcases p with ⟨a,s,log⟩
   simp only[fF]
   cases WB log l <;> rfl
def jc (X:Env) (s:St) (a:bD) (l:List ResultVar):(List Value→Bool)→Bool:=List.rec (motive:=fun _=>(List Value→Bool)→Bool) (fun k=>k []) (fun r _ ih k=>match r with
 | .tmp t=>dG a (.tmp t) fun v=>ih fun l=>k (v::l)
 | .cell t ty=>dG a (.tmp t) fun v=>match v with
  | .pointer (some ad)=>VZ X s ty ad fun v=>ih fun l=>k (v::l)
  | _=>false) l
theorem LC (X s a):∀ (l k),jc X s a l k=fF (results1 X s.look a l) k
 | [],_=>rfl
 | .tmp t::l,k=>by
  show (dG a (.tmp t) fun v=>jc X s a l fun l=>k (v::l))=_
  rw[bY,LC X s a l,results1]
  cases results1 X s.look a l <;> rfl
 | .cell t ty::l,k=>by
  show (dG a (.tmp t) fun v=>match v with
   | .pointer (some ad)=>VZ X s ty ad fun v=>jc X s a l fun l=>k (v::l)
   | _=>false)=_
  rw[bY,results1]
  simp only[bD.eval]
  cases a.aD t with
  | pointer ad=>cases ad with
   | none=>rfl
   | some ad =>
    simp only[WA,LC X s a l]
    cases loadT X s.look ty ad with
    | none=>rfl
    | some v=>cases results1 X s.look a l <;> rfl
  | _=>rfl
def LD (X:Env) (s:St) (f:Func) (a:bD) (k:Value→Bool):Bool:=jc X s a f.results.toList fun l=>match l with
 | [v]=>k v
 | l=>k (.tuple ⟨l⟩)
theorem XF (X s f a k):LD X s f a k=fF (kP X s.look f a) k:=by
 unfold LD kP
 rw[LC]
 cases results1 X s.look a f.results.toList with
 | none=>rfl
 | some l=>match l with
  | []=>rfl
  | [v]=>rfl
  | v::w::l=>rfl
def wu (r:Option Nat) (s:St) (x:Bool):Bool:=match r with
 | none=>x
 | some l=>match s with
  | ⟨h,_,_⟩=>nC h l fun o=>match o with
   | some (.loop ..)=>x
   | _=>false
theorem wv (r s x):wu r s x=HZ (kV r s) x:=by
 cases r with
 | none=>rfl
 | some l =>
  simp only[wu,fH,kV]
  cases s.heap.get l with
  | none=>rfl
  | some o=>cases o <;> rfl
def ru (l:List (Tmp×Value)):PT Value→(PT Value→Bool)→Bool:=List.rec (motive:=fun _=>PT Value→(PT Value→Bool)→Bool) (fun t k=>k t) (fun p _ ih t k=>zH t p.1 p.2 fun t=>ih t k) l
theorem TN:∀ (l t k),ru l t k=k (lB t l)
 | [],_,_=>rfl
 | (i,v)::l,t,k=>by
  show (zH t i v fun t=>ru l t k)=_
  rw[mE,TN l];rfl
inductive Mode where
 | code (r:Option Nat) (c:Code) (a:bD)
 | call (f:FuncId) (args:List Value)
 | round (l:Nat) (args:List Value)
abbrev GoK:=Mode→St→(cP→bD→St→Bool)→(Value→St→Bool)→Bool
def oy (_:cP) (_:bD) (_:St):Bool:=false
def KE (_:Value) (_:St):Bool:=false
def YN (g:GoK):AV:=fun f args s k=>g (.call f args) s oy k
def roundOf (g:GoK):vS:=fun l args s k=>g (.round l args) s oy k
def ez (X:Env) (g:GoK) (r:Option Nat) (c:Code) (a:bD) (s:St) (k:cP→bD→St→Bool):Bool:=match c with
 | .skip=>k .normal a s
 | .label _=>k .normal a s
 | .region _ ops draw=>Bool.rec (motive:=fun _=>Bool) (runK X (YN g) (roundOf g) ops ops.toList a s fun a s=>k .normal a s) (YX X (YN g) (roundOf g) ops a s fun a s=>k .normal a s) draw
 | .seq x y=>g (.code r x a) s (fun e a s=>match e with
  | .normal=>g (.code r y a) s k KE
  | e=>k e a s) KE
 | .cond c x y=>dG a c fun v=>match v with
  | .bool b=>Bool.rec (motive:=fun _=>Bool) (g (.code r y a) s k KE) (g (.code r x a) s k KE) b
  | _=>false
 | .block id b=>g (.code r b a) s (fun e a s=>match e with
  | .exit i=>Bool.rec (motive:=fun _=>Bool) (k (.exit i) a s) (k .normal a s) (Nat.beq i id)
  | e=>k e a s) KE
 | .loop b=>g (.code r b a) s (fun e a s=>match e with
  | .normal=>g (.code r (.loop b) a) s k KE
  | e=>k e a s) KE
 | .exit id=>k (.exit id) a s
 | .ret=>k .ret a s
 | .rangeFunc f ps assign body=>dG a f fun v=>match v with
  | .func (.func f) first captured=>wu r s (match s,a with
   | ⟨h,nx,cl⟩,⟨tm,nt⟩=>GS [.func (.yield nx) #[] #[]] captured.toList fun l=>GS first.toList l fun l=>au ⟨h,nx,cl⟩ (fun v=>.loop .ready none tm nt ps assign body v) fun s1 =>
    g (.call f l) s1 oy fun _ s'=>match s' with
     | ⟨h',nx',cl'⟩=>nC h' nx fun o=>match o with
      | some (.loop st pend t nt' ps aAm bd _)=>if st=.busy then false else match pend with
       | none=>KU ⟨h',nx',cl'⟩ nx (fun v=>.loop .exhausted none t nt' ps aAm bd v) fun s=>k .normal ⟨tm,nt⟩ s
       | some .ret=>KU ⟨h',nx',cl'⟩ nx (fun v=>.loop .exhausted (some .ret) t nt' ps aAm bd v) fun s=>k .ret ⟨tm,nt⟩ s
       | some (.exit id)=>KU ⟨h',nx',cl'⟩ nx (fun v=>.loop .exhausted (some (.exit id)) t nt' ps aAm bd v) fun s=>k (.exit id) ⟨tm,nt⟩ s
       | some _=>false
      | _=>false)
  | _=>false
 | _=>false
def YM (X:Env) (g:GoK) (f:FuncId) (args:List Value) (s:St) (k:Value→St→Bool):Bool:=match X.fn f with
 | some fn=>match fn.body with
  | some c=>VW args fun n=>Bool.rec (motive:=fun _=>Bool) false (kX args fun tm=>g (.code none c ⟨tm,fn.ntmps⟩) s (fun e a s=>match e with
   | .exit _=>false
   | _=>LD X s fn a fun v=>k v s) KE) (Nat.ble n fn.ntmps)
  | none=>(oN s fn args).elim fun p=>fV p.1 fun v=>k v p.2
 | none=>false
def SN (g:GoK) (l:Nat) (args:List Value) (s:St) (k:Value→St→Bool):Bool:=match s with
 | ⟨h,nx,cl⟩=>nC h l fun o=>match o with
  | some (.loop .ready _ t nt ps assign body _)=>VW args fun n=>Bool.rec (motive:=fun _=>Bool) false
   (ru (ps.toList.zip args) t fun t=>g (.code (some l) assign ⟨t,nt⟩) ⟨h,nx,cl⟩ (fun e a s=>match e with
    | .normal=>match s with
     | ⟨h,nx,cl⟩=>nC h l fun o=>match o with
      | some (.loop .ready pend t nt ps aAm bd _)=>KU ⟨h,nx,cl⟩ l (fun v=>.loop .busy pend t nt ps aAm bd v) fun s=>g (.code (some l) body a) s (fun e _ s=>match s with
       | ⟨h,nx,cl⟩=>nC h l fun o=>match o with
        | some (.loop _ _ t nt ps aAm bd _)=>match e with
         | .normal=>KU ⟨h,nx,cl⟩ l (fun v=>.loop .ready none t nt ps aAm bd v) fun s=>k (.bool true) s
         | .ret=>KU ⟨h,nx,cl⟩ l (fun v=>.loop .done (some .ret) t nt ps aAm bd v) fun s=>k (.bool false) s
         | .exit id=>KU ⟨h,nx,cl⟩ l (fun v=>.loop .done (some (.exit id)) t nt ps aAm bd v) fun s=>k (.bool false) s
        | _=>false) KE
      | _=>false
    | _=>false) KE) (Nat.beq n ps.size)
  | _=>false
def stepK (X:Env) (g:GoK) (m:Mode) (s:St) (kc:cP→bD→St→Bool) (kv:Value→St→Bool):Bool:=match m with
 | .code r c a=>ez X g r c a s kc
 | .call f args=>YM X g f args s kv
 | .round l args=>SN g l args s kv
def goK (X:Env) (n:Nat):GoK:=Nat.rec (motive:=fun _=>GoK) (fun _ _ _ _=>false) (fun _ g=>stepK X g) n
def zg (X:Env) (n:Nat) (m:Mode) (s:St) (kc:cP→bD→St→Bool) (kv:Value→St→Bool):Bool:=match m with
 | .code r c a=>(code X n r c a s).elim fun p=>kc p.1 p.2.1 p.2.2
 | .call f args=>(kC X n f args s).elim fun p=>kv p.1 p.2
 | .round l args=>(nK X n l args s).elim fun p=>kv p.1 p.2
theorem goK_eq (X:Env):∀ (n m s kc kv),goK X n m s kc kv=zg X n m s kc kv:=by
 intro n
 induction n with
 | zero=>intro m s kc kv;cases m <;> simp only[zg] <;> first | (rw[code];rfl) | (rw[kC];rfl) | (rw[nK];rfl)
 | succ n ih =>
  have hcode:∀ r c a s k,goK X n (.code r c a) s k KE=(code X n r c a s).elim fun p=>k p.1 p.2.1 p.2.2:=fun r c a s k=>ih _ _ _ _
  have hcall:yZ (kC X n) (YN (goK X n)):=fun f args s k=>ih _ _ _ _
  have hround:yZ (nK X n) (roundOf (goK X n)):=fun f args s k=>ih _ _ _ _
  have hcall':∀ f args s k,goK X n (.call f args) s oy k=(kC X n f args s).elim fun p=>k p.1 p.2:=fun f args s k=>ih _ _ _ _
  intro m s kc kv
  cases m with
  | code r c a =>
   show ez X (goK X n) r c a s kc=(code X (n+1) r c a s).elim fun p=>kc p.1 p.2.1 p.2.2
   cases c with
   | region id ops draw =>
    rw[code,cQ.kU]
    cases draw with
    | false=>exact SO hcall hround _ _ _ _ _
    | true=>exact ma hcall hround _ _ _ _
   | seq x y =>
    rw[code,cQ.kU]
    refine(hcode _ _ _ _ _).trans ?_
    congr 1;funext p
    rcases p with ⟨e,a,s⟩
    cases e with
    | normal=>exact hcode _ _ _ _ _
    | _=>rfl
   | cond c x y =>
    rw[code]
    simp only[ez,bY]
    cases a.eval c with
    | bool b=>cases b with
     | true=>exact hcode _ _ _ _ _
     | false=>exact hcode _ _ _ _ _
    | _=>rfl
   | block id b =>
    rw[code,cQ.kU]
    refine(hcode _ _ _ _ _).trans ?_
    congr 1;funext p
    rcases p with ⟨e,a,s⟩
    cases e with
    | exit i =>
     simp only
     cases hb:Nat.beq i id with
     | true=>rw[if_pos (Nat.eq_of_beq_eq_true hb)];rfl
     | false=>rw[if_neg (Nat.ne_of_beq_eq_false hb)];rfl
    | _=>rfl
   | loop b =>
    rw[code,cQ.kU]
    refine(hcode _ _ _ _ _).trans ?_
    congr 1;funext p
    rcases p with ⟨e,a,s⟩
    cases e with
    | normal=>exact hcode _ _ _ _ _
    | _=>rfl
   | rangeFunc f ps assign body =>
    rw[code]
    simp only[ez,bY]
    cases a.eval f with
    | func fn first captured =>
     cases fn with
     | func f =>
      simp only[wv]
      by_cases hl:kV r s=true
      ·rw[if_pos hl,hl]
       simp only[HZ]
       rcases s with ⟨h,nx,cl⟩
       rcases a with ⟨tm,nt⟩
       simp only[tU,CI,cQ.kU,hcall',List.append_assoc]
       congr 1;funext p
       rcases p with ⟨v,h',nx',cl'⟩
       simp only[fH]
       cases h'.get nx with
       | none=>rfl
       | some o =>
        cases o with
        | loop st pend t nt' ps aAm bd v =>
         simp only
         split
         ·rfl
         ·cases pend with
          | none=>simp only[CU];rfl
          | some c=>cases c <;> first | rfl | (simp only[CU];rfl)
        | _=>rfl
      ·rw[if_neg hl,Bool.eq_false_iff.2 hl];rfl
     | _=>rfl
    | _=>rfl
   | _=>rw[code];rfl
  | call f args =>
   show YM X (goK X n) f args s kv=(kC X (n+1) f args s).elim fun p=>kv p.1 p.2
   rw[kC]
   unfold YM
   cases X.fn f with
   | none=>rfl
   | some fn =>
    simp only
    cases fn.body with
    | none=>simp only[FE]
    | some c =>
     simp only[uK,gC,hcode]
     cases hb:Nat.ble args.length fn.ntmps with
     | false =>
      rw[if_neg (fun h=>by rw[Nat.ble_eq_true_of_le h] at hb;cases hb)];rfl
     | true =>
      rw[if_pos (Nat.le_of_ble_eq_true hb),cQ.kU]
      refine congrArg (cQ.elim _) (funext fun p=>?_)
      rcases p with ⟨e,a,s⟩
      cases e with
      | exit i=>rfl
      | _ =>
       simp only[XF]
       cases kP X s.look fn a <;> rfl
  | round l args =>
   show SN (goK X n) l args s kv=(nK X (n+1) l args s).elim fun p=>kv p.1 p.2
   rw[nK]
   rcases s with ⟨h,nx,cl⟩
   simp only[SN,fH]
   cases h.get l with
   | none=>rfl
   | some o =>
    cases o with
    | loop st pend t nt ps assign body v =>
     cases st with
     | ready =>
      simp only[uK,TN,hcode]
      cases hb:Nat.beq args.length ps.size with
      | false=>rw[if_neg (Nat.ne_of_beq_eq_false hb)];rfl
      | true =>
       rw[if_pos (Nat.eq_of_beq_eq_true hb),cQ.kU]
       refine congrArg (cQ.elim _) (funext fun p=>?_)
       rcases p with ⟨e,a,h,nx,cl⟩
       cases e with
       | normal =>
        dsimp only
        cases h.get l with
        | none=>rfl
        | some o =>
         cases o with
         | loop st pend t nt ps aAm bd v =>
          cases st with
          | ready =>
           simp only[CU,cQ.kU]
           congr 1;funext p
           rcases p with ⟨e,a,h,nx,cl⟩
           dsimp only
           cases h.get l with
           | none=>rfl
           | some o =>
            cases o with
            | loop st pend t nt ps aAm bd v=>cases e <;> rfl
            | _=>rfl
          | _=>rfl
         | _=>rfl
       | _=>rfl
     | _=>rfl
    | _=>rfl
def gp (v:Value) (_:St):Bool:=match v with
 | .bool b=>b
 | _=>false
theorem nv {X:Env} {n:Nat} {f:FuncId} {args:List Value} {s:St} (h:goK X n (.call f args) s oy gp=true):isTrue (kC X n f args s)=true:=by
 rw[goK_eq] at h
 simp only[zg] at h
 cases hr:kC X n f args s with
 | ret p =>
  rcases p with ⟨v,s'⟩
  rw[hr] at h
  cases v with
  | bool b=>cases b with
   | true=>rfl
   | false=>cases h
  | _=>cases h
 | _=>rw[hr] at h;cases h
end Go.Dust
end
namespace Go.Dust
open Go.ChangeShapes Go.RowKit Go.WideShapes
def ι₁ (dR off:Nat):cR:=fun b=>if b%2=0 then some ⟨b/2,0,0,true⟩ else if b=1 then some ⟨dR,off,0,true⟩ else none
theorem VR.move {v u:Value} {dR off:Nat} (h:VR zX v u):VR (ι₁ dR off) v u:=by
 refine h.mono fun b l hb=>?_
 unfold zX at hb
 unfold ι₁
 split at hb
 ·rename_i he
  rw[if_pos he];exact hb
 ·cases hb
end Go.Dust
