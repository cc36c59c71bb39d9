/- The plain interpreter D and its laws (Dz Dv2 Dv3 Ek Ea Eb). -/
import Derived.Test.YtaoiejcaopgjcaaGreatG
import Derived.OpenShut
import Derived.ChangeSlices
set_option linter.unusedVariables false
set_option linter.unusedSimpArgs false
noncomputable section
namespace Go.Dust
open PT (jN nS qQ vO zT BM tN vK)
def TI (X:Env) (call:AD) (round:CF) (nm:Nat) (s:St) (a:aG) (op:Op) (k:Value→St→Bool):Bool:=match dP op with
 | .still=>nL X s a op fun v=>k v s
 | .alloc=>match s with
  | ⟨h,nx,c⟩=>CG X nm c a op fun v o=>wW ⟨h,nx,c⟩ nm (fun _=>o) fun s=>k v s
 | .effect=>FJ X call round s a op k
theorem Xl {X c r ck rk} (hc:qC c ck) (hr:qC r rk) (nm s a op k):TI X ck rk nm s a op k=dT (lK X c r nm s a.eval op) fun p=>k p.1 p.2:=by
 unfold TI lK;cases dP op with
 | still=>simp only[Ou];cases dU X s.look a.eval op <;> rfl
 | alloc =>
  simp only[tx,PM];cases fE X nm a.eval op with
  | none=>rfl
  | some p=>rcases p with ⟨v,f⟩;rfl
 | effect =>
  refine(yr hc hr _ _ _ _).trans ?_;cases eX X c r s a.eval op <;> rfl
def PN (a:aG) (s:St) (op:Op) (k:List Nat→Bool):Bool:=match op with
 | .load _ x=>dY a x fun v=>k (nameOf v)
 | .binOp _ _ x y _=>dY a x fun v=>dY a y fun w=>k (nameOf v++nameOf w)
 | .slice _ x _ _ _=>dY a x fun v=>k (nameOf v)
 | .lookup _ x _ _=>dY a x fun v=>k (nameOf v)
 | .entry it=>k (fM a.eval s.look (.entry it))
 | .call c=>match c.args[0]? with
  | some x=>dY a x fun v=>k (nameOf v)
  | none=>k []
 | _=>k []
theorem aF5 (a s op k):PN a s op k=k (fM a.eval s.look op):=by
 cases op with
 | call c=>simp only[PN,fM];cases c.args[0]? <;> simp only[hY]
 | _=>first | rfl | simp only[PN,hY,fM]
def WA (X:Env) (call:AD) (round:CF) (ops:Array Oper) (base:Nat) (l:List Oper):Nat→aG→St→(aG→St→List nB→Bool)→Bool :=
 List.rec (motive:=fun _=>Nat→aG→St→(aG→St→List nB→Bool)→Bool) (fun _ a s k=>k a s [])
 (fun o _ ih i a s k=>MA ops a o
  (cZ (base+2*i) fun nm=>PN a s o.op fun rd=>TI X call round nm s a o.op fun v s'=>zP a o.dst v fun a'=>cZ (Nat.succ i) fun i=>ih i a' s' fun a2 s2 l=>k a2 s2 ({iC:=true,reads:=rd,pre:=s,post:=s'}::l))
  (zP a o.dst undef fun a'=>cZ (Nat.succ i) fun i=>ih i a' s fun a2 s2 l=>k a2 s2 ({iC:=false,reads:=[],pre:=s,post:=s}::l))) l
theorem jw {X c r ck rk} (hc:qC c ck) (hr:qC r rk) (ops base):∀ (l i a s k),WA X ck rk ops base l i a s k=dT (eP X c r ops base l i a s) fun p=>k p.1 p.2.1 p.2.2
 | [],_,_,_,_=>rfl
 | o::l,i,a,s,k=>by
  show MA ops a o
   (cZ (base+2*i) fun nm=>PN a s o.op fun rd=>TI X ck rk nm s a o.op fun v s'=>zP a o.dst v fun a'=>cZ (Nat.succ i) fun i=>WA X ck rk ops base l i a' s' fun a2 s2 l=>k a2 s2 ({iC:=true,reads:=rd,pre:=s,post:=s'}::l))
   (zP a o.dst undef fun a'=>cZ (Nat.succ i) fun i=>WA X ck rk ops base l i a' s fun a2 s2 l=>k a2 s2 ({iC:=false,reads:=[],pre:=s,post:=s}::l))=_
  rw[Qy,eP];split
  ·simp only[iV,aF5,Xl hc hr,XM,jw hc hr ops base l];cases lK X c r (base+2*i) s a.eval o.op with
   | none=>rfl
   | some p =>
    rcases p with ⟨v,s'⟩;simp only[dT];show dT (eP X c r ops base l (i+1) (a.put o.dst v) s') _=_;cases eP X c r ops base l (i+1) (a.put o.dst v) s' <;> rfl
  ·simp only[iV,XM,jw hc hr ops base l];show dT (eP X c r ops base l (i+1) (a.put o.dst undef) s) _=_;cases eP X c r ops base l (i+1) (a.put o.dst undef) s <;> rfl
def qv (o:bU) (k:Nat→Bool):Bool:=match o with
 | .cells _ _ _ _ _ _ v=>k v
 | .map _ _ v=>k v
 | .gC _ _ _ _ v=>k v
 | .pF _ _ v=>k v
 | .loop _ _ _ _ _ _ _ v=>k v
 | .dead=>false
theorem aIl (o k):qv o k=if o.cS=true then false else k o.aT:=by cases o <;> rfl
def YC (s s':St) (b:Nat) (x:Bool):Bool:=match s,s' with
 | ⟨h,_,cl⟩,⟨h',_,_⟩=>jN h b fun o=>match o with
  | some o=>jN h' b fun o'=>match o' with
   | some o'=>qv o fun v=>qv o' fun v'=>Bool.rec (motive:=fun _=>Bool) false (Bool.rec (motive:=fun _=>Bool) false x (Nat.ble (Nat.succ v) cl)) (Nat.beq v v')
   | none=>false
  | none=>false
theorem aGq (s s' b x):YC s s' b x=wE (eT s s' b) x:=by
 rcases s with ⟨h,nx,cl⟩;rcases s' with ⟨h',nx',cl'⟩;simp only[YC,nS,eT];cases h.get b with
 | none=>rfl
 | some o =>
  simp only;cases h'.get b with
  | none=>rfl
  | some o' =>
   simp only[aIl];cases o.cS with
   | true=>rfl
   | false=>cases o'.cS with
    | true=>rfl
    | false =>
     have h1:Nat.beq o.aT o'.aT=(o.aT==o'.aT):=by
      cases hb:Nat.beq o.aT o'.aT with
      | true=>have:=Nat.eq_of_beq_eq_true hb;simp[this]
      | false=>have:=Nat.ne_of_beq_eq_false hb;simp[this]
     have h2:Nat.ble (Nat.succ o.aT) cl=decide (o.aT<cl):=by
      cases hb:Nat.ble (Nat.succ o.aT) cl with
      | true=>have:=Nat.le_of_ble_eq_true hb;exact(decide_eq_true this).symm
      | false =>
       refine(decide_eq_false fun h=>?_).symm;rw[Nat.ble_eq_true_of_le (Nat.succ_le_of_lt h)] at hb;cases hb
     simp only[Bool.false_eq_true,if_false,h1,h2];cases (o.aT==o'.aT) <;> cases decide (o.aT<cl) <;> rfl
def XT (l:List Nat) (s s':St) (x:Bool):Bool:=List.rec (motive:=fun _=>Bool) x (fun b _ ih=>YC s s' b ih) l
theorem Km (s s' x):∀ l,XT l s s' x=wE (l.all fun b=>eT s s' b) x
 | []=>rfl
 | b::l=>by
  show YC s s' b (XT l s s' x)=_;rw[aGq,Km s s' x l,List.all_cons];cases eT s s' b <;> rfl
def OM (log:List nB) (c:List (Nat×Nat)) (x:Bool):Bool:=List.rec (motive:=fun _=>Bool) x (fun p _ ih=>match p with
 | ⟨i,j⟩=>DV log i fun nx=>match nx with
  | some nx=>DV log j fun nj=>match nj with
   | some nj=>match nx,nj with
    | ⟨iC,reads,_,_⟩,⟨ran',_,pre,post⟩=>Bool.rec (motive:=fun _=>Bool) ih (Bool.rec (motive:=fun _=>Bool) ih (XT reads pre post ih) ran') iC
   | none=>false
  | none=>false) c
theorem Gz (log x):∀ c,OM log c x=wE (OL log c) x
 | []=>rfl
 | (i,j)::c=>by
  have h:=Gz log x c;show (DV log i fun nx=>match nx with
   | some nx=>DV log j fun nj=>match nj with
    | some nj=>match nx,nj with
     | ⟨iC,reads,_,_⟩,⟨ran',_,pre,post⟩=>Bool.rec (motive:=fun _=>Bool) (OM log c x) (Bool.rec (motive:=fun _=>Bool) (OM log c x) (XT reads pre post (OM log c x)) ran') iC
    | none=>false
   | none=>false)=_
  rw[h];simp only[OZ,OL,List.all_cons,Km];cases log[i]? with
  | none=>rfl
  | some nx =>
   cases log[j]? with
   | none=>rfl
   | some nj =>
    rcases nx with ⟨iC,reads,p1,p2⟩;rcases nj with ⟨ran',r',pre,post⟩;cases iC <;> cases ran' <;> first | rfl | (simp only;cases (reads.all fun b=>eT pre post b) <;> rfl)
def bo (X:Env) (call:AD) (round:CF) (ops:Array Oper) (a:aG) (s:St) (k:aG→St→Bool):Bool:=bl ops fun c=>match s with
 | ⟨h,nx,cl⟩=>cZ (nx+2*ops.size) fun nx'=>WA X call round ops nx ops.toList Nat.zero a ⟨h,nx',cl⟩ fun a s log=>OM log c (k a s)
theorem We {X c r ck rk} (hc:qC c ck) (hr:qC r rk) (ops a s k):bo X ck rk ops a s k=(uR X c r ops a s).elim fun p=>k p.1 p.2:=by
 unfold bo uR;rw[Vh];cases rZ ops with
 | none=>rfl
 | some l =>
  simp only[dT,iV,jw hc hr,Gz];show dT (eP X c r ops s.next ops.toList 0 a _) _=_;cases eP X c r ops s.next ops.toList 0 a {heap:=s.heap,next:=s.next+2*ops.size,aO:=s.aO} with
  | none=>rfl
  | some p =>
   rcases p with ⟨a,s,log⟩;simp only[dT];cases OL log l <;> rfl
def XW (X:Env) (s:St) (a:aG) (l:List ResultVar):(List Value→Bool)→Bool:=List.rec (motive:=fun _=>(List Value→Bool)→Bool) (fun k=>k []) (fun r _ ih k=>match r with
 | .tmp t=>dY a (.tmp t) fun v=>ih fun l=>k (v::l)
 | .cell t ty=>dY a (.tmp t) fun v=>match v with
  | .pointer (some ad)=>OK X s ty ad fun v=>ih fun l=>k (v::l)
  | _=>false) l
theorem oq (X s a):∀ (l k),XW X s a l k=dT (results1 X s.look a l) k
 | [],_=>rfl
 | .tmp t::l,k=>by
  show (dY a (.tmp t) fun v=>XW X s a l fun l=>k (v::l))=_;rw[hY,oq X s a l,results1];cases results1 X s.look a l <;> rfl
 | .cell t ty::l,k=>by
  show (dY a (.tmp t) fun v=>match v with
   | .pointer (some ad)=>OK X s ty ad fun v=>XW X s a l fun l=>k (v::l)
   | _=>false)=_
  rw[hY,results1];simp only[aG.eval];cases a.aB t with
  | pointer ad=>cases ad with
   | none=>rfl
   | some ad =>
    simp only[Gt,oq X s a l];cases loadT X s.look ty ad with
    | none=>rfl
    | some v=>cases results1 X s.look a l <;> rfl
  | _=>rfl
def ov (X:Env) (s:St) (f:Func) (a:aG) (k:Value→Bool):Bool:=XW X s a f.results.toList fun l=>match l with
 | [v]=>k v
 | l=>k (.tuple ⟨l⟩)
theorem aFz (X s f a k):ov X s f a k=dT (wX X s.look f a) k:=by
 unfold ov wX;rw[oq];cases results1 X s.look a f.results.toList with
 | none=>rfl
 | some l=>match l with
  | []=>rfl
  | [v]=>rfl
  | v::w::l=>rfl
def js (r:Option Nat) (s:St) (x:Bool):Bool:=match r with
 | none=>x
 | some l=>match s with
  | ⟨h,_,_⟩=>jN h l fun o=>match o with
   | some (.loop ..)=>x
   | _=>false
theorem aC1 (r s x):js r s x=wE (AZ r s) x:=by
 cases r with
 | none=>rfl
 | some l =>
  simp only[js,nS,AZ];cases s.heap.get l with
  | none=>rfl
  | some o=>cases o <;> rfl
def ZV (l:List (Tmp×Value)):PT Value→(PT Value→Bool)→Bool:=List.rec (motive:=fun _=>PT Value→(PT Value→Bool)→Bool) (fun t k=>k t) (fun p _ ih t k=>qQ t p.1 p.2 fun t=>ih t k) l
theorem ub:∀ (l t k),ZV l t k=k (tR t l)
 | [],_,_=>rfl
 | (i,v)::l,t,k=>by
  show (qQ t i v fun t=>ZV l t k)=_;rw[vO,ub l];rfl
inductive Mode where
 | code (r:Option Nat) (c:Code) (a:aG)
 | call (f:FuncId) (args:List Value)
 | round (l:Nat) (args:List Value)
abbrev CC:=Mode→St→(dL→aG→St→Bool)→(Value→St→Bool)→Bool
def KM (_:dL) (_:aG) (_:St):Bool:=false
def wT (_:Value) (_:St):Bool:=false
def au (g:CC):AD:=fun f args s k=>g (.call f args) s KM k
def roundOf (g:CC):CF:=fun l args s k=>g (.round l args) s KM k
def SY (X:Env) (g:CC) (r:Option Nat) (c:Code) (a:aG) (s:St) (k:dL→aG→St→Bool):Bool:=match c with
 | .skip=>k .normal a s
 | .label _=>k .normal a s
 | .region _ ops draw=>Bool.rec (motive:=fun _=>Bool) (runK X (au g) (roundOf g) ops ops.toList a s fun a s=>k .normal a s) (bo X (au g) (roundOf g) ops a s fun a s=>k .normal a s) draw
 | .seq x y=>g (.code r x a) s (fun e a s=>match e with
  | .normal=>g (.code r y a) s k wT
  | e=>k e a s) wT
 | .cond c x y=>dY a c fun v=>match v with
  | .bool b=>Bool.rec (motive:=fun _=>Bool) (g (.code r y a) s k wT) (g (.code r x a) s k wT) b
  | _=>false
 | .block id b=>g (.code r b a) s (fun e a s=>match e with
  | .exit i=>Bool.rec (motive:=fun _=>Bool) (k (.exit i) a s) (k .normal a s) (Nat.beq i id)
  | e=>k e a s) wT
 | .loop b=>g (.code r b a) s (fun e a s=>match e with
  | .normal=>g (.code r (.loop b) a) s k wT
  | e=>k e a s) wT
 | .exit id=>k (.exit id) a s
 | .ret=>k .ret a s
 | .rangeFunc f ps assign body=>dY a f fun v=>match v with
  | .func (.func f) first captured=>js r s (match s,a with
   | ⟨h,nx,cl⟩,⟨tm,nt⟩=>uN [.func (.yield nx) #[] #[]] captured.toList fun l=>uN first.toList l fun l=>GZ ⟨h,nx,cl⟩ (fun v=>.loop .ready none tm nt ps assign body v) fun s1 =>
    g (.call f l) s1 KM fun _ s'=>match s' with
     | ⟨h',nx',cl'⟩=>jN h' nx fun o=>match o with
      | some (.loop st pend t nt' ps aKe bd _)=>if st=.busy then false else match pend with
       | none=>wW ⟨h',nx',cl'⟩ nx (fun v=>.loop .exhausted none t nt' ps aKe bd v) fun s=>k .normal ⟨tm,nt⟩ s
       | some .ret=>wW ⟨h',nx',cl'⟩ nx (fun v=>.loop .exhausted (some .ret) t nt' ps aKe bd v) fun s=>k .ret ⟨tm,nt⟩ s
       | some (.exit id)=>wW ⟨h',nx',cl'⟩ nx (fun v=>.loop .exhausted (some (.exit id)) t nt' ps aKe bd v) fun s=>k (.exit id) ⟨tm,nt⟩ s
       | some _=>false
      | _=>false)
  | _=>false
 | _=>false
def ar (X:Env) (g:CC) (f:FuncId) (args:List Value) (s:St) (k:Value→St→Bool):Bool:=match X.fn f with
 | some fn=>match fn.body with
  | some c=>DM args fun n=>Bool.rec (motive:=fun _=>Bool) false (tN args fun tm=>g (.code none c ⟨tm,fn.ntmps⟩) s (fun e a s=>match e with
   | .exit _=>false
   | _=>ov X s fn a fun v=>k v s) wT) (Nat.ble n fn.ntmps)
  | none=>(yM s fn args).elim fun p=>fV p.1 fun v=>k v p.2
 | none=>false
def pb (g:CC) (l:Nat) (args:List Value) (s:St) (k:Value→St→Bool):Bool:=match s with
 | ⟨h,nx,cl⟩=>jN h l fun o=>match o with
  | some (.loop .ready _ t nt ps assign body _)=>DM args fun n=>Bool.rec (motive:=fun _=>Bool) false
   (ZV (ps.toList.zip args) t fun t=>g (.code (some l) assign ⟨t,nt⟩) ⟨h,nx,cl⟩ (fun e a s=>match e with
    | .normal=>match s with
     | ⟨h,nx,cl⟩=>jN h l fun o=>match o with
      | some (.loop .ready pend t nt ps aKe bd _)=>wW ⟨h,nx,cl⟩ l (fun v=>.loop .busy pend t nt ps aKe bd v) fun s=>g (.code (some l) body a) s (fun e _ s=>match s with
       | ⟨h,nx,cl⟩=>jN h l fun o=>match o with
        | some (.loop _ _ t nt ps aKe bd _)=>match e with
         | .normal=>wW ⟨h,nx,cl⟩ l (fun v=>.loop .ready none t nt ps aKe bd v) fun s=>k (.bool true) s
         | .ret=>wW ⟨h,nx,cl⟩ l (fun v=>.loop .done (some .ret) t nt ps aKe bd v) fun s=>k (.bool false) s
         | .exit id=>wW ⟨h,nx,cl⟩ l (fun v=>.loop .done (some (.exit id)) t nt ps aKe bd v) fun s=>k (.bool false) s
        | _=>false) wT
      | _=>false
    | _=>false) wT) (Nat.beq n ps.size)
  | _=>false
def aHq (X:Env) (g:CC) (m:Mode) (s:St) (kc:dL→aG→St→Bool) (kv:Value→St→Bool):Bool:=match m with
 | .code r c a=>SY X g r c a s kc
 | .call f args=>ar X g f args s kv
 | .round l args=>pb g l args s kv
def yU (X:Env) (n:Nat):CC:=Nat.rec (motive:=fun _=>CC) (fun _ _ _ _=>false) (fun _ g=>aHq X g) n
def ot (X:Env) (n:Nat) (m:Mode) (s:St) (kc:dL→aG→St→Bool) (kv:Value→St→Bool):Bool:=match m with
 | .code r c a=>(code X n r c a s).elim fun p=>kc p.1 p.2.1 p.2.2
 | .call f args=>(lV X n f args s).elim fun p=>kv p.1 p.2
 | .round l args=>(sO X n l args s).elim fun p=>kv p.1 p.2
theorem N_ (X:Env):∀ (n m s kc kv),yU X n m s kc kv=ot X n m s kc kv:=by
 intro n
 induction n with
 | zero=>intro m s kc kv;cases m <;> simp only[ot] <;> first | (rw[code];rfl) | (rw[lV];rfl) | (rw[sO];rfl)
 | succ n ih =>
  have hcode:∀ r c a s k,yU X n (.code r c a) s k wT=(code X n r c a s).elim fun p=>k p.1 p.2.1 p.2.2:=fun r c a s k=>ih _ _ _ _;have hcall:qC (lV X n) (au (yU X n)):=fun f args s k=>ih _ _ _ _;have hround:qC (sO X n) (roundOf (yU X n)):=fun f args s k=>ih _ _ _ _;have hcall':∀ f args s k,yU X n (.call f args) s KM k=(lV X n f args s).elim fun p=>k p.1 p.2:=fun f args s k=>ih _ _ _ _;intro m s kc kv;cases m with
  | code r c a =>
   show SY X (yU X n) r c a s kc=(code X (n+1) r c a s).elim fun p=>kc p.1 p.2.1 p.2.2;cases c with
   | region id ops draw =>
    rw[code,aS.AJ];cases draw with
    | false=>exact pe hcall hround _ _ _ _ _
    | true=>exact We hcall hround _ _ _ _
   | seq x y =>
    rw[code,aS.AJ];refine(hcode _ _ _ _ _).trans ?_;congr 1;funext p;rcases p with ⟨e,a,s⟩;cases e with
    | normal=>exact hcode _ _ _ _ _
    | _=>rfl
   | cond c x y =>
    rw[code];simp only[SY,hY];cases a.eval c with
    | bool b=>cases b with
     | true=>exact hcode _ _ _ _ _
     | false=>exact hcode _ _ _ _ _
    | _=>rfl
   | block id b =>
    rw[code,aS.AJ];refine(hcode _ _ _ _ _).trans ?_;congr 1;funext p;rcases p with ⟨e,a,s⟩;cases e with
    | exit i =>
     simp only;cases hb:Nat.beq i id with
     | true=>rw[if_pos (Nat.eq_of_beq_eq_true hb)];rfl
     | false=>rw[if_neg (Nat.ne_of_beq_eq_false hb)];rfl
    | _=>rfl
   | loop b =>
    rw[code,aS.AJ];refine(hcode _ _ _ _ _).trans ?_;congr 1;funext p;rcases p with ⟨e,a,s⟩;cases e with
    | normal=>exact hcode _ _ _ _ _
    | _=>rfl
   | rangeFunc f ps assign body =>
    rw[code];simp only[SY,hY];cases a.eval f with
    | func fn first captured =>
     cases fn with
     | func f =>
      simp only[aC1];by_cases hl:AZ r s=true
      ·rw[if_pos hl,hl];simp only[wE];rcases s with ⟨h,nx,cl⟩;rcases a with ⟨tm,nt⟩;simp only[FC,OV,aS.AJ,hcall',List.append_assoc];congr 1;funext p;rcases p with ⟨v,h',nx',cl'⟩;simp only[nS];cases h'.get nx with
       | none=>rfl
       | some o =>
        cases o with
        | loop st pend t nt' ps aKe bd v =>
         simp only;split
         ·rfl
         ·cases pend with
          | none=>simp only[PM];rfl
          | some c=>cases c <;> first | rfl | (simp only[PM];rfl)
        | _=>rfl
      ·rw[if_neg hl,Bool.eq_false_iff.2 hl];rfl
     | _=>rfl
    | _=>rfl
   | _=>rw[code];rfl
  | call f args =>
   show ar X (yU X n) f args s kv=(lV X (n+1) f args s).elim fun p=>kv p.1 p.2;rw[lV];unfold ar;cases X.fn f with
   | none=>rfl
   | some fn =>
    simp only;cases fn.body with
    | none=>simp only[CM]
    | some c =>
     simp only[GV,vK,hcode];cases hb:Nat.ble args.length fn.ntmps with
     | false =>
      rw[if_neg (fun h=>by rw[Nat.ble_eq_true_of_le h] at hb;cases hb)];rfl
     | true =>
      rw[if_pos (Nat.le_of_ble_eq_true hb),aS.AJ];refine congrArg (aS.elim _) (funext fun p=>?_);rcases p with ⟨e,a,s⟩;cases e with
      | exit i=>rfl
      | _ =>
       simp only[aFz];cases wX X s.look fn a <;> rfl
  | round l args =>
   show pb (yU X n) l args s kv=(sO X (n+1) l args s).elim fun p=>kv p.1 p.2;rw[sO];rcases s with ⟨h,nx,cl⟩;simp only[pb,nS];cases h.get l with
   | none=>rfl
   | some o =>
    cases o with
    | loop st pend t nt ps assign body v =>
     cases st with
     | ready =>
      simp only[GV,ub,hcode];cases hb:Nat.beq args.length ps.size with
      | false=>rw[if_neg (Nat.ne_of_beq_eq_false hb)];rfl
      | true =>
       rw[if_pos (Nat.eq_of_beq_eq_true hb),aS.AJ];refine congrArg (aS.elim _) (funext fun p=>?_);rcases p with ⟨e,a,h,nx,cl⟩;cases e with
       | normal =>
        dsimp only;cases h.get l with
        | none=>rfl
        | some o =>
         cases o with
         | loop st pend t nt ps aKe bd v =>
          cases st with
          | ready =>
           simp only[PM,aS.AJ];congr 1;funext p;rcases p with ⟨e,a,h,nx,cl⟩;dsimp only;cases h.get l with
           | none=>rfl
           | some o =>
            cases o with
            | loop st pend t nt ps aKe bd v=>cases e <;> rfl
            | _=>rfl
          | _=>rfl
         | _=>rfl
       | _=>rfl
     | _=>rfl
    | _=>rfl
def Fg (v:Value) (_:St):Bool:=match v with
 | .bool b=>b
 | _=>false
theorem aB5 {X:Env} {n:Nat} {f:FuncId} {args:List Value} {s:St} (h:yU X n (.call f args) s KM Fg=true):isTrue (lV X n f args s)=true:=by
 rw[N_] at h;simp only[ot] at h;cases hr:lV X n f args s with
 | ret p =>
  rcases p with ⟨v,s'⟩;rw[hr] at h;cases v with
  | bool b=>cases b with
   | true=>rfl
   | false=>cases h
  | _=>cases h
 | _=>rw[hr] at h;cases h
end Go.Dust
end
namespace Go.Dust
open Go.ChangeShapes Go.RowKit Go.WideShapes
def Sf (bL off:Nat):aP:=fun b=>if b%2=0 then some ⟨b/2,0,0,true⟩ else if b=1 then some ⟨bL,off,0,true⟩ else none
theorem VR.move {v u:Value} {bL off:Nat} (h:VR AB v u):VR (Sf bL off) v u:=by
 refine h.mono fun b l hb=>?_;unfold AB at hb;unfold Sf;split at hb
 ·rename_i he;rw[if_pos he];exact hb
 ·cases hb
end Go.Dust
noncomputable section
namespace Go.Dust
abbrev eE:=FuncId→List Value→St→Option (aS (Value×St))
mutual
def cH (X:Env) (K:eE):Nat→Option Nat→Code→aG→St→aS (dL×aG×St)
 | 0,_,_,_,_=>.fail "fuel"
 | n+1,r,c,a,s=>match c with
  | .skip=>.ret (.normal,a,s)
  | .label _=>.ret (.normal,a,s)
  | .region _ ops draw =>
   (if draw then uR X (eJ X K n) (gI X K n) ops a s else gP X (eJ X K n) (gI X K n) ops ops.toList a s).bind fun(a,s)=>.ret (.normal,a,s)
  | .seq x y=>(cH X K n r x a s).bind fun(e,a,s)=>match e with
   | .normal=>cH X K n r y a s
   | e=>.ret (e,a,s)
  | .cond c x y=>match a.eval c with
   | .bool true=>cH X K n r x a s
   | .bool false=>cH X K n r y a s
   | _=>.fail "cond"
  | .block id b=>(cH X K n r b a s).bind fun(e,a,s)=>match e with
   | .exit i=>if i=id then .ret (.normal,a,s) else .ret (e,a,s)
   | e=>.ret (e,a,s)
  | .loop b=>(cH X K n r b a s).bind fun(e,a,s)=>match e with
   | .normal=>cH X K n r (.loop b) a s
   | e=>.ret (e,a,s)
  | .exit id=>.ret (.exit id,a,s)
  | .ret=>.ret (.ret,a,s)
  | .rangeFunc g ps assign body=>match a.eval g with
   | .func (.func f) first captured =>
    if AZ r s then
    (eJ X K n f (first.toList++[.func (.yield s.next) #[] #[]]++captured.toList) (s.new fun v=>.loop .ready none a.tmps a.nt ps assign body v)).bind fun(_,s') =>
     match s'.heap.get s.next with
     | some (.loop st pend t nt ps aKe bd _) =>
      if st=.busy then .fail "rangeFunc: busy" else
      match pend with
      | none=>.ret (.normal,a,s'.put s.next fun v=>.loop .exhausted pend t nt ps aKe bd v)
      | some .ret=>.ret (.ret,a,s'.put s.next fun v=>.loop .exhausted pend t nt ps aKe bd v)
      | some (.exit id)=>.ret (.exit id,a,s'.put s.next fun v=>.loop .exhausted pend t nt ps aKe bd v)
      | some _=>.fail "rangeFunc: pending"
     | _=>.fail "rangeFunc: record"
    else .fail "rangeFunc: round"
   | _=>.fail "rangeFunc: no function"
  | .scope _=>.fail "scope"
  | .goto _=>.fail "goto"
  | .refuse w=>.fail ("refuse "++w)
def eJ (X:Env) (K:eE):Nat→FuncId→List Value→St→aS (Value×St)
 | 0,_,_,_=>.fail "fuel"
 | n+1,f,args,s=>match K f args s with
  | some r=>r
  | none=>match X.fn f with
   | some fn=>match fn.body with
    | some c =>
     if args.length≤fn.ntmps then
     (cH X K n none c {tmps:=PT.ofList args,nt:=fn.ntmps} s).bind fun(e,a,s)=>match e with
      | .exit _=>.fail "call: exit"
      | _=>match wX X s.look fn a with
       | some v=>.ret (v,s)
       | none=>.fail "results"
     else .fail "too many arguments"
    | none=>yM s fn args
   | none=>.fail "no function"
def gI (X:Env) (K:eE):Nat→Nat→List Value→St→aS (Value×St)
 | 0,_,_,_=>.fail "fuel"
 | n+1,l,args,s=>match s.heap.get l with
  | some (.loop .ready _ t nt ps assign body _) =>
   if args.length=ps.size then
   (cH X K n (some l) assign {tmps:=tR t (ps.toList.zip args),nt} s).bind fun(e,a,s)=>match e with
    | .normal=>match s.heap.get l with
     | some (.loop .ready pend t nt ps aKe bd _) =>
      (cH X K n (some l) body a (s.put l fun v=>.loop .busy pend t nt ps aKe bd v)).bind fun(e,_,s)=>match s.heap.get l with
       | some (.loop _ _ t nt ps aKe bd _) =>
        match e with
        | .normal=>.ret (.bool true,s.put l fun v=>.loop .ready none t nt ps aKe bd v)
        | .ret=>.ret (.bool false,s.put l fun v=>.loop .done (some .ret) t nt ps aKe bd v)
        | .exit id=>.ret (.bool false,s.put l fun v=>.loop .done (some (.exit id)) t nt ps aKe bd v)
       | _=>.fail "round: record"
     | _=>.fail "round: record"
    | _=>.fail "round: assign"
   else .fail "round: arguments"
  | _=>.fail "round: not ready"
end
structure FA (P:Program) (K:eE):Prop where
 zm:∀ f args s r,K f args s=some r→r.Lv fun p=>dN s p.2
 fn:∀ f args s r,K f args s=some r→∃ fn,(env P).fn f=some fn∧fn.body.isSome=true
 calls:∀ f args (args':Array Value) s r w ι Φ,K f args s=some r→r.iF Φ→bQ ι args args'.toList→RS P ι s w→Calls P f args' w (IE P ι s w Φ)
section
variable {X:Env} {K:eE}
theorem cj (hK:∀ f args s r,K f args s=some r→r.Lv fun p=>dN s p.2):∀ n:Nat,(∀ r c a s,(cH X K n r c a s).Lv fun p=>dN s p.2.2)∧nA (eJ X K n)∧nA (gI X K n)
 | 0=>⟨fun _ _ _ _=>trivial,fun _ _ _=>trivial,fun _ _ _=>trivial⟩
 | n+1=>by
  obtain⟨h1,h2,h3⟩:=cj hK n;refine⟨?_,?_,?_⟩
  ·intro r c a s;unfold cH;split
   ·exact .refl _
   ·exact .refl _
   ·rw[aS.oQ];split
    ·exact(zo h2 h3 a s).mono fun _ hp=>hp
    ·exact(TE h2 h3 _ a s).mono fun _ hp=>hp
   ·rw[aS.oQ];refine(h1 _ _ a s).mono fun p hp=>?_;obtain⟨e,a',s'⟩:=p;cases e
    ·exact(h1 _ _ a' s').mono fun q hq=>hp.trans hq
    ·exact hp
    ·exact hp
   ·split
    ·exact h1 _ _ _ _
    ·exact h1 _ _ _ _
    ·trivial
   ·rw[aS.oQ];refine(h1 _ _ a s).mono fun p hp=>?_;obtain⟨e,a',s'⟩:=p;cases e
    ·exact hp
    ·simp only;split <;> exact hp
    ·exact hp
   ·rw[aS.oQ];refine(h1 _ _ a s).mono fun p hp=>?_;obtain⟨e,a',s'⟩:=p;cases e
    ·exact(h1 _ _ a' s').mono fun q hq=>hp.trans hq
    ·exact hp
    ·exact hp
   ·exact .refl _
   ·exact .refl _
   ·split
    ·split;rotate_left
     ·trivial
     rw[aS.oQ];refine(h2 _ _ _).mono fun p hp=>?_;obtain⟨v,s'⟩:=p;have h0:dN s s':=dN.trans (.new fun _=>.inr ⟨rfl,rfl⟩) hp;simp only;split
     ·split
      ·trivial
      ·split
       ·exact h0.trans (.put (fun _=>.inr ⟨rfl,rfl⟩) (.inr (.inl ⟨_,by assumption,rfl⟩)))
       ·exact h0.trans (.put (fun _=>.inr ⟨rfl,rfl⟩) (.inr (.inl ⟨_,by assumption,rfl⟩)))
       ·exact h0.trans (.put (fun _=>.inr ⟨rfl,rfl⟩) (.inr (.inl ⟨_,by assumption,rfl⟩)))
       ·trivial
     ·trivial
    ·trivial
   ·trivial
   ·trivial
   ·trivial
  ·intro f args s;unfold eJ;split
   ·rename_i r hr;exact hK f args s r hr
   split
   ·split
    ·split
     ·rw[aS.oQ];refine(h1 _ _ _ s).mono fun p hp=>?_;obtain⟨e,a',s'⟩:=p;simp only;split
      ·trivial
      ·split
       ·exact hp
       ·trivial
     ·trivial
    ·exact zq _ _ _
   ·trivial
  ·intro l args s;unfold gI;split
   ·split
    ·rw[aS.oQ];refine(h1 _ _ _ s).mono fun p hp=>?_;obtain⟨e,a',s'⟩:=p;simp only;split
     ·split
      ·rw[aS.oQ];refine(h1 _ _ _ _).mono fun q hq=>?_;obtain⟨e2,a2,s2⟩:=q;have h0:dN s s2:=hp.trans (dN.trans (.put (fun _=>.inr ⟨rfl,rfl⟩) (.inr (.inl ⟨_,by assumption,rfl⟩))) hq);simp only
       (repeat' split) <;> first
        | trivial
        | exact h0.trans (.put (fun _=>.inr ⟨rfl,rfl⟩) (.inr (.inl ⟨_,by assumption,rfl⟩)))
      ·trivial
     ·trivial
    ·trivial
   ·trivial
end
section
variable {P:Program} {K:eE} {ι ι':aP} {s s':St} {w w':World}
theorem aG9 {n:Nat} (hC:uI P (cH (env P) K n)):uL P (gI (env P) K (n+1)):=by
 intro l args args' s w ι Φ r m h ha hR;unfold gI at h;split at h
 ·rename_i pend0 t nt ps assign body aT hl;split at h
  ·rename_i hlen;obtain⟨loc,rec,h1,hrec,hst,hpe,hpa,has,hbd,hsz,hval,hoka,hokb,hokp,_⟩:=zJ hR hl;refine⟨loc,rec,h1,hrec,?_,?_⟩
   ·rw[hpa,← hlen,ha.length];simp
   ·refine roundIn_of_wpIn (F:=FW r) trivial ?_;rw[has,hbd];have hA:AR ι {tmps:=tR t (ps.toList.zip args),nt} {tmps:=(rec.params.zip args').foldl (fun tmps (p:Tmp×Value)=>tmps.setIfInBounds p.1 p.2) rec.tmps,defers:=[]}:=by
     have:=AR.args (ι:=ι) (a:={tmps:=t,nt}) (act:={tmps:=rec.tmps,defers:=[]}) ps.toList t rec.tmps ha hokp ⟨hsz,hval⟩;rw[hpa,← Array.foldl_toList,Array.toList_zip];exact this
    rw[aS.oP] at h;refine hC (some l) assign _ s _ w ι _ (some loc.bL) m 0 _ hoka h hA hR (DL.nil _ _) ⟨loc,h1,rfl⟩ (Nat.zero_le _) ?_;intro e a1 s1 act1 w1 ι1 hΦ har1 hR1 hE1 hnt1 hdl1;cases e with
    | exit=>exact hΦ.elim
    | ret=>exact hΦ.elim
    | normal =>
     simp only at hΦ;split at hΦ
     ·rename_i pend1 t1 nt1 ps1 as1 bd1 ver1 hl1;obtain⟨loc1,rec1,k1,krec,kst,kpe,kpa,kas,kbd,ksz,kval,koka,kokb,kokp,kput⟩:=zJ hR1 hl1;have:loc1=loc:=by have:=hE1.le l loc h1;rw[this] at k1;cases k1;rfl
      subst this;refine⟨_,run_beginRound krec kst,?_⟩;obtain⟨kR,kE⟩:=kput .busy pend1;have e1:({rec1 with state:=.busy,pending:=pend1}:Loop)={rec1 with state:=.busy}:=by rw[← kpe]
      rw[e1] at kR kE;rw[aS.oP] at hΦ;refine hC (some l) body a1 _ act1 _ ι1 _ (some loc1.bL) m 0 _ (by rw[hnt1];exact hokb) hΦ har1 kR (hdl1.ext kE) ⟨loc1,k1,rfl⟩ (Nat.zero_le _) ?_;intro e2 a2 s2 act2 w2 ι2 hΦ2 har2 hR2 hE2 hnt2 hdl2;simp only at hΦ2;split at hΦ2
      ·rename_i st3 pend3 t3 nt3 ps3 as3 bd3 ver3 hl3;obtain⟨loc3,rec3,q1,qrec,qst,qpe,qpa,qas,qbd,qsz,qval,qoka,qokb,qokp,qput⟩:=zJ hR2 hl3;have:loc3=loc1:=by have:=hE2.le l loc1 k1;rw[this] at q1;cases q1;rfl
       subst this;cases e2 with
       | normal =>
        obtain⟨qR,qE⟩:=qput .ready none;exact⟨_,_,run_endRound none qrec,.bool true,.bool true,_,ι2,rfl,hΦ2,.bool _,qR,Ext.trans hE1 (Ext.trans kE (Ext.trans hE2 qE))⟩
       | ret =>
        obtain⟨qR,qE⟩:=qput .done (some .ret);exact⟨_,_,run_endRound (some .ret) qrec,.bool false,.bool false,_,ι2,rfl,hΦ2,.bool _,qR,Ext.trans hE1 (Ext.trans kE (Ext.trans hE2 qE))⟩
       | exit id =>
        obtain⟨qR,qE⟩:=qput .done (some (.exit id));exact⟨_,_,run_endRound (some (.exit id)) qrec,.bool false,.bool false,_,ι2,rfl,hΦ2,.bool _,qR,Ext.trans hE1 (Ext.trans kE (Ext.trans hE2 qE))⟩
      ·exact hΦ2.elim
     ·exact hΦ.elim
  ·exact h.elim
 ·exact h.elim
theorem Ul (hK:FA P K) {n:Nat} (hC:uI P (cH (env P) K n)):qX P (eJ (env P) K (n+1)):=by
 refine⟨?_,?_⟩
 ·intro f args s Φ h;unfold eJ at h;split at h
  ·rename_i r hr;obtain⟨fn,h1,h2⟩:=hK.fn f args s r hr;exact⟨fn,h1,fun h3=>by rw[h3] at h2;cases h2⟩
  split at h
  ·rename_i fn hf;refine⟨fn,hf,fun hb=>?_⟩;rw[hb] at h;exact h
  ·exact h.elim
 ·intro f fn args args' s w ι Φ r0 m hf hb h ha hR;obtain⟨c,hc⟩:=Option.isSome_iff_exists.1 hb;unfold eJ at h;split at h
  ·rename_i r hr;exact callsIn_wide.2 (hK.calls f args args' s r w ι Φ hr h ha hR)
  rw[hf] at h;simp only[hc] at h;split at h
  ·rename_i hle;obtain⟨h1,h2⟩:=JD hf;unfold BF at h2;rw[hc] at h2;simp only[Bool.and_eq_true] at h2;obtain⟨⟨_,hok⟩,hres⟩:=h2;rw[aS.oP] at h;show CallsIn (FW none) m P f args' w _;refine callsIn_of_wp_marks h1 hc trivial ?_ rfl;refine hC none c _ s _ w ι _ none m w.heap.size _ hok h (AR.start ha hle) hR (DL.nil _ _) trivial (Nat.le_refl _) ?_;intro e a' s' act' w' ι' hΦ har hR' hE hnt hdl;have key:∀ v,wX (env P) s'.look fn a'=some v→Φ (v,s')→LeavesInM (FW none) m P fn act'.tmps (IE P ι s w Φ) act'.defers .returning w':=by
    intro v hv hφ;refine jq _ w' hR' hE (Nat.le_refl _) hdl ?_;intro w'' hR'' hE'';obtain⟨u,g1,g2⟩:=Lg har hR'' (by rw[hnt];exact hres) hv;exact⟨u,g1,v,u,s',ι',rfl,hφ,g2,hR'',hE''⟩
   cases e with
   | exit=>exact hΦ.elim
   | normal =>
    simp only at hΦ;split at hΦ
    ·exact key _ (by assumption) hΦ
    ·exact hΦ.elim
   | ret =>
    simp only at hΦ;split at hΦ
    ·exact key _ (by assumption) hΦ
    ·exact hΦ.elim
  ·exact h.elim
theorem Hc {n:Nat} (hC:uI P (cH (env P) K n)) (hL:CD P (cH (env P) K n) n):CD P (cH (env P) K (n+1)) (n+1):=by
 intro r b a s act w ι Φ r' m lo Q hok h ha hR hdl hr hlo hQ;rw[roundsIn_succ];unfold cH at h;simp only at h;rw[aS.oP] at h;refine hC r b a s act w ι _ r' m lo _ hok h ha hR hdl hr hlo ?_;intro e a' s' act' w' ι' hΦ har hR' hE hnt hdl';cases e with
 | normal =>
  refine hL r b a' s' act' w' ι' Φ r' m lo Q (by rw[hnt];exact hok) hΦ har hR' hdl' (hr.mono hE.le) (Nat.le_trans hlo hE.size) ?_;rw[hnt];exact hQ.next hE (fun _ h=>h) (fun _ _ _ h=>h)
 | exit id=>exact hQ _ _ _ _ _ _ hΦ har hR' hE hnt hdl'
 | ret=>exact hQ _ _ _ _ _ _ hΦ har hR' hE hnt hdl'
theorem aF0 {n:Nat} (hc:qX P (eJ (env P) K n)) {r:Option Nat} {g:Operand} {ps:Array Tmp} {assign body:Code} {a:aG} {act:Act} {Φ:dL×aG×St→Prop} {r':Option Nat} {m lo:Nat} {Q:Exit→Act→World→Prop}
  (hok:fK a.nt (.rangeFunc g ps assign body)=true) (h:(cH (env P) K (n+1) r (.rangeFunc g ps assign body) a s).iF Φ) (ha:AR ι a act) (hR:RS P ι s w) (hdl:DL lo ι s.look w act.defers) (hr:CE ι r r') (hlo:lo≤w.heap.size)
  (hQ:EX P ι s w a.nt lo Φ Q):(Code.rangeFunc g ps assign body).wpIn (FW r') m P Q act w:=by
 simp only[fK,Bool.and_eq_true] at hok;obtain⟨⟨⟨hokg,hokp⟩,hoka⟩,hokb⟩:=hok;unfold cH at h;simp only at h;split at h
 ·rename_i f first captured hg;split at h
  ·rename_i hlive;have hv:=ha.eval hR.even hokg;rw[hg] at hv;obtain⟨a',c',hg',hf1,hf2⟩:=hv.TY;refine wpIn_rangeFunc fun fid _=>?_;obtain⟨mark,w0,rec,henter,hR0,hE0,hsz0,hrec,hmark⟩:∃ (mark:List Deferred) (w0:World) (rec:Loop),
     (Instr.enterLoop fid act.tmps ps assign body (FW r').round).run P w=.ok (w0.heap.size,mark) (w0.alloc (.loop rec))∧RS P ι s w0∧ES ι s w ι s w0∧lo≤w0.heap.size ∧
     (rec.state=.ready∧rec.pending=none∧rec.params=ps∧rec.assign=assign∧rec.body=body∧rec.tmps=act.tmps)∧DL lo ι s.look w0 (mark++act.defers):=by
    cases r' with
    | none =>
     refine⟨[{target:=.collected w.heap.size,args:=#[]}],w.alloc (.deferred (some [])),{state:=.ready,pending:=none,fn:=fid,tmps:=act.tmps,params:=ps,assign,body,defers:=w.heap.size},?_,hR.raw _,Ext.raw _,by simp;omega,?_,?_⟩
     ·exact(run_enterLoop_outer fid act.tmps ps assign body).trans (by rw[World.size_alloc])
     ·exact⟨rfl,rfl,rfl,rfl,rfl,rfl⟩
     ·have hd2:=hdl.ext (Ext.raw (ι:=ι) (H:=s.look) (n:=s.next) (w:=w) (.deferred (some [])));refine⟨⟨?_,?_⟩,?_⟩
      ·intro d hd;rcases List.mem_cons.1 hd with rfl | hd
       ·exact⟨w.heap.size,rfl,heap_alloc_new,Iw (x:=some []) (hR.raw (.deferred (some []))) heap_alloc_new⟩
       ·exact hd2.1.mark d hd
      ·refine List.pairwise_cons.2 ⟨?_,hd2.1.apart⟩;intro d hd D hD hd3;cases hD;obtain⟨D',rfl,k2,_⟩:=hdl.1.mark d hd;cases hd3;have:=iO k2;omega
      ·intro d hd D hD;rcases List.mem_cons.1 hd with rfl | hd
       ·cases hD;exact hlo
       ·exact hd2.2 d hd D hD
    | some b =>
     cases r with
     | none=>exact hr.elim
     | some l =>
      obtain⟨loc,hl1,rfl⟩:=hr;unfold AZ at hlive;simp only at hlive;split at hlive
      ·rename_i hll;obtain⟨loc1,rec1,k1,krec,_⟩:=zJ hR hll;rw[hl1] at k1;cases k1;exact⟨[],w,{state:=.ready,pending:=none,fn:=fid,tmps:=act.tmps,params:=ps,assign,body,defers:=rec1.defers},run_enterLoop_inner krec fid act.tmps ps assign body,hR,Ext.refl,hlo,⟨rfl,rfl,rfl,rfl,rfl,rfl⟩,hdl⟩
      ·cases hlive
   obtain⟨e1,e2,e3,e4,e5,e6⟩:=hrec;have hfree:ι s.next=none:=hR.fresh _ (Nat.le_refl _) hR.jZ;have hle:=aP.sM (l:=⟨w0.heap.size,0,0,false⟩) hfree;obtain⟨hR1,hE1⟩:=RS.new (ex:=0) hR0 (.loop rec) (f:=fun v=>.loop .ready none a.tmps a.nt ps assign body v)
    ⟨rfl,rfl,rfl,hoka,hokb,hokp,rec,heap_alloc_new,e1,e2,e3,e4,e5,by rw[e6];exact ha.size,fun i hi=>by rw[e6];exact(ha.val i hi).mono hle⟩
   have hnew:(ι.add s.next ⟨w0.heap.size,0,0,false⟩) s.next=some ⟨w0.heap.size,0,0,false⟩:=aP.add_same _ _ _;rw[aS.oP] at h;have hargs:bQ (ι.add s.next ⟨w0.heap.size,0,0,false⟩) (first.toList++[Value.func (.yield s.next) #[] #[]]++captured.toList) (a'++#[Value.func (.yield w0.heap.size) #[] #[]]++c').toList:=by
    simp only[Array.toList_append];exact((hf1.mono hle).append (bQ.cons (VR.yield hnew) bQ.nil)).append (hf2.mono hle)
   obtain⟨fn,hfn,hext⟩:=hc.fn f _ _ _ h;have hbody:fn.body.isSome=true:=by
    cases hb:fn.body with
    | some c=>rfl
    | none =>
     exfalso;have hx:=hext hb;unfold yM at hx;split at hx
     ·split at hx
      ·rename_i t b heq;have h1:(Value.func (.yield s.next) #[] #[])∈first.toList++[Value.func (.yield s.next) #[] #[]]++captured.toList:=by simp
       rw[heq] at h1;simp at h1
      ·exact hx.elim
     ·exact hx.elim
   refine⟨w0.heap.size,mark,w0.alloc (.loop rec),{target:=.fn (.func f) c',args:=a'++#[.func (.yield w0.heap.size) #[] #[]]},w0.alloc (.loop rec),f,a'++#[.func (.yield w0.heap.size) #[] #[]]++c',w0.alloc (.loop rec),
    henter,?_,fun _ _=>trivial,?_,?_,?_⟩
   ·have harg:(#[Operand.const (.func (.yield w0.heap.size) #[] #[])].map act.eval)=#[Value.func (.yield w0.heap.size) #[] #[]]:=by simp[Act.eval]
    simp only[resolve,hg',Deferred.ofValue,Sem.run_pure,harg]
   ·show (callFunc f _).run P _=_;exact pf hfn hbody _
   ·intro hh;cases hh
   ·refine(hc.calls f fn _ _ _ _ _ _ r' (m-1) hfn hbody h hargs hR1).mono ?_;rintro e w3 ⟨v,u,s3,ι3,rfl,hΦ,hvu,hR3,hE3⟩;have hA3:∀ ds,AR ι3 a {act with defers:=ds}:=fun ds=>⟨ha.size,fun t ht=>(ha.val t ht).mono (aP.le_trans hle hE3.le)⟩;simp only at hΦ;split at hΦ
    ·rename_i st pend t nt ps3 as3 bd3 aT hl3;obtain⟨loc3,rec3,q1,qrec,qst,qpe,qpa,qas,qbd,qsz,qval,qoka,qokb,qokp,qput⟩:=zJ hR3 hl3;have:loc3=⟨w0.heap.size,0,0,false⟩:=by have:=hE3.le _ _ hnew;rw[this] at q1;cases q1;rfl
     subst this;split at hΦ
     ·exact hΦ.elim
     ·rename_i hbusy;obtain⟨qR,qE⟩:=qput .exhausted pend;have hEall:=Ext.trans hE0 (Ext.trans hE1 (Ext.trans hE3 qE));have hD:=(hmark.ext hE1).ext (Ext.trans hE3 qE);refine⟨rec3.pending,_,run_endLoop qrec (by rw[qst];exact hbusy),?_⟩;rw[qpe];split at hΦ
      ·exact hQ .normal a _ _ _ _ hΦ (hA3 _) qR hEall rfl hD
      ·exact wpIn_ret (hQ .ret a _ {act with defers:=mark++act.defers} _ _ hΦ (hA3 _) qR hEall rfl hD)
      ·exact wpIn_exit (hQ (.exit _) a _ {act with defers:=mark++act.defers} _ _ hΦ (hA3 _) qR hEall rfl hD)
      ·exact hΦ.elim
    ·exact hΦ.elim
  ·exact h.elim
 ·exact h.elim
theorem Vf (hD:MF P) (hK:FA P K) {n:Nat} (hC:uI P (cH (env P) K n)) (hL:CD P (cH (env P) K n) n) (hc:qX P (eJ (env P) K n)) (hr:uL P (gI (env P) K n)):uI P (cH (env P) K (n+1)):=by
 intro r c a s act w ι Φ r' m lo Q hok h ha hR hdl hrd hlo hQ;cases c with
 | rangeFunc g ps aKe bd=>exact aF0 hc hok h ha hR hdl hrd hlo hQ
 | loop b=>exact wpIn_loop_rounds (n+1) (Hc hC hL r b a s act w ι Φ r' m lo Q hok h ha hR hdl hrd hlo hQ)
 | skip=>unfold cH at h;exact wpIn_skip (hQ .normal a s act w ι h ha hR Ext.refl rfl hdl)
 | label l=>unfold cH at h;exact wpIn_label (hQ .normal a s act w ι h ha hR Ext.refl rfl hdl)
 | exit id=>unfold cH at h;exact wpIn_exit (hQ (.exit id) a s act w ι h ha hR Ext.refl rfl hdl)
 | ret=>unfold cH at h;exact wpIn_ret (hQ .ret a s act w ι h ha hR Ext.refl rfl hdl)
 | scope=>unfold cH at h;exact h.elim
 | goto=>unfold cH at h;exact h.elim
 | refuse=>unfold cH at h;exact h.elim
 | region id ops draw =>
  simp only[fK,Bool.and_eq_true] at hok;unfold cH at h;simp only at h;rw[aS.oP] at h;cases draw with
  | true =>
   simp only[if_true] at h;obtain⟨e1,e2,e3⟩:=cj (X:=env P) hK.zm n;refine hD _ _ hc hr e2 e3 id ops a s act w ι _ r' m Q hok.1 (by simpa using hok.2) h ha hR ?_;intro a' s' act' w' ι' h1 h2 h3 h4 h5 h6;exact hQ .normal a' s' act' w' ι' h1 h2 h3 h4 h5 (by rw[h6];exact hdl.ext h4)
  | false =>
   simp only[Bool.false_eq_true,if_false] at h;refine wpIn_region ?_;rw[List.range_eq_range'];have:=XY (r:=r') (m:=m) hc hr (ops:=ops) (Q:=Q) ops.toList 0 (fun j=>by simp) a s act w ι _ hok.1 h ha hR ?_
   ·simpa using this
   ·intro a' s' act' w' ι' h1 h2 h3 h4 h5 h6;exact hQ .normal a' s' act' w' ι' h1 h2 h3 h4 h5 (by rw[h6];exact hdl.ext h4)
 | seq x y =>
  simp only[fK,Bool.and_eq_true] at hok;unfold cH at h;simp only at h;rw[aS.oP] at h;refine wpIn_seq (hC r x a s act w ι _ r' m lo _ hok.1 h ha hR hdl hrd hlo ?_);intro e a' s' act' w' ι' hΦ har hR' hE hnt hdl';cases e with
  | normal =>
   refine hC r y a' s' act' w' ι' Φ r' m lo Q (by rw[hnt];exact hok.2) hΦ har hR' hdl' (hrd.mono hE.le) (Nat.le_trans hlo hE.size) ?_;rw[hnt];exact hQ.next hE (fun _ h=>h) (fun _ _ _ h=>h)
  | exit id=>exact hQ _ _ _ _ _ _ hΦ har hR' hE hnt hdl'
  | ret=>exact hQ _ _ _ _ _ _ hΦ har hR' hE hnt hdl'
 | cond c x y =>
  simp only[fK,Bool.and_eq_true] at hok;unfold cH at h;simp only at h;have hv:=ha.eval hR.even hok.1.1;split at h
  ·rename_i hc';rw[hc'] at hv;exact wpIn_cond_true hv.tD (hC r x a s act w ι Φ r' m lo Q hok.1.2 h ha hR hdl hrd hlo hQ)
  ·rename_i hc';rw[hc'] at hv;exact wpIn_cond_false hv.tD (hC r y a s act w ι Φ r' m lo Q hok.2 h ha hR hdl hrd hlo hQ)
  ·exact h.elim
 | block id b =>
  simp only[fK] at hok;unfold cH at h;simp only at h;rw[aS.oP] at h;refine wpIn_block (hC r b a s act w ι _ r' m lo _ hok h ha hR hdl hrd hlo ?_);intro e a' s' act' w' ι' hΦ har hR' hE hnt hdl';cases e with
  | normal=>exact hQ .normal _ _ _ _ _ hΦ har hR' hE hnt hdl'
  | ret=>exact hQ .ret _ _ _ _ _ hΦ har hR' hE hnt hdl'
  | exit i =>
   simp only at hΦ;show if i=id then Q .normal act' w' else Q (.exit i) act' w';split at hΦ
   ·rename_i e;rw[if_pos e];exact hQ .normal _ _ _ _ _ hΦ har hR' hE hnt hdl'
   ·rename_i e;rw[if_neg e];exact hQ (.exit i) _ _ _ _ _ hΦ har hR' hE hnt hdl'
theorem tw (hD:MF P) (hK:FA P K):∀ n,uI P (cH (env P) K n)∧CD P (cH (env P) K n) n∧qX P (eJ (env P) K n)∧uL P (gI (env P) K n)
 | 0=>by
  refine⟨?_,?_,⟨?_,?_⟩,?_⟩
  ·intro r c a s act w ι Φ r' m lo Q _ h;unfold cH at h;exact h.elim
  ·intro r b a s act w ι Φ r' m lo Q _ h;unfold cH at h;exact h.elim
  ·intro f args s Φ h;unfold eJ at h;exact h.elim
  ·intro f fn args args' s w ι Φ r m _ _ h;unfold eJ at h;exact h.elim
  ·intro l args args' s w ι Φ r m h;unfold gI at h;exact h.elim
 | n+1=>by
  obtain⟨h1,h2,h3,h4⟩:=tw hD hK n;exact⟨Vf hD hK h1 h2 h3 h4,Hc h1 h2,Ul hK h1,aG9 h1⟩
end
end Go.Dust
end
namespace Go.Dust
inductive aS.le {α:Type}:aS α→aS α→Prop
 | fail (w:String) (y:aS α):le (.fail w) y
 | ret (a:α):le (.ret a) (.ret a)
 | ask (n:Nat) (k k':Nat→aS α) (h:∀ i,le (k i) (k' i)):le (.ask n k) (.ask n k')
namespace aS
variable {α β:Type}
theorem le.refl:∀ x:aS α,le x x
 | .fail w=>.fail w _
 | .ret a=>.ret a
 | .ask n k=>.ask n k k fun i=>le.refl (k i)
theorem le.trans {x y z:aS α} (h:le x y) (k:le y z):le x z:=by
 induction h generalizing z with
 | fail w y=>exact .fail w _
 | ret a=>exact k
 | ask n k1 k2 h ih =>
  cases k with
  | ask n k2 k3 h'=>exact .ask n _ _ fun i=>ih i (h' i)
theorem le.bind {x y:aS α} {f g:α→aS β} (h:le x y) (hf:∀ a,le (f a) (g a)):le (x.bind f) (y.bind g):=by
 induction h with
 | fail w y=>exact .fail w _
 | ret a=>exact hf a
 | ask n k k' h ih=>exact .ask n _ _ ih
theorem le.all {Φ:α→Prop} {x y:aS α} (h:le x y) (hx:x.iF Φ):y.iF Φ:=by
 induction h with
 | fail w y=>exact hx.elim
 | ret a=>exact hx
 | ask n k k' h ih=>exact fun i hi=>ih i (hx i hi)
end aS
def AX (c c':fZ):Prop:=∀ f args s,aS.le (c f args s) (c' f args s)
def AY (r r':gM):Prop:=∀ l args s,aS.le (r l args s) (r' l args s)
theorem jo {α:Type} {b:Prop} [Decidable b] {x y x' y':aS α} (h:aS.le x x') (k:aS.le y y'):aS.le (if b then x else y) (if b then x' else y'):=by
 split
 ·exact h
 ·exact k
section
variable {X:Env} {K:eE} {c c':fZ} {r r':gM}
theorem aw (hc:AX c c') (hr:AY r r') (s f args):aS.le (oC X c r s f args) (oC X c' r' s f args):=by
 unfold oC;split
 ·exact hc _ _ _
 ·exact hr _ _ _
 ·split
  ·split
   ·exact hc _ _ _
   ·exact .refl _
  ·exact .refl _
 ·exact .refl _
theorem yq (hc:AX c c') (hr:AY r r') (s ρ op):aS.le (eX X c r s ρ op) (eX X c' r' s ρ op):=by
 cases op with
 | call cl =>
  simp only[eX];cases cl.callee with
  | value f=>exact aw hc hr _ _ _
  | invoke x name =>
   simp only;split
   ·split
    ·exact hc _ _ _
    ·exact .refl _
   ·exact .refl _
  | builtin b=>cases b <;> exact .refl _
 | _=>exact .refl _
theorem Xj (hc:AX c c') (hr:AY r r') (s ρ op):aS.le (lX X c r s ρ op) (lX X c' r' s ρ op):=by
 unfold lX;cases dP op with
 | effect=>exact yq hc hr _ _ _
 | _=>exact .refl _
theorem XX (hc:AX c c') (hr:AY r r') (ops):∀ l a s,aS.le (gP X c r ops l a s) (gP X c' r' ops l a s)
 | [],_,_=>.refl _
 | o::l,a,s=>by
  rw[gP,gP];split
  ·exact(Xj hc hr _ _ _).bind fun p=>XX hc hr ops l _ _
  ·exact XX hc hr ops l _ _
theorem Xm (hc:AX c c') (hr:AY r r') {nm s ρ op x} (h:lK X c r nm s ρ op=some x):lK X c' r' nm s ρ op=some x:=by
 unfold lK at h ⊢;cases hk:dP op with
 | effect =>
  rw[hk] at h;simp only at h ⊢;have hle:=yq (X:=X) hc hr s ρ op;revert h hle;generalize eX X c r s ρ op=u;generalize eX X c' r' s ρ op=w;intro h hle;cases hle with
  | fail w y=>cases h
  | ret a=>exact h
  | ask n k k' hh=>cases h
 | _=>rw[hk] at h;exact h
theorem WB (hc:AX c c') (hr:AY r r') (ops base):∀ l i a s x,eP X c r ops base l i a s=some x→eP X c' r' ops base l i a s=some x
 | [],_,_,_,_,h=>h
 | o::l,i,a,s,x,h=>by
  rw[eP] at h ⊢;split at h
  ·rename_i hw;rw[if_pos hw];cases he:lK X c r (base+2*i) s a.eval o.op with
   | none=>rw[he] at h;cases h
   | some p =>
    rw[he] at h;rw[Xm hc hr he];simp only at h ⊢;cases hl:eP X c r ops base l (i+1) (a.put o.dst p.1) p.2 with
    | none=>rw[hl] at h;cases h
    | some q =>
     rw[hl] at h;rw[WB hc hr ops base l _ _ _ _ hl];exact h
  ·rename_i hw;rw[if_neg hw];cases hl:eP X c r ops base l (i+1) (a.put o.dst undef) s with
   | none=>rw[hl] at h;cases h
   | some q =>
    rw[hl] at h;rw[WB hc hr ops base l _ _ _ _ hl];exact h
theorem Wd (hc:AX c c') (hr:AY r r') (ops a s):aS.le (uR X c r ops a s) (uR X c' r' ops a s):=by
 unfold uR;cases rZ ops with
 | none=>exact .refl _
 | some cf =>
  simp only;cases hl:eP X c r ops s.next ops.toList 0 a {heap:=s.heap,next:=s.next+2*ops.size,aO:=s.aO} with
  | none=>exact .fail _ _
  | some q =>
   rw[WB hc hr ops _ _ _ _ _ _ hl];exact .refl _
end
theorem CX (X:Env) (K:eE):∀ n,(∀ r c a s,aS.le (cH X K n r c a s) (cH X K (n+1) r c a s))∧AX (eJ X K n) (eJ X K (n+1))∧AY (gI X K n) (gI X K (n+1)):=by
 intro n
 induction n with
 | zero =>
  refine⟨fun r c a s=>?_,fun f args s=>?_,fun l args s=>?_⟩
  ·rw[cH];exact .fail _ _
  ·rw[eJ];exact .fail _ _
  ·rw[gI];exact .fail _ _
 | succ n ih =>
  obtain⟨ic,ik,ir⟩:=ih;refine⟨fun r c a s=>?_,fun f args s=>?_,fun l args s=>?_⟩
  ·cases c with
   | region id ops draw =>
    rw[cH,cH];refine aS.le.bind ?_ fun p=>.refl _;cases draw with
    | false=>exact XX ik ir _ _ _ _
    | true=>exact Wd ik ir _ _ _
   | seq x y =>
    rw[cH,cH];refine(ic _ _ _ _).bind fun p=>?_;rcases p with ⟨e,a,s⟩;cases e with
    | normal=>exact ic _ _ _ _
    | _=>exact .refl _
   | cond cnd x y =>
    rw[cH,cH];cases a.eval cnd with
    | bool b=>cases b <;> exact ic _ _ _ _
    | _=>exact .refl _
   | block id b =>
    rw[cH,cH];exact(ic _ _ _ _).bind fun p=>.refl _
   | loop b =>
    rw[cH,cH];refine(ic _ _ _ _).bind fun p=>?_;rcases p with ⟨e,a,s⟩;cases e with
    | normal=>exact ic _ _ _ _
    | _=>exact .refl _
   | rangeFunc g ps aKe bd =>
    rw[cH,cH];cases a.eval g with
    | func fn first captured =>
     cases fn with
     | func f =>
      simp only;exact jo ((ik _ _ _).bind fun p=>.refl _) (.refl _)
     | _=>exact .refl _
    | _=>exact .refl _
   | _=>rw[cH,cH];exact .refl _
  ·rw[eJ,eJ];cases K f args s with
   | some r=>exact .refl _
   | none =>
   cases X.fn f with
   | none=>exact .refl _
   | some fn =>
    simp only;cases fn.body with
    | none=>exact .refl _
    | some c=>exact jo ((ic _ _ _ _).bind fun p=>.refl _) (.refl _)
  ·rw[gI,gI];cases s.heap.get l with
   | none=>exact .refl _
   | some o =>
    cases o with
    | loop st pend t nt ps aKe bd v =>
     cases st with
     | ready =>
      simp only;refine jo ((ic _ _ _ _).bind fun p=>?_) (.refl _);rcases p with ⟨e,a,s⟩;cases e with
      | normal =>
       simp only;cases s.heap.get l with
       | none=>exact .refl _
       | some o =>
        cases o with
        | loop st pend t nt ps aKe bd v =>
         cases st with
         | ready=>exact(ic _ _ _ _).bind fun p=>.refl _
         | _=>exact .refl _
        | _=>exact .refl _
      | _=>exact .refl _
     | _=>exact .refl _
    | _=>exact .refl _
theorem xp {X:Env} {K:eE} {n m:Nat} (h:n≤m):AX (eJ X K n) (eJ X K m):=by
 induction h with
 | refl=>exact fun _ _ _=>.refl _
 | step _ ih=>exact fun f args s=>aS.le.trans (ih f args s) ((CX X K _).2.1 f args s)
theorem Lq {X:Env} {K:eE} {n m:Nat} (h:n≤m):AY (gI X K n) (gI X K m):=by
 induction h with
 | refl=>exact fun _ _ _=>.refl _
 | step _ ih=>exact fun f args s=>aS.le.trans (ih f args s) ((CX X K _).2.2 f args s)
def aS.gE {α:Type} (q:Bool) (Φ:α→Prop):aS α→Prop
 | .fail _=>False
 | .ret a=>Φ a
 | .ask n k=>q=true∧∀ i,i<n→(k i).gE q Φ
theorem aS.gE.mono {α:Type} {q:Bool} {Φ Ψ:α→Prop} (h:∀ a,Φ a→Ψ a):∀ {x:aS α},x.gE q Φ→x.gE q Ψ
 | .fail _,hx=>hx
 | .ret _,hx=>h _ hx
 | .ask _ _,hx=>⟨hx.1,fun i hi=>aS.gE.mono h (hx.2 i hi)⟩
theorem aS.oO {α β:Type} {q:Bool} (f:α→aS β) (Φ:β→Prop):∀ (x:aS α),(x.bind f).gE q Φ↔x.gE q fun a=>(f a).gE q Φ
 | .fail _=>Iff.rfl
 | .ret _=>Iff.rfl
 | .ask _ k=>⟨fun h=>⟨h.1,fun i hi=>(aS.oO f Φ (k i)).1 (h.2 i hi)⟩,fun h=>⟨h.1,fun i hi=>(aS.oO f Φ (k i)).2 (h.2 i hi)⟩⟩
theorem aS.rm {α:Type} {q:Bool} {Φ:α→Prop}:∀ {x:aS α},x.gE q Φ→x.iF Φ
 | .fail _,h=>h
 | .ret _,h=>h
 | .ask _ _,h=>fun i hi=>aS.rm (h.2 i hi)
theorem aS.ZE {α:Type} {Φ:α→Prop}:∀ {x:aS α},x.gE false Φ→∃ a,x=.ret a∧Φ a
 | .fail _,h=>h.elim
 | .ret a,h=>⟨a,rfl,h⟩
 | .ask _ _,h=>by cases h.1
theorem aS.rq {α:Type} {q:Bool} {Φ Ψ:α→Prop}:∀ {x:aS α},x.gE q Φ→x.Lv Ψ→x.gE q fun a=>Φ a∧Ψ a
 | .fail _,h,_=>h.elim
 | .ret _,h,k=>⟨h,k⟩
 | .ask _ _,h,k=>⟨h.1,fun i hi=>aS.rq (h.2 i hi) (k i hi)⟩
theorem aS.le.RW {α:Type} {q:Bool} {Φ:α→Prop} {x y:aS α} (h:aS.le x y) (hx:x.gE q Φ):y.gE q Φ:=by
 induction h with
 | fail w y=>exact hx.elim
 | ret a=>exact hx
 | ask n k k' h ih=>exact⟨hx.1,fun i hi=>ih i (hx.2 i hi)⟩
theorem aS.EY {α:Type} {q:Bool} {Q:Nat→α→Prop} (hm:∀ n a,Q n a→Q (n+1) a):∀ {x:aS α},x.gE q (fun a=>∃ n,Q n a)→∃ n,x.gE q (Q n)
 | .fail _,h=>h.elim
 | .ret a,⟨n,h⟩=>⟨n,h⟩
 | .ask k f,h=>by
  have hm':∀ n m a,n≤m→Q n a→Q m a:=by
   intro n m a hle hq
   induction hle with
   | refl=>exact hq
   | step _ ih=>exact hm _ _ ih
  have:∀ j,j≤k→∃ n,∀ i,i<j→(f i).gE q (Q n):=by
   intro j
   induction j with
   | zero=>exact fun _=>⟨0,fun i hi=>absurd hi (Nat.not_lt_zero i)⟩
   | succ j ih =>
    intro hj;obtain⟨n1,h1⟩:=ih (by omega);obtain⟨n2,h2⟩:=aS.EY hm (h.2 j (by omega));refine⟨max n1 n2,fun i hi=>?_⟩;rcases Nat.lt_or_ge i j with bY | hge
    ·exact(h1 i bY).mono fun a=>hm' _ _ a (by omega)
    ·obtain rfl:i=j:=by omega
     exact h2.mono fun a=>hm' _ _ a (by omega)
  obtain⟨n,hn⟩:=this k (Nat.le_refl _);exact⟨n,h.1,hn⟩
section
variable (q:Bool) (X:Env) (K:eE)
def cN (r:Option Nat) (c:Code) (a:aG) (s:St) (Φ:dL→aG→St→Prop):Prop:=∃ n,(cH X K n r c a s).gE q fun p=>Φ p.1 p.2.1 p.2.2
def okF (f:FuncId) (args:List Value) (s:St) (Φ:Value→St→Prop):Prop:=∃ n,(eJ X K n f args s).gE q fun p=>Φ p.1 p.2
def Jw (l:Nat) (args:List Value) (s:St) (Φ:Value→St→Prop):Prop:=∃ n,(gI X K n l args s).gE q fun p=>Φ p.1 p.2
def bP (ops:Array Oper) (l:List Oper) (a:aG) (s:St) (Φ:aG→St→Prop):Prop:=∃ n,(gP X (eJ X K n) (gI X K n) ops l a s).gE q fun p=>Φ p.1 p.2
end
section
variable {q:Bool} {X:Env} {K:eE}
theorem AH {n m:Nat} (hnm:n≤m) {r c a s} {Φ:dL×aG×St→Prop} (h:(cH X K n r c a s).gE q Φ):(cH X K m r c a s).gE q Φ:=by
 induction hnm with
 | refl=>exact h
 | step _ ih=>exact((CX X K _).1 _ _ _ _).RW ih
theorem xq {n m:Nat} (hnm:n≤m) {f args s} {Φ:Value×St→Prop} (h:(eJ X K n f args s).gE q Φ):(eJ X K m f args s).gE q Φ:=by
 induction hnm with
 | refl=>exact h
 | step _ ih=>exact((CX X K _).2.1 _ _ _).RW ih
theorem PQ {n m:Nat} (hnm:n≤m) {ops l a s} {Φ:aG×St→Prop} (h:(gP X (eJ X K n) (gI X K n) ops l a s).gE q Φ):(gP X (eJ X K m) (gI X K m) ops l a s).gE q Φ:=by
 induction hnm with
 | refl=>exact h
 | step _ ih=>exact(XX (CX X K _).2.1 (CX X K _).2.2 _ _ _ _).RW ih
theorem cN.mono {r c a s} {Φ Ψ:dL→aG→St→Prop} (h:cN q X K r c a s Φ) (hp:∀ e a s,Φ e a s→Ψ e a s):cN q X K r c a s Ψ:=by
 obtain⟨n,hn⟩:=h;exact⟨n,hn.mono fun p hq=>hp _ _ _ hq⟩
theorem okF.mono {f args s} {Φ Ψ:Value→St→Prop} (h:okF q X K f args s Φ) (hp:∀ v s,Φ v s→Ψ v s):okF q X K f args s Ψ:=by
 obtain⟨n,hn⟩:=h;exact⟨n,hn.mono fun p hq=>hp _ _ hq⟩
theorem cN.skip {r a s} {Φ:dL→aG→St→Prop} (h:Φ .normal a s):cN q X K r .skip a s Φ:=⟨1,by rw[cH];exact h⟩
theorem cN.exit {r a s i} {Φ:dL→aG→St→Prop} (h:Φ (.exit i) a s):cN q X K r (.exit i) a s Φ:=⟨1,by rw[cH];exact h⟩
theorem cN.ret {r a s} {Φ:dL→aG→St→Prop} (h:Φ .ret a s):cN q X K r .ret a s Φ:=⟨1,by rw[cH];exact h⟩
theorem cN.seq {r x y a s} {Φ:dL→aG→St→Prop} (h:cN q X K r x a s fun e a s=>match e with
  | .normal=>cN q X K r y a s Φ
  | e=>Φ e a s):cN q X K r (.seq x y) a s Φ:=by
 obtain⟨n,hn⟩:=h;obtain⟨m,hm⟩:=aS.EY (Q:=fun m (p:dL×aG×St)=>match p.1 with
   | .normal=>(cH X K m r y p.2.1 p.2.2).gE q fun p=>Φ p.1 p.2.1 p.2.2
   | e=>Φ e p.2.1 p.2.2) (fun m p hq=>by
    rcases p with ⟨e,a,s⟩;cases e with
    | normal=>exact AH (Nat.le_succ m) hq
    | _=>exact hq) (hn.mono fun p hq=>by
    rcases p with ⟨e,a,s⟩;cases e with
    | normal=>exact hq
    | _=>exact⟨0,hq⟩)
 refine⟨max n m+1,?_⟩;rw[cH,aS.oO];refine(AH (Nat.le_max_left n m) hm).mono fun p hq=>?_;rcases p with ⟨e,a,s⟩;cases e with
 | normal=>exact AH (Nat.le_max_right n m) hq
 | _=>exact hq
theorem cN.cond {r c x y a s b} {Φ:dL→aG→St→Prop} (hb:a.eval c=.bool b) (h:cN q X K r (if b=true then x else y) a s Φ):cN q X K r (.cond c x y) a s Φ:=by
 obtain⟨n,hn⟩:=h;refine⟨n+1,?_⟩;rw[cH,hb];cases b <;> exact hn
theorem cN.block {r id b a s} {Φ:dL→aG→St→Prop} (h:cN q X K r b a s fun e a s=>match e with
  | .exit i=>if i=id then Φ .normal a s else Φ (.exit i) a s
  | e=>Φ e a s):cN q X K r (.block id b) a s Φ:=by
 obtain⟨n,hn⟩:=h;refine⟨n+1,?_⟩;rw[cH,aS.oO];refine hn.mono fun p hq=>?_;rcases p with ⟨e,a,s⟩;cases e with
 | exit i =>
  simp only at hq ⊢;split
  ·rename_i hi;rw[if_pos hi] at hq;exact hq
  ·rename_i hi;rw[if_neg hi] at hq;exact hq
 | _=>exact hq
theorem cN.aIj {r b a s} {Φ:dL→aG→St→Prop} (h:cN q X K r b a s fun e a s=>match e with
  | .normal=>cN q X K r (.loop b) a s Φ
  | e=>Φ e a s):cN q X K r (.loop b) a s Φ:=by
 obtain⟨n,hn⟩:=h;obtain⟨m,hm⟩:=aS.EY (Q:=fun m (p:dL×aG×St)=>match p.1 with
   | .normal=>(cH X K m r (.loop b) p.2.1 p.2.2).gE q fun p=>Φ p.1 p.2.1 p.2.2
   | e=>Φ e p.2.1 p.2.2) (fun m p hq=>by
    rcases p with ⟨e,a,s⟩;cases e with
    | normal=>exact AH (Nat.le_succ m) hq
    | _=>exact hq) (hn.mono fun p hq=>by
    rcases p with ⟨e,a,s⟩;cases e with
    | normal=>exact hq
    | _=>exact⟨0,hq⟩)
 refine⟨max n m+1,?_⟩;rw[cH,aS.oO];refine(AH (Nat.le_max_left n m) hm).mono fun p hq=>?_;rcases p with ⟨e,a,s⟩;cases e with
 | normal=>exact AH (Nat.le_max_right n m) hq
 | _=>exact hq
theorem cN.loop {r b} {Φ:dL→aG→St→Prop} (I:Nat→aG→St→Prop) (hI:∀ k a s,I k a s→cN q X K r b a s fun e a s=>match e with
  | .normal=>∃ j,j<k∧I j a s
  | e=>Φ e a s):∀ (k:Nat) {a:aG} {s:St},I k a s→cN q X K r (.loop b) a s Φ:=by
 intro k
 induction k using Nat.strongRecOn with
 | _ k ih =>
  intro a s h;refine .aIj ((hI k a s h).mono fun e a s hq=>?_);cases e with
  | normal =>
   obtain⟨j,hj,hk⟩:=hq;exact ih j hj hk
  | _=>exact hq
theorem cN.region {r id ops a s} {Φ:dL→aG→St→Prop} (h:bP q X K ops ops.toList a s (Φ .normal)):cN q X K r (.region id ops false) a s Φ:=by
 obtain⟨n,hn⟩:=h;refine⟨n+1,?_⟩;rw[cH,aS.oO];exact hn
theorem bP.nil {ops a s} {Φ:aG→St→Prop} (h:Φ a s):bP q X K ops [] a s Φ:=⟨0,h⟩
theorem bP.skip {ops o l a s} {Φ:aG→St→Prop} (hw:Region.wanted o (aN ops a)=false) (h:bP q X K ops l (a.put o.dst undef) s Φ):bP q X K ops (o::l) a s Φ:=by
 obtain⟨n,hn⟩:=h;refine⟨n,?_⟩;rw[gP,if_neg (by rw[hw];simp)];exact hn
theorem bP.still {ops o l a s v} {Φ:aG→St→Prop} (hw:Region.wanted o (aN ops a)=true) (hk:dP o.op=.still) (hv:dU X s.look a.eval o.op=some v)
  (h:bP q X K ops l (a.put o.dst v) s Φ):bP q X K ops (o::l) a s Φ:=by
 obtain⟨n,hn⟩:=h;refine⟨n,?_⟩;rw[gP,if_pos hw,lX,hk];simp only[hv];exact hn
theorem bP.alloc {ops o l a s v f} {Φ:aG→St→Prop} (hw:Region.wanted o (aN ops a)=true) (hk:dP o.op=.alloc) (hv:fE X s.next a.eval o.op=some (v,f))
  (h:bP q X K ops l (a.put o.dst v) (s.new f) Φ):bP q X K ops (o::l) a s Φ:=by
 obtain⟨n,hn⟩:=h;refine⟨n,?_⟩;rw[gP,if_pos hw,lX,hk];simp only[hv];exact hn
theorem bP.effect {ops o l a s v s'} {Φ:aG→St→Prop} (hw:Region.wanted o (aN ops a)=true) (hk:dP o.op=.effect) (hv:∀ c r,eX X c r s a.eval o.op=.ret (v,s'))
  (h:bP q X K ops l (a.put o.dst v) s' Φ):bP q X K ops (o::l) a s Φ:=by
 obtain⟨n,hn⟩:=h;refine⟨n,?_⟩;rw[gP,if_pos hw,lX,hk];simp only[hv];exact hn
theorem bP.call {ops o l a s f args} {Φ:aG→St→Prop} (hw:Region.wanted o (aN ops a)=true) (hk:dP o.op=.effect) (hv:∀ c r,eX X c r s a.eval o.op=c f args s)
  (h:okF q X K f args s fun v s=>bP q X K ops l (a.put o.dst v) s Φ):bP q X K ops (o::l) a s Φ:=by
 obtain⟨n,hn⟩:=h;obtain⟨m,hm⟩:=aS.EY (Q:=fun m (p:Value×St)=>(gP X (eJ X K m) (gI X K m) ops l (a.put o.dst p.1) p.2).gE q fun(p:aG×St)=>Φ p.1 p.2)
  (fun m p hq=>PQ (Φ:=fun p=>Φ p.1 p.2) (Nat.le_succ m) hq) hn
 refine⟨max n m,?_⟩;rw[gP,if_pos hw,lX,hk];simp only[hv];rw[aS.oO];exact(xq (Nat.le_max_left n m) hm).mono fun p hq=>PQ (Φ:=fun p=>Φ p.1 p.2) (Nat.le_max_right n m) hq
theorem okF.Jy {f args s r} {Φ:Value→St→Prop} (hk:K f args s=some r) (h:r.gE q fun p=>Φ p.1 p.2):okF q X K f args s Φ:=by
 refine⟨1,?_⟩;rw[eJ,hk];exact h
theorem okF.body {f fn c args s} {Φ:Value→St→Prop} (hk:K f args s=none) (hf:X.fn f=some fn) (hb:fn.body=some c) (hn:args.length≤fn.ntmps)
  (h:cN q X K none c {tmps:=PT.ofList args,nt:=fn.ntmps} s fun e a s=>match e with
   | .exit _=>False
   | _=>∃ v,wX X s.look fn a=some v∧Φ v s):okF q X K f args s Φ:=by
 obtain⟨n,hn'⟩:=h;refine⟨n+1,?_⟩;rw[eJ,hk];simp only[hf];simp only[hb,if_pos hn];rw[aS.oO];refine hn'.mono fun p hq=>?_;rcases p with ⟨e,a,s⟩;cases e with
 | exit i=>exact hq
 | _ =>
  obtain⟨v,hv,hp⟩:=hq;simp only[hv];exact hp
end
end Go.Dust
