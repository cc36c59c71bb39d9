/- The plain interpreter D and its laws (Db Dc). -/
import Derived.Test.YtaoiejcaopgjcaaGreatA
set_option linter.unusedVariables false
set_option linter.unusedSimpArgs false
namespace Go.Dust
namespace PT
variable {α:Type}
theorem get_nil (n:Nat):(PT.nil:PT α).get n=none:=rfl
theorem jS (v:Option α) (l r:PT α):(node v l r).get 0=v:=rfl
theorem xJ {m:Nat} (h:m%2=0):Nat.beq (Nat.mod (m+1) 2) 1=true:=by
 rw[Nat.beq_eq];show (m+1)%2=1;omega
theorem tD {m:Nat} (h:m%2=1):Nat.beq (Nat.mod (m+1) 2) 1=false:=by
 cases hb:Nat.beq (Nat.mod (m+1) 2) 1 with
 | false=>rfl
 | true=>rw[Nat.beq_eq] at hb;have:(m+1)%2=1:=hb;omega
theorem fI (v:Option α) (l r:PT α) (m:Nat) (h:m%2=0):(node v l r).get (m+1)=l.get (m/2):=by
 show (Bool.rec (motive:=fun _=>Option α) (r.get (m/2)) (l.get (m/2)) (Nat.beq (Nat.mod (m+1) 2) 1))=_
 rw[xJ h]
theorem gK (v:Option α) (l r:PT α) (m:Nat) (h:m%2=1):(node v l r).get (m+1)=r.get (m/2):=by
 show (Bool.rec (motive:=fun _=>Option α) (r.get (m/2)) (l.get (m/2)) (Nat.beq (Nat.mod (m+1) 2) 1))=_
 rw[tD h]
theorem NA (f:Nat) (a:α):sW (f+1) nil 0 a=node (some a) nil nil:=rfl
theorem LI (f:Nat) (v:Option α) (l r:PT α) (a:α):sW (f+1) (node v l r) 0 a=node (some a) l r:=rfl
theorem zR (f m:Nat) (a:α) (h:m%2=0):sW (f+1) nil (m+1) a=node none (sW f nil (m/2) a) nil:=by
 show (Bool.rec (motive:=fun _=>PT α) (node none nil (sW f nil (m/2) a)) (node none (sW f nil (m/2) a) nil) (Nat.beq (Nat.mod (m+1) 2) 1))=_
 rw[xJ h]
theorem CZ (f m:Nat) (a:α) (h:m%2=1):sW (f+1) nil (m+1) a=node none nil (sW f nil (m/2) a):=by
 show (Bool.rec (motive:=fun _=>PT α) (node none nil (sW f nil (m/2) a)) (node none (sW f nil (m/2) a) nil) (Nat.beq (Nat.mod (m+1) 2) 1))=_
 rw[tD h]
theorem wT (f m:Nat) (v:Option α) (l r:PT α) (a:α) (h:m%2=0):sW (f+1) (node v l r) (m+1) a=node v (sW f l (m/2) a) r:=by
 show (Bool.rec (motive:=fun _=>PT α) (node v l (sW f r (m/2) a)) (node v (sW f l (m/2) a) r) (Nat.beq (Nat.mod (m+1) 2) 1))=_
 rw[xJ h]
theorem zS (f m:Nat) (v:Option α) (l r:PT α) (a:α) (h:m%2=1):sW (f+1) (node v l r) (m+1) a=node v l (sW f r (m/2) a):=by
 show (Bool.rec (motive:=fun _=>PT α) (node v l (sW f r (m/2) a)) (node v (sW f l (m/2) a) r) (Nat.beq (Nat.mod (m+1) 2) 1))=_
 rw[tD h]
theorem uz:∀ (f:Nat) (t:PT α) (n:Nat) (a:α) (m:Nat),n<f→(sW f t n a).get m=if m=n then some a else t.get m:=by
 intro f
 induction f with
 | zero=>intro t n a m h;omega
 | succ f ih =>
  intro t n a m h
  cases t with
  | nil =>
   cases n with
   | zero =>
    rw[NA]
    cases m with
    | zero=>simp[jS]
    | succ m =>
     rcases Nat.mod_two_eq_zero_or_one m with e | e
     ·simp[fI _ _ _ _ e,get_nil]
     ·simp[gK _ _ _ _ e,get_nil]
   | succ n =>
    rcases Nat.mod_two_eq_zero_or_one n with e | e
    ·rw[zR _ _ _ e]
     cases m with
     | zero=>simp[jS,get_nil]
     | succ m =>
      rcases Nat.mod_two_eq_zero_or_one m with e' | e'
      ·rw[fI _ _ _ _ e',ih _ _ _ _ (by omega)]
       simp only[get_nil]
       by_cases hm:m=n
       ·subst hm;simp
       ·rw[if_neg (by omega),if_neg (by omega)]
      ·rw[gK _ _ _ _ e',get_nil,if_neg (by omega),get_nil]
    ·rw[CZ _ _ _ e]
     cases m with
     | zero=>simp[jS,get_nil]
     | succ m =>
      rcases Nat.mod_two_eq_zero_or_one m with e' | e'
      ·rw[fI _ _ _ _ e',get_nil,if_neg (by omega),get_nil]
      ·rw[gK _ _ _ _ e',ih _ _ _ _ (by omega)]
       simp only[get_nil]
       by_cases hm:m=n
       ·subst hm;simp
       ·rw[if_neg (by omega),if_neg (by omega)]
  | node v l r =>
   cases n with
   | zero =>
    rw[LI]
    cases m with
    | zero=>simp[jS]
    | succ m =>
     rcases Nat.mod_two_eq_zero_or_one m with e | e
     ·simp[fI _ _ _ _ e]
     ·simp[gK _ _ _ _ e]
   | succ n =>
    rcases Nat.mod_two_eq_zero_or_one n with e | e
    ·rw[wT _ _ _ _ _ _ e]
     cases m with
     | zero=>simp[jS]
     | succ m =>
      rcases Nat.mod_two_eq_zero_or_one m with e' | e'
      ·rw[fI _ _ _ _ e',ih _ _ _ _ (by omega),fI _ _ _ _ e']
       by_cases hm:m=n
       ·subst hm;simp
       ·rw[if_neg (by omega),if_neg (by omega)]
      ·rw[gK _ _ _ _ e',gK _ _ _ _ e',if_neg (by omega)]
    ·rw[zS _ _ _ _ _ _ e]
     cases m with
     | zero=>simp[jS]
     | succ m =>
      rcases Nat.mod_two_eq_zero_or_one m with e' | e'
      ·rw[fI _ _ _ _ e',fI _ _ _ _ e',if_neg (by omega)]
      ·rw[gK _ _ _ _ e',ih _ _ _ _ (by omega),gK _ _ _ _ e']
       by_cases hm:m=n
       ·subst hm;simp
       ·rw[if_neg (by omega),if_neg (by omega)]
theorem bU (t:PT α) (n:Nat) (a:α) (m:Nat):(t.set n a).get m=if m=n then some a else t.get m:=uz _ _ _ _ _ (Nat.lt_succ_self n)
theorem get_set_same (t:PT α) (n:Nat) (a:α):(t.set n a).get n=some a:=by rw[bU,if_pos rfl]
theorem JL (t:PT α) {n m:Nat} (a:α) (h:m≠n):(t.set n a).get m=t.get m:=by rw[bU,if_neg h]
theorem rF:∀ (l:List α) (t:PT α) (n m:Nat),(t.NB n l).get m=if n≤m then(match l[m-n]? with | some a=>some a | none=>t.get m) else t.get m
 | [],t,n,m=>by simp[NB]
 | a::l,t,n,m=>by
  rw[NB,rF l _ (n+1) m]
  by_cases h:n+1≤m
  ·obtain⟨d,hd⟩:∃ d,m-n=d+1:=⟨m-n-1,by omega⟩
   rw[if_pos h,if_pos (by omega),hd,show m-(n+1)=d from by omega,List.getElem?_cons_succ,JL _ _ (by omega)]
  ·rw[if_neg h]
   by_cases h':n≤m
   ·have:m=n:=by omega
    subst this
    rw[if_pos (Nat.le_refl _),Nat.sub_self,get_set_same];rfl
   ·rw[if_neg h',JL _ _ (by omega)]
theorem fE (l:List α) (m:Nat):(ofList l).get m=l[m]?:=by
 rw[ofList,rF,if_pos (Nat.zero_le _),Nat.sub_zero,get_nil]
 cases l[m]? <;> rfl
end PT
namespace cQ
variable {α β:Type}
theorem yY.mono {Φ Ψ:α→Prop} (h:∀ a,Φ a→Ψ a):∀ {x:cQ α},x.yY Φ→x.yY Ψ
 | fail _,hx=>hx
 | ret _,hx=>h _ hx
 | ask _ _,hx=>fun i hi=>yY.mono h (hx i hi)
theorem eQ (f:α→cQ β) (Φ:β→Prop):∀ (x:cQ α),(x.bind f).yY Φ↔x.yY fun a=>(f a).yY Φ
 | fail _=>Iff.rfl
 | ret _=>Iff.rfl
 | ask _ k=>⟨fun h i hi=>(eQ f Φ (k i)).1 (h i hi),fun h i hi=>(eQ f Φ (k i)).2 (h i hi)⟩
theorem Lv.mono {Φ Ψ:α→Prop} (h:∀ a,Φ a→Ψ a):∀ {x:cQ α},x.Lv Φ→x.Lv Ψ
 | fail _,_=>trivial
 | ret _,hx=>h _ hx
 | ask _ _,hx=>fun i hi=>Lv.mono h (hx i hi)
theorem gJ (f:α→cQ β) (Φ:β→Prop):∀ (x:cQ α),(x.bind f).Lv Φ↔x.Lv fun a=>(f a).Lv Φ
 | fail _=>Iff.rfl
 | ret _=>Iff.rfl
 | ask _ k=>⟨fun h i hi=>(gJ f Φ (k i)).1 (h i hi),fun h i hi=>(gJ f Φ (k i)).2 (h i hi)⟩
end cQ
structure Loc where
 dR:Nat
 off:Nat
 extra:Nat
 ro:Bool
abbrev cR:=Nat→Option Loc
def cR.le (ι ι':cR):Prop:=∀ b l,ι b=some l→ι' b=some l
theorem cR.le_refl (ι:cR):ι.le ι:=fun _ _ h=>h
theorem cR.le_trans {a b c:cR} (h:a.le b) (k:b.le c):a.le c:=fun n l e=>k n l (h n l e)
inductive VR (ι:cR):Value→Value→Prop
 | bool (b:Bool):VR ι (.bool b) (.bool b)
 | int (k:IntKind) (n:Int):VR ι (.int k n) (.int k n)
 | float (k:FloatKind) (n:Nat):VR ι (.float k n) (.float k n)
 | string (s:ByteArray):VR ι (.string s) (.string s)
 | DZ:VR ι (.pointer none) (.pointer none)
 | ptr {b o:Nat} {l:Loc} (h:ι b=some l):VR ι (.pointer (some ⟨b,o,none⟩)) (.pointer (some ⟨l.dR,l.off+o,none⟩))
 | nF (n c:Nat):VR ι (.slice none n c) (.slice none n c)
 | slice {b o:Nat} {l:Loc} (n c:Nat) (h:ι b=some l):VR ι (.slice (some ⟨b,o,none⟩) n c) (.slice (some ⟨l.dR,l.off+o,none⟩) n (c+l.extra))
 | nN {b o k:Nat} {l:Loc} (h:ι b=some l):VR ι (.slice (some ⟨b,o,some k⟩) 0 0) (.slice (some ⟨l.dR,l.off+o+(if l.extra=0 then 0 else k),none⟩) 0 l.extra)
 | KC:VR ι (.map none) (.map none)
 | map {b:Nat} {l:Loc} (h:ι b=some l):VR ι (.map (some b)) (.map (some l.dR))
 | func {f:FuncId} {a c a' c':Array Value} (ha:a.size=a'.size) (hc:c.size=c'.size) (hav:∀ (i:Nat) v u,a[i]?=some v→a'[i]?=some u→VR ι v u)
   (hcv:∀ (i:Nat) v u,c[i]?=some v→c'[i]?=some u→VR ι v u):VR ι (.func (.func f) a c) (.func (.func f) a' c')
 | ak {m:String} {a c a' c':Array Value} (ha:a.size=a'.size) (hc:c.size=c'.size) (hav:∀ (i:Nat) v u,a[i]?=some v→a'[i]?=some u→VR ι v u)
   (hcv:∀ (i:Nat) v u,c[i]?=some v→c'[i]?=some u→VR ι v u):VR ι (.func (.method m) a c) (.func (.method m) a' c')
 | yield {b:Nat} {l:Loc} (h:ι b=some l):VR ι (.func (.yield b) #[] #[]) (.func (.yield l.dR) #[] #[])
 | nilFunc:VR ι .nilFunc .nilFunc
 | nilIface:VR ι .nilIface .nilIface
 | iface (t:TypeId) {v u:Value} (h:VR ι v u):VR ι (.iface t v) (.iface t u)
 | agg {a a':Array Value} (ha:a.size=a'.size) (hav:∀ (i:Nat) v u,a[i]?=some v→a'[i]?=some u→VR ι v u):VR ι (.agg a) (.agg a')
 | tuple {a a':Array Value} (ha:a.size=a'.size) (hav:∀ (i:Nat) v u,a[i]?=some v→a'[i]?=some u→VR ι v u):VR ι (.tuple a) (.tuple a')
theorem VR.mono {ι ι':cR} (hle:ι.le ι') {v u:Value} (h:VR ι v u):VR ι' v u:=by
 induction h with
 | bool b=>exact .bool b
 | int k n=>exact .int k n
 | float k n=>exact .float k n
 | string s=>exact .string s
 | DZ=>exact .DZ
 | ptr h=>exact .ptr (hle _ _ h)
 | nF n c=>exact .nF n c
 | slice n c h=>exact .slice n c (hle _ _ h)
 | nN h=>exact .nN (hle _ _ h)
 | KC=>exact .KC
 | map h=>exact .map (hle _ _ h)
 | func ha hc _ _ ih1 ih2=>exact .func ha hc ih1 ih2
 | ak ha hc _ _ ih1 ih2=>exact .ak ha hc ih1 ih2
 | yield h=>exact .yield (hle _ _ h)
 | nilFunc=>exact .nilFunc
 | nilIface=>exact .nilIface
 | iface t _ ih=>exact .iface t ih
 | agg ha _ ih=>exact .agg ha ih
 | tuple ha _ ih=>exact .tuple ha ih
inductive eF (ι:cR):List Value→List Value→Prop
 | nil:eF ι [] []
 | cons {v u:Value} {l l':List Value} (h:VR ι v u) (t:eF ι l l'):eF ι (v::l) (u::l')
theorem eF.mono {ι ι':cR} (hle:ι.le ι'):∀ {l l':List Value},eF ι l l'→eF ι' l l'
 | _,_,.nil=>.nil
 | _,_,.cons h t=>.cons (h.mono hle) (eF.mono hle t)
theorem eF.length {ι:cR}:∀ {l l':List Value},eF ι l l'→l.length=l'.length
 | _,_,.nil=>rfl
 | _,_,.cons _ t=>by simp[eF.length t]
theorem eF.get {ι:cR}:∀ {l l':List Value} (_:eF ι l l') (i:Nat) {v u:Value},l[i]?=some v→l'[i]?=some u→VR ι v u
 | _,_,.nil,_,_,_,h,_=>by simp at h
 | _,_,.cons h _,0,_,_,h1,h2=>by simp at h1 h2;subst h1;subst h2;exact h
 | _,_,.cons _ t,i+1,_,_,h1,h2=>eF.get t i (by simpa using h1) (by simpa using h2)
theorem eF.uE {ι:cR}:∀ {l l':List Value} (_:eF ι l l') (i:Nat) {v:Value},l[i]?=some v→∃ u,l'[i]?=some u∧VR ι v u
 | _,_,.nil,_,_,h=>by simp at h
 | _,_,.cons (u:=u) h t,0,_,h1=>⟨u,by simp,by simp at h1;subst h1;exact h⟩
 | _,_,.cons _ t,i+1,_,h1=>by
  obtain⟨u,h2,h3⟩:=eF.uE t i (by simpa using h1)
  exact⟨u,by simpa using h2,h3⟩
theorem eF.ay {ι:cR}:∀ {l l':List Value},l.length=l'.length→(∀ (i:Nat) v u,l[i]?=some v→l'[i]?=some u→VR ι v u)→eF ι l l'
 | [],[],_,_=>.nil
 | v::l,u::l',hl,h=>.cons (h 0 v u rfl rfl) (eF.ay (by simpa using hl) fun i x y hx hy=>h (i+1) x y (by simpa using hx) (by simpa using hy))
 | [],_::_,hl,_=>by simp at hl
 | _::_,[],hl,_=>by simp at hl
theorem eF.append {ι:cR}:∀ {a a' b b':List Value},eF ι a a'→eF ι b b'→eF ι (a++b) (a'++b')
 | _,_,_,_,.nil,h=>h
 | _,_,_,_,.cons h t,k=>.cons h (eF.append t k)
theorem eF.WG {ι:cR} {l:List Value} (h:eF ι [] l):l=[]:=by cases h;rfl
theorem eF.take {ι:cR}:∀ {l l':List Value} (n:Nat),eF ι l l'→eF ι (l.take n) (l'.take n)
 | _,_,0,_=>by simp;exact .nil
 | _,_,_+1,.nil=>by simp;exact .nil
 | _,_,n+1,.cons h t=>by simp only[List.take_succ_cons];exact .cons h (eF.take n t)
theorem eF.drop {ι:cR}:∀ {l l':List Value} (n:Nat),eF ι l l'→eF ι (l.drop n) (l'.drop n)
 | _,_,0,h=>by simpa using h
 | _,_,_+1,.nil=>by simp;exact .nil
 | _,_,n+1,.cons _ t=>by simp only[List.drop_succ_cons];exact eF.drop n t
theorem eF.map₂ {ι:cR} {α:Type} {f g:α→Value}:∀ (l:List α),(∀ x∈l,VR ι (f x) (g x))→eF ι (l.map f) (l.map g)
 | [],_=>.nil
 | x::l,h=>.cons (h x (by simp)) (eF.map₂ l fun y hy=>h y (by simp[hy]))
theorem eF.replicate {ι:cR} {v u:Value} (h:VR ι v u):∀ n,eF ι (List.replicate n v) (List.replicate n u)
 | 0=>.nil
 | n+1=>by rw[List.replicate_succ,List.replicate_succ];exact .cons h (eF.replicate h n)
theorem eF.oC {ι:cR} {a a':Array Value} (ha:a.size=a'.size) (hav:∀ (i:Nat) v u,a[i]?=some v→a'[i]?=some u→VR ι v u):eF ι a.toList a'.toList :=
 .ay (by simpa using ha) fun i v u h1 h2=>hav i v u (by simpa using h1) (by simpa using h2)
theorem eF.size {ι:cR} {a a':Array Value} (h:eF ι a.toList a'.toList):a.size=a'.size:=by simpa using h.length
theorem eF.arr {ι:cR} {a a':Array Value} (h:eF ι a.toList a'.toList) (i:Nat) (v u:Value) (h1:a[i]?=Option.some v) (h2:a'[i]?=Option.some u):VR ι v u :=
 h.get i (by simpa using h1) (by simpa using h2)
theorem VR.rf {ι:cR} {a a':Array Value} (h:eF ι a.toList a'.toList):VR ι (.agg a) (.agg a'):=.agg h.size h.arr
theorem VR.tuple' {ι:cR} {a a':Array Value} (h:eF ι a.toList a'.toList):VR ι (.tuple a) (.tuple a'):=.tuple h.size h.arr
theorem VR.AY {ι:cR} {a:Array Value} {u:Value} (h:VR ι (.agg a) u):∃ a',u=.agg a'∧eF ι a.toList a'.toList:=by
 cases h with | agg ha hav=>exact⟨_,rfl,.oC ha hav⟩
theorem VR.qt {ι:cR} {a:Array Value} {u:Value} (h:VR ι (.tuple a) u):∃ a',u=.tuple a'∧eF ι a.toList a'.toList:=by
 cases h with | tuple ha hav=>exact⟨_,rfl,.oC ha hav⟩
theorem VR.BU {ι:cR} {f:FuncId} {a c:Array Value} {u:Value} (h:VR ι (.func (.func f) a c) u) :
  ∃ a' c',u=.func (.func f) a' c'∧eF ι a.toList a'.toList∧eF ι c.toList c'.toList:=by
 cases h with | func ha hc hav hcv=>exact⟨_,_,rfl,.oC ha hav,.oC hc hcv⟩
theorem VR.xk {ι:cR} {f:String} {a c:Array Value} {u:Value} (h:VR ι (.func (.method f) a c) u) :
  ∃ a' c',u=.func (.method f) a' c'∧eF ι a.toList a'.toList∧eF ι c.toList c'.toList:=by
 cases h with | ak ha hc hav hcv=>exact⟨_,_,rfl,.oC ha hav,.oC hc hcv⟩
theorem VR.undef (ι:cR):VR ι undef undef:=.tuple rfl fun i v u h=>by simp at h
theorem VR.int_eq {ι:cR} {k:IntKind} {n:Int} {u:Value} (h:VR ι (.int k n) u):u=.int k n:=by cases h;rfl
theorem VR.kT {ι:cR} {b:Bool} {u:Value} (h:VR ι (.bool b) u):u=.bool b:=by cases h;rfl
theorem VR.gA {ι:cR} {s:ByteArray} {u:Value} (h:VR ι (.string s) u):u=.string s:=by cases h;rfl
theorem VR.oM {ι:cR} {v:Value} (h:oM v=true):VR ι v v:=by
 unfold Dust.oM at h
 split at h <;> first | (exact .bool _) | (exact .int _ _) | (exact .string _) | (exact .DZ) | (exact .nF _ _) | (exact .KC) | (exact .nilFunc) | (exact .nilIface) | (exact .float _ _) | cases h
theorem eF.closed {ι:cR}:∀ {l:List Value},l.all Dust.oM=true→eF ι l l
 | [],_=>.nil
 | v::l,h=>by
  simp only[List.all_cons,Bool.and_eq_true] at h
  exact .cons (.oM h.1) (eF.closed h.2)
theorem VR.closed {ι:cR} {v:Value} (h:uA v=true):VR ι v v:=by
 unfold uA at h
 split at h
 ·exact .rf (.closed h)
 ·exact .tuple' (.closed h)
 ·exact .oM h
theorem VR.cells {ι:cR} {v u:Value} (h:VR ι v u):eF ι v.cells.toList u.cells.toList:=by
 cases h with
 | agg ha hav=>exact .oC ha hav
 | _=>first | (simp only[Value.cells];refine .cons ?_ .nil;constructor <;> assumption) | (simp only[Value.cells];refine .cons ?_ .nil;exact .oM rfl)
variable {P:Program}
theorem sL {t:TypeId} {i:Ty} (h:(env P).ty t=some i) :
  ∃ inf,P.info? t=some inf∧P.underlying t=some i.desc∧i.size=inf.size∧i.bytes=inf.bytes∧i.agg=aggOf i.desc∧i.methods=inf.methods ∧
   (∀ z,i.zero=some z→inf.zero=some z∧uA z=true)∧(i.cmp=true→P.stoodInHeld t=false∧P.eqGuardType P.depth t=false):=by
 have h1:mkTy P t=some i:=by
  have h0:(match (jz P).get t with | some x=>x | none=>none)=some i:=h
  unfold jz at h0
  rw[PT.fE] at h0
  simp only[List.getElem?_map] at h0
  by_cases ht:t<P.types.size
  ·rw[List.getElem?_range ht] at h0;simpa using h0
  ·rw[List.getElem?_eq_none (by simpa using ht)] at h0;simp at h0
 unfold mkTy at h1
 split at h1
 ·rename_i inf d hi hd
  cases h1
  refine⟨inf,hi,hd,rfl,rfl,rfl,rfl,?_,by simp⟩
  intro z hz
  simp only at hz
  split at hz
  ·rename_i z' hz'
   split at hz
   ·rename_i hc
    cases hz
    exact⟨hz',hc⟩
   ·cases hz
  ·cases hz
 ·cases h1
theorem xW {f:FuncId} {fn:Func} (h:(env P).fn f=some fn):P.funcs[f]?=some fn∧SG fn=true:=by
 have h0:(match (VI P).get f with | some x=>x | none=>none)=some fn:=h
 unfold VI at h0
 rw[PT.fE] at h0
 simp only[List.getElem?_map,Array.getElem?_toList] at h0
 cases hf:P.funcs[f]? with
 | none=>rw[hf] at h0;simp at h0
 | some g =>
  rw[hf] at h0
  simp only[Option.map_some] at h0
  by_cases hok:SG g=true
  ·rw[if_pos hok] at h0
   cases h0
   exact⟨rfl,hok⟩
  ·rw[if_neg hok] at h0
   cases h0
section typefacts
variable {t:TypeId} {i:Ty} {w:World}
theorem aK (h:(env P).ty t=some i):(underlying t).run P w=.ok i.desc w:=by
 obtain⟨inf,h1,h2,_⟩:=sL h
 simp[underlying,h2]
theorem cU (h:(env P).ty t=some i):(sizeOf t).run P w=.ok i.size w:=by
 obtain⟨inf,h1,h2,h3,_⟩:=sL h
 simp[sizeOf,typeInfo,h1,h3]
theorem uX (h:(env P).ty t=some i):(isAgg t).run P w=.ok i.agg w:=by
 obtain⟨inf,h1,h2,h3,h4,h5,_⟩:=sL h
 rw[h5]
 unfold isAgg
 rw[Sem.run_bind,aK h]
 simp only[Result.andThen_ok]
 cases i.desc <;> rfl
theorem jV (h:(env P).ty t=some i) {z:Value} (hz:i.zero=some z):(zeroValue t).run P w=.ok z w:=by
 obtain⟨inf,h1,h2,h3,h4,h5,h6,h7⟩:=sL h
 simp[zeroValue,typeInfo,h1,(h7.1 z hz).1]
theorem jG (h:(env P).ty t=some i) {z:Value} (hz:i.zero=some z):uA z=true:=by
 obtain⟨inf,h1,h2,h3,h4,h5,h6,h7⟩:=sL h
 exact(h7.1 z hz).2
theorem rQ (h:(env P).ty t=some i):∃ inf,(typeInfo t).run P w=.ok inf w∧inf.bytes=i.bytes∧inf.methods=i.methods:=by
 obtain⟨inf,h1,h2,h3,h4,h5,h6,_⟩:=sL h
 exact⟨inf,by simp[typeInfo,h1],h4.symm,h6.symm⟩
end typefacts
def World.dM (w:World) (b:Nat) (o:Obj):World:={w with heap:=w.heap.setIfInBounds b o}
theorem FJ {w:World} {b c:Nat} {o:Obj}:(World.dM w b o).heap[c]?=if c=b∧b<w.heap.size then some o else w.heap[c]?:=by
 unfold World.dM
 simp only[Array.getElem?_setIfInBounds]
 by_cases h:b=c
 ·subst h
  by_cases hb:b<w.heap.size
  ·simp[hb]
  ·simp[hb]
 ·rw[if_neg h,if_neg (by omega)]
theorem dI {w:World} {b:Nat} {o:Obj} (h:b<w.heap.size):(World.dM w b o).heap[b]?=some o:=by rw[FJ,if_pos ⟨rfl,h⟩]
theorem hY {w:World} {b c:Nat} {o:Obj} (h:c≠b):(World.dM w b o).heap[c]?=w.heap[c]?:=by rw[FJ,if_neg (by omega)]
@[simp] theorem GJ {w:World} {b:Nat} {o:Obj}:(World.dM w b o).heap.size=w.heap.size:=by simp[World.dM]
theorem MZ {w:World} {b:Nat} {o o':Obj}:World.dM (World.dM w b o) b o'=World.dM w b o':=by simp[World.dM]
theorem GH {w:World} {b:Nat} {o:Obj} (h:w.heap[b]?=some o):World.dM w b o=w:=by
 cases w with
 | mk heap tape drawn os output =>
  simp only[World.dM]
  congr 1
  apply Array.ext_getElem?
  intro i
  rw[Array.getElem?_setIfInBounds]
  by_cases e:b=i
  ·subst e
   obtain⟨gU,_⟩:=Array.getElem?_eq_some_iff.1 h
   rw[if_pos rfl,if_pos gU];exact h.symm
  ·rw[if_neg e]
theorem bG {w:World} {b:Nat} {o:Obj} (h:w.heap[b]?=some o):b<w.heap.size:=(Array.getElem?_eq_some_iff.1 h).1
theorem heap_alloc_old {w:World} {o:Obj} {c:Nat} (h:c<w.heap.size):(w.alloc o).heap[c]?=w.heap[c]?:=by
 show (w.heap.push o)[c]?=_
 rw[Array.getElem?_push,if_neg (by omega)]
theorem heap_alloc_new {w:World} {o:Obj}:(w.alloc o).heap[w.heap.size]?=some o:=World.alloc_heap_new w o
def nX (arr:Array Value) (off:Nat):List Value→Array Value
 | []=>arr
 | v::vs=>nX (arr.setIfInBounds off v) (off+1) vs
@[simp] theorem wU:∀ (vs:List Value) (arr:Array Value) (off:Nat),(nX arr off vs).size=arr.size
 | [],_,_=>rfl
 | _::vs,arr,off=>by rw[nX,wU vs];simp
theorem AF:∀ (vs:List Value) (arr:Array Value) (off i:Nat),off+vs.length≤arr.size →
  (nX arr off vs)[i]?=if off≤i then(match vs[i-off]? with | some v=>some v | none=>arr[i]?) else arr[i]?
 | [],arr,off,i,_=>by simp[nX]
 | v::vs,arr,off,i,h=>by
  simp only[List.length_cons] at h
  rw[nX,AF vs _ _ _ (by simp;omega)]
  by_cases h1:off+1≤i
  ·obtain⟨d,hd⟩:∃ d,i-off=d+1:=⟨i-off-1,by omega⟩
   rw[if_pos h1,if_pos (by omega),hd,show i-(off+1)=d from by omega,List.getElem?_cons_succ,Array.getElem?_setIfInBounds,if_neg (by omega)]
  ·rw[if_neg h1]
   by_cases h2:off≤i
   ·have:i=off:=by omega
    subst this
    rw[if_pos (Nat.le_refl _),Nat.sub_self,Array.getElem?_setIfInBounds,if_pos rfl,if_pos (by omega)];rfl
   ·rw[if_neg h2,Array.getElem?_setIfInBounds,if_neg (by omega)]
theorem Addr.gF (b o n:Nat):(⟨b,o,none⟩:Addr).add n=⟨b,o+n,none⟩:=by
 unfold Addr.add
 split
 ·rename_i h;subst h;simp
 ·rfl
theorem SI {v:Value} (h:kZ v=true):v.oneCell'=true:=by
 cases v <;> first | rfl | (simp[kZ] at h)
theorem VR.kZ {ι:cR} {v u:Value} (h:VR ι v u):kZ v=kZ u:=by cases h <;> rfl
theorem eF.kZ {ι:cR}:∀ {l l':List Value},eF ι l l'→l.all Dust.kZ=l'.all Dust.kZ
 | _,_,.nil=>rfl
 | _,_,.cons h t=>by simp[h.kZ,t.kZ]
theorem rS:∀ (vs:List Value) (w:World) (b o i:Nat) (arr:Array Value) (e:TypeId),w.heap[b]?=some (.cells arr e (0,0))→vs.all kZ=true →
  o+i+vs.length≤arr.size→(storeCells ⟨b,o,none⟩ vs i).run P w=.ok () (World.dM w b (.cells (nX arr (o+i) vs) e (0,0)))
 | [],w,b,o,i,arr,e,h,_,_=>by
  simp only[storeCells,nX,Sem.run_pure]
  rw[GH h]
 | v::vs,w,b,o,i,arr,e,h,h1,h2=>by
  simp only[List.all_cons,Bool.and_eq_true] at h1
  simp only[List.length_cons] at h2
  have hc:w.cell? ⟨b,o+i,none⟩=some arr[o+i]:=by
   simp[World.cell?,h,show o+i<arr.size from by omega]
  have hf:w.frozen? ⟨b,o+i,none⟩=false:=by simp[World.frozen?,h]
  have hset:w.setCell ⟨b,o+i,none⟩ v=World.dM w b (.cells (arr.setIfInBounds (o+i) v) e (0,0)):=by
   unfold World.setCell World.dM
   congr 1
   apply Array.ext_getElem?
   intro j
   rw[Array.getElem?_setIfInBounds,Array.getElem?_modify]
   by_cases ej:b=j
   ·subst ej
    rw[if_pos rfl,if_pos rfl,if_pos (bG h),h]
    simp
   ·simp[ej]
  have hst:(Go.store ((⟨b,o,none⟩:Addr).add i) v).run P w=.ok () (World.dM w b (.cells (arr.setIfInBounds (o+i) v) e (0,0))):=by
   rw[Addr.gF,← hset]
   rw[run_store P w _ v _ (SI h1.1)]
   simp[hc,hf]
  simp only[storeCells,Sem.run_bind,hst,Result.andThen_ok]
  rw[rS vs _ b o (i+1) (arr.setIfInBounds (o+i) v) e (dI (bG h)) h1.2 (by simp;omega),MZ]
  simp only[nX,show o+(i+1)=o+i+1 from by omega]
theorem run_loadCellsFrom:∀ (k:Nat) (w:World) (b o i:Nat) (arr:Array Value) (e:TypeId) (fz:Nat×Nat) (acc:Array Value),w.heap[b]?=some (.cells arr e fz) →
  o+i+k≤arr.size→(loadCellsFrom ⟨b,o,none⟩ i k acc).run P w=.ok (acc++((arr.toList.drop (o+i)).take k).toArray) w
 | 0,w,b,o,i,arr,e,fz,acc,h,hk=>by simp[loadCellsFrom]
 | k+1,w,b,o,i,arr,e,fz,acc,h,hk=>by
  have hc:w.cell? ⟨b,o+i,none⟩=some arr[o+i]:=by
   simp[World.cell?,h,show o+i<arr.size from by omega]
  simp only[loadCellsFrom,Sem.run_bind,Addr.gF]
  have hl:(load ⟨b,o+i,none⟩).run P w=.ok arr[o+i] w:=by simp[load,Sem.run,hc]
  rw[hl]
  simp only[Result.andThen_ok]
  rw[run_loadCellsFrom k w b o (i+1) arr e fz _ h (by omega)]
  congr 1
  rw[List.drop_eq_getElem_cons (i:=o+i) (by simp;omega),List.take_succ_cons]
  apply Array.toList_inj.1
  simp[show o+(i+1)=o+i+1 from by omega]
theorem run_loadCells {k:Nat} {w:World} {b o:Nat} {arr:Array Value} {e:TypeId} {fz:Nat×Nat} (h:w.heap[b]?=some (.cells arr e fz)) (hk:k=0∨o+k≤arr.size) :
  (loadCells ⟨b,o,none⟩ k).run P w=.ok ((arr.toList.drop o).take k).toArray w:=by
 rcases hk with rfl | hk
 ·simp[loadCells,loadCellsFrom]
 have:=run_loadCellsFrom (P:=P) k w b o 0 arr e fz #[] h (by omega)
 simpa [loadCells] using this
structure ER (ι:cR) (e e':MapEntry):Prop where
 key:VR ι e.key e'.key
 val:VR ι e.val e'.val
 born:e.born=e'.born
inductive sN (ι:cR):List MapEntry→List MapEntry→Prop
 | nil:sN ι [] []
 | cons {e e':MapEntry} {l l':List MapEntry} (h:ER ι e e') (t:sN ι l l'):sN ι (e::l) (e'::l')
theorem ER.mono {ι ι':cR} (hle:ι.le ι') {e e':MapEntry} (h:ER ι e e'):ER ι' e e':=⟨h.key.mono hle,h.val.mono hle,h.born⟩
theorem sN.mono {ι ι':cR} (hle:ι.le ι'):∀ {l l':List MapEntry},sN ι l l'→sN ι' l l'
 | _,_,.nil=>.nil
 | _,_,.cons h t=>.cons (h.mono hle) (sN.mono hle t)
def nV (X:Env) (ι:cR) (w:World) (l:Loc):bX→Prop
 | .cells c z n e room ro _=>∃ arr e' fz,w.heap[l.dR]?=some (.cells arr e' fz)∧(ro=false→fz=(0,0))∧l.ro=ro∧(room=false→l.extra=0) ∧
   (∀ ei,X.ty e=some ei→l.off+n+l.extra*ei.size≤arr.size)∧l.off+n≤arr.size ∧
   (∀ i,i<n→∃ v u,cellAt c z n i=some v∧arr[l.off+i]?=some u∧VR ι v u)
 | .map es clock _=>l.ro=false∧l.off=0∧l.extra=0∧∃ es',w.heap[l.dR]?=some (.map es' clock)∧sN ι es es'.toList
 | .eU m since seen stepped _=>l.ro=false∧l.off=0∧l.extra=0∧(match m with
   | none=>∃ a b c,w.heap[l.dR]?=some (.mapIter none a b c)
   | some m=>∃ lm,ι m=some lm∧w.heap[l.dR]?=some (.mapIter (some lm.dR) since seen.reverse.toArray stepped))
 | .nW s pos _=>l.ro=false∧l.off=0∧l.extra=0∧w.heap[l.dR]?=some (.stringIter s pos)
 | .loop st pend t nt ps aAm bd _=>l.ro=false∧l.off=0∧l.extra=0∧cX nt aAm=true∧cX nt bd=true∧ps.toList.all (fun p=>decide (p<nt))=true ∧
   ∃ r:Loop,w.heap[l.dR]?=some (.loop r)∧r.state=st∧r.pending=pend∧r.params=ps∧r.assign=aAm∧r.body=bd∧r.tmps.size=nt ∧
    (∀ i,i<nt→VR ι ((t.get i).getD undef) (r.tmps.getD i undef))
 | .dead=>True
theorem nV.mono {X:Env} {ι ι':cR} {w w':World} {l:Loc} (hle:ι.le ι') (hw:w'.heap[l.dR]?=w.heap[l.dR]?):∀ {o:bX},nV X ι w l o→nV X ι' w' l o
 | .cells ..,h=>by
  obtain⟨arr,e',fz,h1,h2,h3,h4,h5,h6,h7⟩:=h
  exact⟨arr,e',fz,hw.trans h1,h2,h3,h4,h5,h6,fun i hi=>let ⟨v,u,a,b,c⟩:=h7 i hi;⟨v,u,a,b,c.mono hle⟩⟩
 | .map ..,h=>by
  obtain⟨h0,h1,h2,es',h3,h4⟩:=h
  exact⟨h0,h1,h2,es',hw.trans h3,h4.mono hle⟩
 | .eU none ..,h=>by
  obtain⟨h0,h1,h2,a,b,c,h3⟩:=h
  exact⟨h0,h1,h2,a,b,c,hw.trans h3⟩
 | .eU (some m) ..,h=>by
  obtain⟨h0,h1,h2,lm,h3,h4⟩:=h
  exact⟨h0,h1,h2,lm,hle _ _ h3,hw.trans h4⟩
 | .nW ..,h=>⟨h.1,h.2.1,h.2.2.1,hw.trans h.2.2.2⟩
 | .loop ..,h=>by
  obtain⟨h0,h1,h2,h3,h4,h4',r,h5,h6,h7,h8,h9,h10,h11,h12⟩:=h
  exact⟨h0,h1,h2,h3,h4,h4',r,hw.trans h5,h6,h7,h8,h9,h10,h11,fun i hi=>(h12 i hi).mono hle⟩
 | .dead,_=>trivial
def Own (ι:cR) (H:aY) (c:Nat):Prop:=∃ b o l,H b=some o∧o.bC=false∧ι b=some l∧l.ro=false∧l.dR=c
structure R (X:Env) (ι:cR) (H:aY) (n:Nat) (w:World):Prop where
 even:∀ b,ι (2*b)=some ⟨b,0,0,true⟩
 GZ:n%2=1
 fresh:∀ b,n≤b→b%2=1→ι b=none
 qx:∀ b l,ι b=some l→l.ro=false→l.dR<w.heap.size
 obj:∀ b o,H b=some o→o.bC=false→∃ l,ι b=some l∧nV X ι w l o
 inj:∀ b b' o o' l l',H b=some o→o.bC=false→H b'=some o'→o'.bC=false→ι b=some l→ι b'=some l'→l.ro=false→l.dR=l'.dR→b=b'
structure Ext (ι:cR) (H:aY) (n:Nat) (w:World) (ι':cR) (H':aY) (n':Nat) (w':World):Prop where
 le:ι.le ι'
 new:∀ b,ι b=none→(b<n∨n'≤b)→ι' b=none
 nxt:n≤n'
 os:w'.os=w.os
 tape:w'.tape=w.tape
 output:w'.output=w.output
 size:w.heap.size≤w'.heap.size
 aF:∀ c,c<w.heap.size→¬ Own ι H c→w'.heap[c]?=w.heap[c]?
 own:∀ c,Own ι' H' c→Own ι H c∨w.heap.size≤c
section
variable {X:Env} {ι ι' ι'':cR} {H H' H'':aY} {n n' n'':Nat} {w w' w'':World}
theorem Ext.refl:Ext ι H n w ι H n w:=⟨cR.le_refl _,fun _ h _=>h,Nat.le_refl _,rfl,rfl,rfl,Nat.le_refl _,fun _ _ _=>rfl,fun _ h=>.inl h⟩
theorem Ext.trans (h:Ext ι H n w ι' H' n' w') (k:Ext ι' H' n' w' ι'' H'' n'' w''):Ext ι H n w ι'' H'' n'' w'' :=
 ⟨cR.le_trans h.le k.le,fun b hb hn=>k.new b (h.new b hb (by have:=k.nxt;omega)) (by have:=h.nxt;omega),Nat.le_trans h.nxt k.nxt,
  k.os.trans h.os,k.tape.trans h.tape,k.output.trans h.output,Nat.le_trans h.size k.size,
  fun c hc ho=>(k.aF c (Nat.lt_of_lt_of_le hc h.size) (fun ho'=>(h.own c ho').elim ho (by omega))).trans (h.aF c hc ho),
  fun c ho=>(k.own c ho).elim (h.own c) (fun hs=>.inr (Nat.le_trans h.size hs))⟩
def vQ (H:aY) (b:Nat) (o:bX):aY:=fun c=>if c=b then some o else H c
theorem JX (s:St) (b:Nat) (f:Nat→bX):(s.put b f).look=vQ s.look b (f s.cM):=by
 funext c;simp[St.look,St.put,vQ,PT.bU]
theorem WC (s:St) (f:Nat→bX):(s.new f).look=vQ s.look s.next (f s.cM):=by
 funext c;simp[St.look,St.new,vQ,PT.bU]
theorem R.uk (h:R X ι H n w) (hs:∀ b o,H' b=some o→o.bC=false→H b=some o):R X ι H' n w :=
 ⟨h.even,h.GZ,h.fresh,h.qx,fun b o hb hd=>h.obj b o (hs b o hb hd) hd,
  fun b b' o o' l l' hb hd hb' hd'=>h.inj b b' o o' l l' (hs b o hb hd) hd (hs b' o' hb' hd') hd'⟩
theorem R.drew (h:R X ι H n w) (hh:w'.heap=w.heap):R X ι H n w' :=
 ⟨h.even,h.GZ,h.fresh,fun b l hb hr=>hh ▸ h.qx b l hb hr,fun b o hb hd=>let ⟨l,h1,h2⟩:=h.obj b o hb hd;⟨l,h1,h2.mono (cR.le_refl _) (by rw[hh])⟩,h.inj⟩
theorem R.put (h:R X ι H n w) {b:Nat} {o:bX} {l:Loc} (hb:H b=some o) (hd:o.bC=false) (hl:ι b=some l) (hro:l.ro=false) (x:Obj) {o':bX}
  (ho:nV X ι (World.dM w l.dR x) l o'):R X ι (vQ H b o') n (World.dM w l.dR x):=by
 refine⟨h.even,h.GZ,h.fresh,fun b l hb hr=>by rw[GJ];exact h.qx b l hb hr,?_,?_⟩
 ·intro c oc hc hdc
  unfold vQ at hc
  split at hc
  ·rename_i e
   subst e
   cases hc
   exact⟨l,hl,ho⟩
  ·rename_i e
   obtain⟨lc,h1,h2⟩:=h.obj c oc hc hdc
   refine⟨lc,h1,h2.mono (cR.le_refl _) (hY ?_)⟩
   intro he
   exact e (h.inj b c o oc l lc hb hd hc hdc hl h1 hro he.symm).symm
 ·intro c c' oc oc' lc lc' hc hdc hc' hdc' h1 h2 hr he
  have key:∀ d od,vQ H b o' d=some od→od.bC=false→∃ od',H d=some od'∧od'.bC=false:=by
   intro d od hd1 hd2
   unfold vQ at hd1
   split at hd1
   ·rename_i e;subst e;exact⟨o,hb,hd⟩
   ·exact⟨od,hd1,hd2⟩
  obtain⟨x1,hx1,hx2⟩:=key c oc hc hdc
  obtain⟨y1,hy1,hy2⟩:=key c' oc' hc' hdc'
  exact h.inj c c' x1 y1 lc lc' hx1 hx2 hy1 hy2 h1 h2 hr he
theorem Ext.put {b:Nat} {o:bX} {l:Loc} (hb:H b=some o) (hd:o.bC=false) (hl:ι b=some l) (hro:l.ro=false) (x:Obj) (o':bX) :
  Ext ι H n w ι (vQ H b o') n (World.dM w l.dR x):=by
 refine⟨cR.le_refl _,fun _ h _=>h,Nat.le_refl _,rfl,rfl,rfl,by simp,?_,?_⟩
 ·intro c hc ho
  exact hY fun e=>ho ⟨b,o,l,hb,hd,hl,hro,e.symm⟩
 ·rintro c ⟨d,od,ld,h1,h2,h3,h4,h5⟩
  unfold vQ at h1
  split at h1
  ·rename_i e
   subst e
   exact .inl ⟨d,o,l,hb,hd,hl,hro,by rw[hl] at h3;cases h3;exact h5⟩
  ·exact .inl ⟨d,od,ld,h1,h2,h3,h4,h5⟩
def cR.add (ι:cR) (n:Nat) (l:Loc):cR:=fun b=>if b=n then some l else ι b
theorem cR.add_same (ι:cR) (n:Nat) (l:Loc):ι.add n l n=some l:=by simp[cR.add]
theorem cR.oB {l:Loc} (h:ι n=none):ι.le (ι.add n l):=by
 intro b x hb
 unfold cR.add
 split
 ·rename_i e;subst e;rw[h] at hb;cases hb
 ·exact hb
theorem R.newAt {ex:Nat} (h:R X ι H n w) (nm n':Nat) (hfree:ι nm=none) (hodd:nm%2=1) (hn:n≤n') (hn':n'%2=1) (gU:nm<n') (x:Obj) {o':bX}
  (ho:nV X (ι.add nm ⟨w.heap.size,0,ex,false⟩) (w.alloc x) ⟨w.heap.size,0,ex,false⟩ o') :
  R X (ι.add nm ⟨w.heap.size,0,ex,false⟩) (vQ H nm o') n' (w.alloc x):=by
 have hle:ι.le (ι.add nm ⟨w.heap.size,0,ex,false⟩):=cR.oB hfree
 refine⟨?_,hn',?_,?_,?_,?_⟩
 ·intro b
  unfold cR.add
  rw[if_neg (by omega)]
  exact h.even b
 ·intro b hb hb2
  unfold cR.add
  rw[if_neg (by omega)]
  exact h.fresh b (by omega) hb2
 ·intro b l hb hr
  unfold cR.add at hb
  split at hb
  ·cases hb;simp
  ·have:=h.qx b l hb hr;simp;omega
 ·intro c oc hc hdc
  unfold vQ at hc
  split at hc
  ·rename_i e
   subst e
   cases hc
   exact⟨_,cR.add_same _ _ _,ho⟩
  ·obtain⟨lc,h1,h2⟩:=h.obj c oc hc hdc
   refine⟨lc,hle _ _ h1,h2.mono hle ?_⟩
   by_cases hlt':lc.dR<w.heap.size
   ·exact heap_alloc_old hlt'
   ·
    exfalso
    cases oc with
    | cells=>obtain⟨_,_,_,h3,_⟩:=h2;exact hlt' (bG h3)
    | map=>obtain⟨_,_,_,_,h3,_⟩:=h2;exact hlt' (bG h3)
    | eU m =>
     cases m with
     | none=>obtain⟨_,_,_,_,_,_,h3⟩:=h2;exact hlt' (bG h3)
     | some m=>obtain⟨_,_,_,_,_,h3⟩:=h2;exact hlt' (bG h3)
    | nW=>exact hlt' (bG h2.2.2.2)
    | loop=>obtain⟨_,_,_,_,_,_,_,h3,_⟩:=h2;exact hlt' (bG h3)
    | dead=>cases hdc
 ·have hblk:∀ d od ld,H d=some od→od.bC=false→ι d=some ld→ld.dR<w.heap.size:=by
   intro d od ld h1 h2 h3
   obtain⟨l',h4,h5⟩:=h.obj d od h1 h2
   rw[h3] at h4;cases h4
   cases od with
   | cells=>obtain⟨_,_,_,h3,_⟩:=h5;exact bG h3
   | map=>obtain⟨_,_,_,_,h3,_⟩:=h5;exact bG h3
   | eU m =>
    cases m with
    | none=>obtain⟨_,_,_,_,_,_,h3⟩:=h5;exact bG h3
    | some m=>obtain⟨_,_,_,_,_,h3⟩:=h5;exact bG h3
   | nW=>exact bG h5.2.2.2
   | loop=>obtain⟨_,_,_,_,_,_,_,h3,_⟩:=h5;exact bG h3
   | dead=>cases h2
  intro c c' oc oc' lc lc' hc hdc hc' hdc' h1 h2 hr he
  unfold vQ at hc hc'
  unfold cR.add at h1 h2
  by_cases e1:c=nm <;> by_cases e2:c'=nm
  ·rw[e1,e2]
  ·rw[if_pos e1] at h1
   rw[if_neg e2] at h2 hc'
   cases h1
   have:=hblk c' oc' lc' hc' hdc' h2
   simp only at he;omega
  ·rw[if_neg e1] at h1 hc
   rw[if_pos e2] at h2
   cases h2
   have:=hblk c oc lc hc hdc h1
   simp only at he;omega
  ·rw[if_neg e1] at h1 hc
   rw[if_neg e2] at h2 hc'
   exact h.inj c c' oc oc' lc lc' hc hdc hc' hdc' h1 h2 hr he
theorem Ext.newAt {ex:Nat} (nm n':Nat) (hfree:ι nm=none) (hnm:n≤nm) (hn:n≤n') (gU:nm<n') (x:Obj) (o':bX) :
  Ext ι H n w (ι.add nm ⟨w.heap.size,0,ex,false⟩) (vQ H nm o') n' (w.alloc x):=by
 refine⟨cR.oB hfree,?_,hn,rfl,rfl,rfl,by simp,fun c hc _=>heap_alloc_old hc,?_⟩
 ·intro b hb' hb2
  unfold cR.add
  rw[if_neg (by omega)]
  exact hb'
 ·rintro c ⟨d,od,ld,h1,h2,h3,h4,h5⟩
  unfold vQ at h1
  unfold cR.add at h3
  split at h1
  ·rename_i e
   rw[if_pos e] at h3
   cases h3
   exact .inr (by simp only at h5;omega)
  ·rename_i e
   rw[if_neg e] at h3
   exact .inl ⟨d,od,ld,h1,h2,h3,h4,h5⟩
end
end Go.Dust
