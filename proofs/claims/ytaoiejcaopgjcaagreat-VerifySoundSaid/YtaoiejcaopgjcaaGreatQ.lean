/- VerifySound walked in D, function by function, and its plain law (C1 C2). -/
import Derived.Test.YtaoiejcaopgjcaaGreatP
set_option linter.unusedVariables false
set_option linter.unusedSimpArgs false
open Nat renaming reduceEqDiff → zA, reduceMul → zB, reduceAdd → zC, reduceBEq → zD
open Int renaming reduceEq → zE, reduceBEq → zF
namespace Go.Dust
open Go.Proofs
set_option maxRecDepth 100000
abbrev ptr (b:Nat):Value:=.pointer (some ⟨b,0,none⟩)
abbrev int (n:Int):Value:=.int .i64 n
def Obj (s:St) (b:Nat) (L:List Value):Prop:=∃ e,Cells s b e L
namespace Obj
variable {F:List Nat} {s s':St} {b i:Nat} {L:List Value} {v:Value}
theorem aF (h:Obj s b L) (k:aC F s s') (hb:b∉F):Obj s' b L:=let ⟨e,h⟩:=h;⟨e,h.aF k hb⟩
theorem load (h:Obj s b L) (hi:L[i]?=some v):aI s.look ⟨b,i,none⟩=some v:=let ⟨_,h⟩:=h;h.load hi
theorem same (h:Obj s b L) (hs:Ok s) (k:aC F s s') (hb:b∉F):bP s s' b=true:=let ⟨_,h⟩:=h;h.same hs k hb
theorem lt (h:Obj s b L) (hs:Ok s):b<s.next:=let ⟨_,h⟩:=h;h.lt hs
theorem dU (h:Obj s b L) (hs:Ok s) (hi:i<L.length) (h1:kZ v=true):∃ s',bJ s ⟨b,i,none⟩ [v]=some s'∧Obj s' b (L.set i v)∧aC [b] s s':=by
 obtain⟨e,h⟩:=h
 obtain⟨s',h1,h2,h3⟩:=h.dU hs hi h1
 exact⟨s',h1,⟨e,h2⟩,h3⟩
theorem sl {n c m:Nat} (h:Obj s b L) (hn:L.length=n*m):Sl s m (.slice (some ⟨b,0,none⟩) n c) L:=by
 obtain⟨e,h⟩:=h
 have:=Sl.ym (n:=n) (m:=m) (off:=0) (c:=c) h (by omega)
 rwa [List.drop_zero,List.take_of_length_le (by omega)] at this
end Obj
structure gS (s:St) (t u n w:Nat) (L:Nat→Nat):Prop where
 c:Obj s t [int n,int w,.slice (some ⟨u,0,none⟩) ((n*w+63)/64) ((n*w+63)/64)]
 ws:∃ U:List Nat,Obj s u (U.map fun(x:Nat)=>Value.int .u64 (x:Int))∧U.length=(n*w+63)/64∧(∀ x∈U,x<2 ^ 64)∧∀ i,i<n→tf (U.getD (i*w/64) 0) (i*w%64) w=L i
 ne:t≠u
 n0:0<n
 n1:n≤4096
 w1:w=1∨w=2∨w=4∨w=8
namespace gS
variable {F:List Nat} {s s':St} {t u n w:Nat} {L:Nat→Nat}
theorem aF (h:gS s t u n w L) (k:aC F s s') (h1:t∉F) (h2:u∉F):gS s' t u n w L:=by
 obtain⟨c,⟨U,w1,w2,w3,w4⟩,h3,h4,h5,h6⟩:=h
 exact⟨c.aF k h1,⟨U,w1.aF k h2,w2,w3,w4⟩,h3,h4,h5,h6⟩
theorem w8 (h:gS s t u n w L):w≤8:=by have:=h.w1;omega
theorem wpos (h:gS s t u n w L):0<w:=by have:=h.w1;omega
theorem lt (h:gS s t u n w L) {i:Nat} (hi:i<n):L i<2 ^ w:=by
 obtain⟨U,_,_,_,w4⟩:=h.ws
 rw[← w4 i hi];exact tg _ _ _
theorem idx (h:gS s t u n w L) {i:Nat} (hi:i<n):i*w/64<(n*w+63)/64:=by
 rcases h.w1 with rfl | rfl | rfl | rfl <;> omega
theorem l0 (h:gS s t u n w L):aI s.look ⟨t,0,none⟩=some (int n):=h.c.load rfl
theorem l1 (h:gS s t u n w L):aI s.look ⟨t,1,none⟩=some (int w):=h.c.load rfl
theorem l2 (h:gS s t u n w L):aI s.look ⟨t,2,none⟩=some (.slice (some ⟨u,0,none⟩) ((n*w+63)/64) ((n*w+63)/64)):=h.c.load rfl
theorem congr {L':Nat→Nat} (h:gS s t u n w L) (e:∀ i,i<n→L i=L' i):gS s t u n w L':=by
 obtain⟨c,⟨U,w1,w2,w3,w4⟩,h3,h4,h5,h6⟩:=h
 exact⟨c,⟨U,w1,w2,w3,fun i hi=>(w4 i hi).trans (e i hi)⟩,h3,h4,h5,h6⟩
end gS
def qS (L:Nat→Nat) (i v:Nat):Nat→Nat:=fun j=>if j=i then v else L j
section
variable {kc:Kc} {q:Bool} {s:St} {Φ:Value→St→Prop} {t u n w:Nat} {L:Nat→Nat}
theorem cv:type_of% (An @RX<|An @ye<|An @xx<|An @oY<|@bF):=An @RX<|An @ye<|An @xx<|An @oY<|@bF
theorem yS (h:gS s t u n w L) (hΦ:Φ (.bool true) s):okF q X (KO kc) 172 [ptr t] s Φ:=by
 refine aG rfl fn_172 rfl (rs:=[.tmp 2]) rfl (N:=12) rfl rfl ?_
 refine aA fun Ψ hΨ hΨ'=>?_
 simp only[cv,↓reduceIte,zA,reduceCtorEq,zE,zB,zC,zD,zF]
 refine hΨ _ _ ?_
 refine aA fun Ψ hΨ hΨ'=>?_
 refine aH [(2,5)] (by kernel_rfl) fun O hO ΨR hR=>?_
 have y2:∀ a,aE O a 2=aM (a.aD 5):=hO (2,5) (by simp)
 simp only[cv,↓reduceIte,zA,reduceCtorEq,zE,zB,zC,zD,zF,h.l0,y2,h.n0,Int.natCast_pos,decide_true]
 refine hR _ _ (hΨ _ _ ?_)
 simp only[cv,↓reduceIte,zA,reduceCtorEq,zE,zB,zC,zD,zF]
 exact hΦ
theorem vB:type_of% (An @RX<|An @oY<|@bF):=An @RX<|An @oY<|@bF
theorem LN (h:gS s t u n w L) (i:Int) (hΦ:Φ (.bool (decide (0≤i∧i<n))) s):okF q X (KO kc) 165 [ptr t,int i] s Φ:=by
 refine aG rfl fn_165 rfl (rs:=[.tmp 4]) rfl (N:=19) rfl rfl ?_
 refine aA fun Ψ hΨ hΨ'=>?_
 simp only[vB,↓reduceIte,zA,reduceCtorEq,zE,zB,zC,zD,zF]
 refine hΨ _ _ ?_
 refine aA fun Ψ hΨ hΨ'=>?_
 refine aH [(2,7),(6,11)] (by kernel_rfl) fun O hO ΨR hR=>?_
 have y2:∀ a,aE O a 2=aM (a.aD 7):=hO (2,7) (by simp)
 have y6:∀ a,aE O a 6=aM (a.aD 11):=hO (6,11) (by simp)
 simp only[vB,↓reduceIte,zA,reduceCtorEq,zE,zB,zC,zD,zF]
 refine aB ?_ (yS h ?_)
 ·simp only[vB,↓reduceIte,zA,reduceCtorEq,zE,zB,zC,zD,zF]
 by_cases h0:i≥0
 ·by_cases h1:i<n
  ·simp only[vB,↓reduceIte,zA,reduceCtorEq,zE,zB,zC,zD,zF,y2,y6,h.l0,h0,h1,decide_true]
   refine hR _ _ (hΨ _ _ ?_)
   simp only[vB,↓reduceIte,zA,reduceCtorEq,zE,zB,zC,zD,zF]
   rw[decide_eq_true ⟨h0,h1⟩] at hΦ
   exact hΦ
  ·simp only[vB,↓reduceIte,zA,reduceCtorEq,zE,zB,zC,zD,zF,y2,y6,h.l0,h0,h1,decide_true,decide_false]
   refine hR _ _ (hΨ _ _ ?_)
   simp only[vB,↓reduceIte,zA,reduceCtorEq,zE,zB,zC,zD,zF]
   rw[decide_eq_false (by omega)] at hΦ
   exact hΦ
 ·simp only[vB,↓reduceIte,zA,reduceCtorEq,zE,zB,zC,zD,zF,y2,y6,h.l0,h0,decide_true,decide_false]
  refine hR _ _ (hΨ _ _ ?_)
  simp only[vB,↓reduceIte,zA,reduceCtorEq,zE,zB,zC,zD,zF]
  rw[decide_eq_false (by omega)] at hΦ
  exact hΦ
theorem shl1 {w:Nat} (hw:w≤8):pU .shl .i64 1 (w:Int)=some (int (2 ^ w:Nat))∧IntKind.i64.wrap (((2 ^ w:Nat):Int)-1)=((2 ^ w-1:Nat):Int):=by
 match w,hw with
 | 0,_ | 1,_ | 2,_ | 3,_ | 4,_ | 5,_ | 6,_ | 7,_ | 8,_=>exact⟨rfl,rfl⟩
theorem tf_209:type_of% (An @RX<|An @tJ<|@bF):=An @RX<|An @tJ<|@bF
theorem EL (h:gS s t u n w L) (hΦ:Φ (int (2 ^ w-1:Nat)) s):okF q X (KO kc) 209 [ptr t] s Φ:=by
 refine aG rfl fn_209 rfl (rs:=[.tmp 2]) rfl (N:=9) rfl rfl ?_
 simp only[tf_209,↓reduceIte,zA,reduceCtorEq,zE,zB,zC,zD,zF,h.l1,(shl1 h.w8).1,(shl1 h.w8).2]
 exact hΦ
theorem sg (X:Env) (H:aY) (t:TypeId) (x y:Int):binop X H .shr t (.int .u64 x) (.int .i64 y)=pU .shr .u64 x y:=rfl
theorem sf (X:Env) (H:aY) (t:TypeId) (x y:Int):binop X H .shl t (.int .u64 x) (.int .i64 y)=pU .shl .u64 x y:=rfl
theorem bin_and (X:Env) (H:aY) (t:TypeId) (x y:Int):binop X H .and t (.int .i64 x) (.int .i64 y)=some (.int .i64 (IntKind.i64.wrap ((BitVec.ofInt 64 x &&& BitVec.ofInt 64 y).toNat))):=rfl
theorem bin_orU (X:Env) (H:aY) (t:TypeId) (x y:Int):binop X H .or t (.int .u64 x) (.int .u64 y)=some (.int .u64 (IntKind.u64.wrap ((BitVec.ofInt 64 x ||| BitVec.ofInt 64 y).toNat))):=rfl
theorem TT (X:Env) (H:aY) (t:TypeId) (x y:Int):binop X H .andNot t (.int .u64 x) (.int .u64 y)=some (.int .u64 (IntKind.u64.wrap ((BitVec.ofInt 64 x &&& ~~~ BitVec.ofInt 64 y).toNat))):=rfl
theorem shrU {u sh:Nat} (hs:sh≤64):pU .shr .u64 (u:Int) (sh:Int)=some (.int .u64 ((u/2 ^ sh:Nat):Int)):=by
 unfold pU
 rw[if_neg (by omega),Int.toNat_natCast,show min sh IntKind.u64.bits=sh from Nat.min_eq_left hs]
 simp only[Int.fdiv_eq_ediv_of_nonneg _ (Int.pow_nonneg (show (0:Int)≤2 by omega))]
 congr 2
theorem shlU {u sh:Nat} (hs:sh≤64) (hu:u*2 ^ sh<2 ^ 64):pU .shl .u64 (u:Int) (sh:Int)=some (.int .u64 ((u*2 ^ sh:Nat):Int)):=by
 unfold pU
 rw[if_neg (by omega),Int.toNat_natCast,show min sh IntKind.u64.bits=sh from Nat.min_eq_left hs]
 simp only
 rw[show (u:Int)*2 ^ sh=((u*2 ^ sh:Nat):Int) from by simp,YG (by omega) (by omega)]
theorem mulW {i w:Nat} (hi:i≤4096) (hw:w≤8):IntKind.i64.wrap ((i:Int)*(w:Int))=((i*w:Nat):Int):=by
 have:i*w≤4096*8:=Nat.mul_le_mul hi hw
 rw[← Int.natCast_mul,aR (by omega) (by omega)]
theorem ET:type_of% (An @RX<|An @tJ<|An @bF<|An @BQ<|An @RH<|An @RA<|An @RI<|@UH):=An @RX<|An @tJ<|An @bF<|An @BQ<|An @RH<|An @RA<|An @RI<|@UH
theorem LM (hs:Ok s) (h:gS s t u n w L) {i:Nat} (hi:i<n) (hΦ:∀ s',aC [] s s'→Φ (int (L i)) s'):okF q X (KO kc) 166 [ptr t,int i] s Φ:=by
 obtain⟨U,hU,hlen,hb,hL⟩:=h.ws
 have hix:=h.idx hi
 have hiw:i*w<4096*8:=Nat.lt_of_lt_of_le (Nat.mul_lt_mul_of_pos_right hi h.wpos) (Nat.mul_le_mul h.n1 h.w8)
 have hu:U[i*w/64]?=some (U.getD (i*w/64) 0):=by rw[List.getD_eq_getElem?_getD,List.getElem?_eq_getElem (by omega)];rfl
 have hux:=hb _ (List.mem_of_getElem? hu)
 have hload:aI s.look ⟨u,i*w/64,none⟩=some (.int .u64 ((U.getD (i*w/64) 0:Nat):Int)):=hU.load (by rw[List.getElem?_map,hu];rfl)
 have hent:=uy (sh:=i*w%64) hux h.w8
 rw[hL i hi] at hent
 have m1:=mulW (i:=i) (w:=w) (by have:=h.n1;omega) h.w8
 refine aG rfl fn_166 rfl (rs:=[.tmp 4]) rfl (N:=27) rfl rfl ?_
 refine aA fun Ψ hΨ hΨ'=>?_
 simp only[ET,↓reduceIte,zA,reduceCtorEq,zE,zB,zC,zD,zF]
 refine hΨ _ _ ?_
 refine aA fun Ψ hΨ hΨ'=>?_
 simp only[ET,↓reduceIte,zA,reduceCtorEq,zE,zB,zC,zD,zF,h.l1,m1]
 refine hΨ _ _ ?_
 refine aA fun Ψ hΨ hΨ'=>?_
 refine aQ [(3,13),(7,13)] [t,u] [] (by kernel_rfl) (by kernel_rfl) (by rfl) fun O hO ΨR hR=>?_
 have q1:((i*w:Nat):Int).tdiv 64=((i*w/64:Nat):Int):=rfl
 have q2:((i*w:Nat):Int).tmod 64=((i*w%64:Nat):Int):=rfl
 have q3:IntKind.i64.wrap ((i*w/64:Nat):Int)=((i*w/64:Nat):Int):=aR (by omega) (by omega)
 have q4:(0:Int)≤((i*w/64:Nat):Int):=Int.natCast_nonneg _
 have q5:((i*w/64:Nat):Int)<(((n*w+63)/64:Nat):Int):=by omega
 simp only[ET,↓reduceIte,zA,reduceCtorEq,zE,zB,zC,zD,zF,h.l2,q1,q2,q3,q4,q5,hload,sg,shrU (u:=U.getD (i*w/64) 0) (show i*w%64≤64 by omega),aJ,Int.toNat_natCast,Nat.mul_one,Nat.zero_add,and_self,Nat.reduceBEq]
 refine aW ?_ (EL (h.aF (aC.skip (F:=[]) hs _) (by simp) (by simp)) ?_)
 ·simp only[ET,↓reduceIte,zA,reduceCtorEq,zE,zB,zC,zD,zF]
 simp only[ET,↓reduceIte,zA,reduceCtorEq,zE,zB,zC,zD,zF,bin_and,hent]
 refine⟨aV (h.c.same hs (aC.skip (F:=[]) hs _) (by simp)) (aV (hU.same hs (aC.skip (F:=[]) hs _) (by simp)) bR),hR _ _ (hΨ _ _ ?_)⟩
 simp only[ET,↓reduceIte,zA,reduceCtorEq,zE,zB,zC,zD,zF]
 exact hΦ _ (.skip hs _)
theorem AT:type_of% (An @RC<|An @RO<|An @RD<|An @RV<|An @RB<|@RG):=An @RC<|An @RO<|An @RD<|An @RV<|An @RB<|@RG
theorem bx (h:gS s t u n w L) (v:Int) (hΦ:Φ (.bool (decide (0≤v∧v≤(2 ^ w-1:Nat)))) s):okF q X (KO kc) 208 [ptr t,int v] s Φ:=by
 refine aG rfl fn_208 rfl (rs:=[.tmp 4]) rfl (N:=13) rfl rfl ?_
 refine aA fun Ψ hΨ hΨ'=>?_
 simp only[AT,↓reduceIte,zA,reduceCtorEq,zE,zB,zC,zD,zF]
 refine hΨ _ _ ?_
 refine aA fun Ψ hΨ hΨ'=>?_
 refine aH [(2,7)] (by kernel_rfl) fun O hO ΨR hR=>?_
 have y2:∀ a,aE O a 2=aM (a.aD 7):=hO (2,7) (by simp)
 by_cases h0:v≥0
 ·simp only[AT,↓reduceIte,zA,reduceCtorEq,zE,zB,zC,zD,zF,y2,h0,decide_true]
  refine aB ?_ (EL h ?_)
  ·simp only[AT,↓reduceIte,zA,reduceCtorEq,zE,zB,zC,zD,zF]
  simp only[AT,↓reduceIte,zA,reduceCtorEq,zE,zB,zC,zD,zF,y2,h0,decide_true]
  refine hR _ _ (hΨ _ _ ?_)
  simp only[AT,↓reduceIte,zA,reduceCtorEq,zE,zB,zC,zD,zF]
  rw[show decide (0≤v∧v≤((2 ^ w-1:Nat):Int))=decide (v≤((2 ^ w-1:Nat):Int)) from by simp[h0]] at hΦ
  exact hΦ
 ·simp only[AT,↓reduceIte,zA,reduceCtorEq,zE,zB,zC,zD,zF,y2,h0,decide_false]
  refine hR _ _ (hΨ _ _ ?_)
  simp only[AT,↓reduceIte,zA,reduceCtorEq,zE,zB,zC,zD,zF]
  rw[decide_eq_false (by omega)] at hΦ
  exact hΦ
theorem orN (x:BitVec 64):BitVec.ofInt 64 (IntKind.u64.wrap (x.toNat:Int))=x:=by
 have:=BitVec.isLt x
 rw[YG (by omega) (by omega),yG]
 simp
theorem EO:type_of% (An @RX<|An @tJ<|An @bF<|An @BQ<|An @RH<|An @RA<|An @RI<|An @UJ<|@aA5):=An @RX<|An @tJ<|An @bF<|An @BQ<|An @RH<|An @RA<|An @RI<|An @UJ<|@aA5
theorem zv (hs:Ok s) (h:gS s t u n w L) {i v:Nat} (hi:i<n) (hv:v<2 ^ w) (hΦ:∀ s',gS s' t u n w (qS L i v)→aC [u] s s'→Φ (.tuple #[]) s'):okF q X (KO kc) 140 [ptr t,int i,int v] s Φ:=by
 obtain⟨U,hU,hlen,hb,hL⟩:=h.ws
 have hix:=h.idx hi
 have hiw:i*w<4096*8:=Nat.lt_of_lt_of_le (Nat.mul_lt_mul_of_pos_right hi h.wpos) (Nat.mul_le_mul h.n1 h.w8)
 have hu:U[i*w/64]?=some (U.getD (i*w/64) 0):=by rw[List.getD_eq_getElem?_getD,List.getElem?_eq_getElem (by omega)];rfl
 have hux:=hb _ (List.mem_of_getElem? hu)
 have hload:aI s.look ⟨u,i*w/64,none⟩=some (.int .u64 ((U.getD (i*w/64) 0:Nat):Int)):=hU.load (by rw[List.getElem?_map,hu];rfl)
 have m1:=mulW (i:=i) (w:=w) (by have:=h.n1;omega) h.w8
 have hal:=dp (i:=i) h.w1
 have hpw:=pow8 h.w8
 have hshift:∀ x,x<2 ^ w→x*2 ^ (i*w%64)<2 ^ 64:=by
  intro x hx
  have:x*2 ^ (i*w%64)<2 ^ w*2 ^ (i*w%64):=Nat.mul_lt_mul_of_pos_right hx (Nat.two_pow_pos _)
  rw[← Nat.pow_add] at this
  exact Nat.lt_of_lt_of_le this (Nat.pow_le_pow_right (by omega) (by omega))
 refine aG rfl fn_140 rfl (rs:=[]) rfl (N:=39) rfl rfl ?_
 refine aA fun Ψ hΨ hΨ'=>?_
 simp only[EO,↓reduceIte,zA,reduceCtorEq,zE,zB,zC,zD,zF,h.l1,m1]
 refine hΨ _ _ ?_
 have q1:((i*w:Nat):Int).tdiv 64=((i*w/64:Nat):Int):=rfl
 have q2:((i*w:Nat):Int).tmod 64=((i*w%64:Nat):Int):=rfl
 have q3:IntKind.i64.wrap ((i*w/64:Nat):Int)=((i*w/64:Nat):Int):=aR (by omega) (by omega)
 have q4:(0:Int)≤((i*w/64:Nat):Int):=Int.natCast_nonneg _
 have q5:((i*w/64:Nat):Int)<(((n*w+63)/64:Nat):Int):=by omega
 refine aA fun Ψ hΨ hΨ'=>?_
 simp only[EO,↓reduceIte,zA,reduceCtorEq,zE,zB,zC,zD,zF,h.l2,q1,q3,q4,q5,aJ,Int.toNat_natCast,Nat.mul_one,Nat.zero_add,and_self]
 refine hΨ _ _ ?_
 refine aQ [(3,5)] [u] [] (by kernel_rfl) (by kernel_rfl) (by rfl) fun O hO ΨR hR=>?_
 simp only[EO,↓reduceIte,zA,reduceCtorEq,zE,zB,zC,zD,zF,hload,Nat.reduceBEq]
 refine aW ?_ (EL (h.aF (aC.skip (F:=[]) hs _) (by simp) (by simp)) ?_)
 ·simp only[EO,↓reduceIte,zA,reduceCtorEq,zE,zB,zC,zD,zF]
 have e1:IntKind.u64.wrap ((2 ^ w-1:Nat):Int)=((2 ^ w-1:Nat):Int):=YG (by omega) (by omega)
 have e2:IntKind.u64.wrap ((v:Nat):Int)=((v:Nat):Int):=YG (by omega) (by omega)
 have e3:=shlU (u:=2 ^ w-1) (sh:=i*w%64) (by omega) (hshift _ (by omega))
 have e4:=shlU (u:=v) (sh:=i*w%64) (by omega) (hshift _ hv)
 have e5:IntKind.u64.wrap ((BitVec.ofNat 64 (U.getD (i*w/64) 0) &&& ~~~ BitVec.ofNat 64 ((2 ^ w-1)*2 ^ (i*w%64)) ||| BitVec.ofNat 64 (v*2 ^ (i*w%64))).toNat:Int)=((WX (U.getD (i*w/64) 0) (i*w%64) w v:Nat):Int):=by
  have:=BitVec.isLt (BitVec.ofNat 64 (U.getD (i*w/64) 0) &&& ~~~ BitVec.ofNat 64 ((2 ^ w-1)*2 ^ (i*w%64)) ||| BitVec.ofNat 64 (v*2 ^ (i*w%64)))
  rw[YG (by omega) (by omega)]
  rfl
 obtain⟨s1,hs1,hU1,hk1⟩:=(hU.aF (aC.skip (F:=[]) hs 38) (by simp)).dU (hs.skip 38) (i:=i*w/64) (v:=.int .u64 ((WX (U.getD (i*w/64) 0) (i*w%64) w v:Nat):Int)) (by rw[List.length_map];omega) rfl
 simp only[EO,↓reduceIte,zA,reduceCtorEq,zE,zB,zC,zD,zF,q2,e1,e2,e3,e4,sf,TT,bin_orU,orN,yG,e5,hload,hs1]
 have hk:aC [u] s s1:=(aC.skip hs _).trans hk1
 refine⟨aV (hU.same hs (aC.skip (F:=[]) hs _) (by simp)) bR,hR _ _ ?_⟩
 simp only[EO,↓reduceIte,zA,reduceCtorEq,zE,zB,zC,zD,zF]
 refine hΦ _ ⟨h.c.aF hk (by simp;exact h.ne),⟨U.set (i*w/64) (WX (U.getD (i*w/64) 0) (i*w%64) w v),?_,?_,?_,?_⟩,h.ne,h.n0,h.n1,h.w1⟩ hk
 ·rw[List.map_set];exact hU1
 ·rw[List.length_set];exact hlen
 ·intro x hx
  rcases List.mem_or_eq_of_mem_set hx with hx | rfl
  ·exact hb x hx
  ·exact putw_lt _ _ _ _
 ·intro j hj
  have hjx:=h.idx hj
  simp only[List.getD_eq_getElem?_getD,List.getElem?_set,qS]
  by_cases hji:j=i
  ·subst hji
   rw[if_pos rfl,if_pos (by omega),if_pos rfl]
   exact th hal hv
  ·rw[if_neg hji]
   by_cases he:i*w/64=j*w/64
   ·rw[if_pos he,if_pos (by omega)]
    have:=UN (u:=U.getD (i*w/64) 0) (dp (i:=j) h.w1) hv (sh:=i*w%64) (by rcases apart h.w1 hji he.symm with h | h <;> omega)
    rw[← hL j hj,← he]
    exact this
   ·rw[if_neg he,← hL j hj,List.getD_eq_getElem?_getD]
end
open Go.Proofs
set_option maxRecDepth 100000
abbrev tR (s:St) (v:Value) (l:List Int):Prop:=Sl s 1 v (l.map (Value.int .i64))
theorem tR.len {s:St} {a:Option Addr} {n c:Nat} {l:List Int} (h:tR s (.slice a n c) l):l.length=n:=by
 have:=Sl.len h
 rw[List.length_map] at this;omega
theorem tR.get {s:St} {b off n c:Nat} {l:List Int} (h:tR s (.slice (some ⟨b,off,none⟩) n c) l) {i:Nat} {x:Int} (hx:l[i]?=some x):aI s.look ⟨b,off+i,none⟩=some (int x):=by
 refine Sl.load h ?_
 rw[List.getElem?_map,hx];rfl
def idxOf (p:Int→Bool) (l:List Int):Int:=match l.findIdx? p with
 | some i=>i
 | none=>-1
theorem OG {p:Int→Bool} {l:List Int} {i:Nat} {x:Int} (hx:l[i]?=some x) (hp:p x=true) (hn:∀ k y,k<i→l[k]?=some y→p y=false):idxOf p l=i:=by
 unfold idxOf
 have:l.findIdx? p=some i:=by
  rw[List.findIdx?_eq_some_iff_getElem]
  have hi:=(List.getElem?_eq_some_iff.1 hx)
  have hi1:=hi.1
  refine⟨hi.1,by rw[hi.2];exact hp,fun k hk=>?_⟩
  have:=hn k _ hk (List.getElem?_eq_getElem (by omega:k<l.length))
  simp[this]
 rw[this]
theorem JP {p:Int→Bool} {l:List Int} (hn:∀ (k:Nat) (y:Int),k<l.length→l[k]?=some y→p y=false):idxOf p l=-1:=by
 unfold idxOf
 have:l.findIdx? p=none:=by
  rw[List.findIdx?_eq_none_iff]
  intro x hx
  obtain⟨k,hk⟩:=List.getElem?_of_mem hx
  exact hn k x (List.getElem?_eq_some_iff.1 hk).1 hk
 rw[this]
theorem BY {p:Int→Bool} {l:List Int}:decide (idxOf p l≥0)=l.any p:=by
 unfold idxOf
 cases h:l.findIdx? p with
 | none =>
  rw[List.findIdx?_eq_none_iff] at h
  have:l.any p=false:=by
   rw[List.any_eq_false]
   intro x hx
   simp[h x hx]
  simp[this]
 | some i =>
  have h':=h
  rw[List.findIdx?_eq_some_iff_getElem] at h'
  obtain⟨hi,hp,_⟩:=h'
  have:l.any p=true:=List.any_eq_true.2 ⟨_,List.getElem_mem hi,hp⟩
  simp[this]
section
variable {kc:Kc} {q:Bool} {s:St} {Φ:Value→St→Prop} {a:Option Addr} {n c:Nat} {l:List Int}
theorem fK:type_of% (An @RX<|An @cO<|An @dO<|@bF):=An @RX<|An @cO<|An @dO<|@bF
theorem SR {f:FuncId} {ca:Array Value} {p:Int→Bool} (h:tR s (.slice a n c) l) (hmax:n<2 ^ 40)
  (hs:Ok s) (hf:∀ x,x∈l→∀ s' Ψ,aC [] s s'→(∀ s'',aC [] s' s''→Ψ (.bool (p x)) s'')→okF q X (KO kc) f ([int x]++ca.toList) s' Ψ)
  (hΦ:∀ s',aC [] s s'→Φ (int (idxOf p l)) s'):okF q X (KO kc) 118 [.slice a n c,.func (.func f) #[] ca] s Φ:=by
 have hl:=h.len
 refine aG rfl fn_118 rfl (rs:=[.tmp 4]) rfl (N:=19) rfl rfl ?_
 refine aA fun Ψ0 hΨ0 hΨ0'=>?_
 simp only[fK,↓reduceIte,zA,reduceCtorEq,zE,zB,zC,zD,zF]
 refine hΨ0 _ _ ?_
 refine aA fun Ψ1 hΨ1 hΨ1'=>?_
 refine aA fun Ψ2 hΨ2 hΨ2'=>?_
 simp only[fK,↓reduceIte,zA,reduceCtorEq,zE,zB,zC,zD,zF]
 refine hΨ2 _ _ ?_
 refine aL fun Ψ3 hΨ3 hΨ3e hΨ3'=>?_
 refine dP (n:=n) (fun j a' s'=>a'.aD 0=.slice a n c∧a'.aD 1=.func (.func f) #[] ca∧a'.aD 7=int n∧a'.aD 8=int j∧aC [] s s'∧∀ (k:Nat) y,k<j→l[k]?=some y→p y=false)
  (fun j a' s'=>a'.aD 0=.slice a n c∧a'.aD 1=.func (.func f) #[] ca∧a'.aD 7=int n∧a'.aD 8=int j∧aC [] s s'∧∀ (k:Nat) y,k<j+1→l[k]?=some y→p y=false) ?_ ?_ ?_ ?_ (Nat.zero_le n) ?_
 ·rintro j a' s' hj ⟨r0,r1,r7,r8,hk,hn⟩ Ψ' hΨ'
  simp only[fK,↓reduceIte,zA,reduceCtorEq,zE,zB,zC,zD,zF,r7,r8]
  refine hΨ' _ _ (decide ((j:Int)<n)) ?_ (by simp) ⟨?_,?_,?_,?_,hk,hn⟩
  all_goals simp only[fK,↓reduceIte,zA,reduceCtorEq,zE,zB,zC,zD,zF,r0,r1,r7,r8]
 ·rintro j a' s' hj ⟨r0,r1,r7,r8,hk,hn⟩ Ψ' h1 h2 h3
  obtain⟨b,off,rfl⟩:=Sl.addr h (by omega)
  obtain⟨x,hx⟩:∃ x,l[j]?=some x:=⟨_,List.getElem?_eq_getElem (by omega)⟩
  have hld:=tR.get (Sl.aF h hk (by simp)) hx
  have g1:(0:Int)≤(j:Int):=Int.natCast_nonneg _
  have g2:(j:Int)<(n:Int):=by omega
  refine aA fun Ψ4 hΨ4 hΨ4'=>?_
  simp only[fK,↓reduceIte,zA,reduceCtorEq,zE,zB,zC,zD,zF,r8]
  refine hΨ4 _ _ ?_
  refine aA fun Ψ5 hΨ5 hΨ5'=>?_
  simp only[fK,↓reduceIte,zA,reduceCtorEq,zE,zB,zC,zD,zF,r0,r1,g1,g2,aJ,Int.toNat_natCast,Nat.mul_one,hld]
  refine oD (fi:=#[]) (ca:=ca) ?_ ?_ (hf x (List.mem_of_getElem? hx) s' _ hk fun s'' hk''=>?_)
  ·simp only[fK,↓reduceIte,zA,reduceCtorEq,zE,zB,zC,zD,zF,r1,List.append_nil]
  ·simp only[fK,↓reduceIte,zA,reduceCtorEq,zE,zB,zC,zD,zF,r1,List.append_nil]
  try simp only[fK,↓reduceIte,zA,reduceCtorEq,zE,zB,zC,zD,zF]
  refine hΨ5 _ _ ?_
  cases hp:p x with
  | true =>
   simp only[fK,↓reduceIte,zA,reduceCtorEq,zE,zB,zC,zD,zF]
   refine h3 _ _ _ (by simp) (by simp) (hΨ3' _ _ _ (by simp) (by simp) (hΨ1' _ _ _ (by simp) ?_))
   simp only[fK,↓reduceIte,zA,reduceCtorEq,zE,zB,zC,zD,zF]
   rw[← OG hx hp hn]
   exact hΦ _ (hk.trans hk'')
  | false =>
   simp only[fK,↓reduceIte,zA,reduceCtorEq,zE,zB,zC,zD,zF]
   refine h1 _ _ ⟨?_,?_,?_,?_,hk.trans hk'',fun k y hk hy=>?_⟩
   ·simp only[fK,↓reduceIte,zA,reduceCtorEq,zE,zB,zC,zD,zF,r0]
   ·simp only[fK,↓reduceIte,zA,reduceCtorEq,zE,zB,zC,zD,zF,r1]
   ·simp only[fK,↓reduceIte,zA,reduceCtorEq,zE,zB,zC,zD,zF,r7]
   ·simp only[fK,↓reduceIte,zA,reduceCtorEq,zE,zB,zC,zD,zF,r8]
   ·rcases Nat.lt_or_ge k j with h | h
    ·exact hn k y h hy
    ·obtain rfl:k=j:=by omega
     rw[hx] at hy;cases hy
     exact hp
 ·rintro j a' s' hj ⟨r0,r1,r7,r8,hk,hn⟩ Ψ' h1
  simp only[fK,↓reduceIte,zA,reduceCtorEq,zE,zB,zC,zD,zF,r8]
  refine h1 _ _ ⟨?_,?_,?_,?_,hk,hn⟩
  ·simp only[fK,↓reduceIte,zA,reduceCtorEq,zE,zB,zC,zD,zF,r0]
  ·simp only[fK,↓reduceIte,zA,reduceCtorEq,zE,zB,zC,zD,zF,r1]
  ·simp only[fK,↓reduceIte,zA,reduceCtorEq,zE,zB,zC,zD,zF,r7]
  ·simp only[fK,↓reduceIte,zA,reduceCtorEq,zE,zB,zC,zD,zF]
   rw[aR (by omega) (by omega)];rfl
 ·rintro a' s' ⟨r0,r1,r7,r8,hk,hn⟩
  refine hΨ3e _ _ (hΨ1 _ _ ?_)
  simp only[fK,↓reduceIte,zA,reduceCtorEq,zE,zB,zC,zD,zF]
  rw[← JP (p:=p) (l:=l) (fun k y hk hy=>hn k y (by omega) hy)]
  exact hΦ _ hk
 ·refine⟨?_,?_,?_,?_,.refl hs,fun k y hk=>absurd hk (Nat.not_lt_zero k)⟩
  ·simp only[fK,↓reduceIte,zA,reduceCtorEq,zE,zB,zC,zD,zF]
  ·simp only[fK,↓reduceIte,zA,reduceCtorEq,zE,zB,zC,zD,zF]
  ·simp only[fK,↓reduceIte,zA,reduceCtorEq,zE,zB,zC,zD,zF]
  ·simp only[fK,↓reduceIte,zA,reduceCtorEq,zE,zB,zC,zD,zF]
   rfl
theorem LY:type_of% (An @RC<|An @RO<|An @RD<|An @RV<|An @RB<|@RG):=An @RC<|An @RO<|An @RD<|An @RV<|An @RB<|@RG
theorem HB {f:FuncId} {ca:Array Value} {p:Int→Bool} (h:tR s (.slice a n c) l) (hmax:n<2 ^ 40)
  (hs:Ok s) (hf:∀ x,x∈l→∀ s' Ψ,aC [] s s'→(∀ s'',aC [] s' s''→Ψ (.bool (p x)) s'')→okF q X (KO kc) f ([int x]++ca.toList) s' Ψ)
  (hΦ:∀ s',aC [] s s'→Φ (.bool (l.any p)) s'):okF q X (KO kc) 206 [.slice a n c,.func (.func f) #[] ca] s Φ:=by
 refine aG rfl fn_206 rfl (rs:=[.tmp 4]) rfl (N:=9) rfl rfl ?_
 refine aA fun Ψ0 hΨ0 hΨ0'=>?_
 simp only[LY,↓reduceIte,zA,reduceCtorEq,zE,zB,zC,zD,zF]
 refine hΨ0 _ _ ?_
 refine aA fun Ψ1 hΨ1 hΨ1'=>?_
 simp only[LY,↓reduceIte,zA,reduceCtorEq,zE,zB,zC,zD,zF]
 refine aB ?_ (SR h hmax hs hf fun s' hk=>?_)
 ·simp only[LY,↓reduceIte,zA,reduceCtorEq,zE,zB,zC,zD,zF]
 simp only[LY,↓reduceIte,zA,reduceCtorEq,zE,zB,zC,zD,zF,BY]
 refine hΨ1 _ _ ?_
 simp only[LY,↓reduceIte,zA,reduceCtorEq,zE,zB,zC,zD,zF]
 exact hΦ _ hk
theorem iB:type_of% (An @RX<|An @cO<|An @dO<|@bF):=An @RX<|An @cO<|An @dO<|@bF
theorem zw (x:Int) (h:tR s (.slice a n c) l) (hmax:n<2 ^ 40) (hs:Ok s)
  (hΦ:∀ s',aC [] s s'→Φ (int (idxOf (x==·) l)) s'):okF q X (KO kc) 186 [.slice a n c,int x] s Φ:=by
 have hl:=h.len
 refine aG rfl fn_186 rfl (rs:=[.tmp 4]) rfl (N:=19) rfl rfl ?_
 refine aA fun Ψ0 hΨ0 hΨ0'=>?_
 simp only[iB,↓reduceIte,zA,reduceCtorEq,zE,zB,zC,zD,zF]
 refine hΨ0 _ _ ?_
 refine aA fun Ψ1 hΨ1 hΨ1'=>?_
 refine aA fun Ψ2 hΨ2 hΨ2'=>?_
 simp only[iB,↓reduceIte,zA,reduceCtorEq,zE,zB,zC,zD,zF]
 refine hΨ2 _ _ ?_
 refine aL fun Ψ3 hΨ3 hΨ3e hΨ3'=>?_
 refine dP (n:=n) (fun j a' s'=>a'.aD 0=.slice a n c∧a'.aD 1=int x∧a'.aD 7=int n∧a'.aD 8=int j∧aC [] s s'∧∀ (k:Nat) y,k<j→l[k]?=some y→(x==y)=false)
  (fun j a' s'=>a'.aD 0=.slice a n c∧a'.aD 1=int x∧a'.aD 7=int n∧a'.aD 8=int j∧aC [] s s'∧∀ (k:Nat) y,k<j+1→l[k]?=some y→(x==y)=false) ?_ ?_ ?_ ?_ (Nat.zero_le n) ?_
 ·rintro j a' s' hj ⟨r0,r1,r7,r8,hk,hn⟩ Ψ' hΨ'
  simp only[iB,↓reduceIte,zA,reduceCtorEq,zE,zB,zC,zD,zF,r7,r8]
  refine hΨ' _ _ (decide ((j:Int)<n)) ?_ (by simp) ⟨?_,?_,?_,?_,hk,hn⟩
  all_goals simp only[iB,↓reduceIte,zA,reduceCtorEq,zE,zB,zC,zD,zF,r0,r1,r7,r8]
 ·rintro j a' s' hj ⟨r0,r1,r7,r8,hk,hn⟩ Ψ' h1 h2 h3
  obtain⟨b,off,rfl⟩:=Sl.addr h (by omega)
  obtain⟨y,hy⟩:∃ y,l[j]?=some y:=⟨_,List.getElem?_eq_getElem (by omega)⟩
  have hld:=tR.get (Sl.aF h hk (by simp)) hy
  have g1:(0:Int)≤(j:Int):=Int.natCast_nonneg _
  have g2:(j:Int)<(n:Int):=by omega
  refine aA fun Ψ4 hΨ4 hΨ4'=>?_
  simp only[iB,↓reduceIte,zA,reduceCtorEq,zE,zB,zC,zD,zF,r8]
  refine hΨ4 _ _ ?_
  refine aA fun Ψ5 hΨ5 hΨ5'=>?_
  simp only[iB,↓reduceIte,zA,reduceCtorEq,zE,zB,zC,zD,zF,r0,r1,g1,g2,aJ,Int.toNat_natCast,Nat.mul_one,hld]
  refine hΨ5 _ _ ?_
  cases hp:(x==y) with
  | true =>
   simp only[iB,↓reduceIte,zA,reduceCtorEq,zE,zB,zC,zD,zF,hp]
   refine h3 _ _ _ (by simp) (by simp) (hΨ3' _ _ _ (by simp) (by simp) (hΨ1' _ _ _ (by simp) ?_))
   simp only[iB,↓reduceIte,zA,reduceCtorEq,zE,zB,zC,zD,zF]
   rw[← OG (p:=(x==·)) hy hp hn]
   exact hΦ _ hk
  | false =>
   simp only[iB,↓reduceIte,zA,reduceCtorEq,zE,zB,zC,zD,zF,hp]
   refine h1 _ _ ⟨?_,?_,?_,?_,hk,fun k z hk hz=>?_⟩
   ·simp only[iB,↓reduceIte,zA,reduceCtorEq,zE,zB,zC,zD,zF,r0]
   ·simp only[iB,↓reduceIte,zA,reduceCtorEq,zE,zB,zC,zD,zF,r1]
   ·simp only[iB,↓reduceIte,zA,reduceCtorEq,zE,zB,zC,zD,zF,r7]
   ·simp only[iB,↓reduceIte,zA,reduceCtorEq,zE,zB,zC,zD,zF,r8]
   ·rcases Nat.lt_or_ge k j with h | h
    ·exact hn k z h hz
    ·obtain rfl:k=j:=by omega
     rw[hy] at hz;cases hz
     exact hp
 ·rintro j a' s' hj ⟨r0,r1,r7,r8,hk,hn⟩ Ψ' h1
  simp only[iB,↓reduceIte,zA,reduceCtorEq,zE,zB,zC,zD,zF,r8]
  refine h1 _ _ ⟨?_,?_,?_,?_,hk,hn⟩
  ·simp only[iB,↓reduceIte,zA,reduceCtorEq,zE,zB,zC,zD,zF,r0]
  ·simp only[iB,↓reduceIte,zA,reduceCtorEq,zE,zB,zC,zD,zF,r1]
  ·simp only[iB,↓reduceIte,zA,reduceCtorEq,zE,zB,zC,zD,zF,r7]
  ·simp only[iB,↓reduceIte,zA,reduceCtorEq,zE,zB,zC,zD,zF]
   rw[aR (by omega) (by omega)];rfl
 ·rintro a' s' ⟨r0,r1,r7,r8,hk,hn⟩
  refine hΨ3e _ _ (hΨ1 _ _ ?_)
  simp only[iB,↓reduceIte,zA,reduceCtorEq,zE,zB,zC,zD,zF]
  rw[← JP (p:=(x==·)) (l:=l) (fun k y hk hy=>hn k y (by omega) hy)]
  exact hΦ _ hk
 ·refine⟨?_,?_,?_,?_,.refl hs,fun k y hk=>absurd hk (Nat.not_lt_zero k)⟩
  ·simp only[iB,↓reduceIte,zA,reduceCtorEq,zE,zB,zC,zD,zF]
  ·simp only[iB,↓reduceIte,zA,reduceCtorEq,zE,zB,zC,zD,zF]
  ·simp only[iB,↓reduceIte,zA,reduceCtorEq,zE,zB,zC,zD,zF]
  ·simp only[iB,↓reduceIte,zA,reduceCtorEq,zE,zB,zC,zD,zF]
   rfl
theorem LW:type_of% (An @RC<|An @RO<|An @RD<|An @RV<|An @RB<|@RG):=An @RC<|An @RO<|An @RD<|An @RV<|An @RB<|@RG
theorem GK (x:Int) (h:tR s (.slice a n c) l) (hmax:n<2 ^ 40) (hs:Ok s)
  (hΦ:∀ s',aC [] s s'→Φ (.bool (l.contains x)) s'):okF q X (KO kc) 119 [.slice a n c,int x] s Φ:=by
 refine aG rfl fn_119 rfl (rs:=[.tmp 4]) rfl (N:=9) rfl rfl ?_
 refine aA fun Ψ0 hΨ0 hΨ0'=>?_
 simp only[LW,↓reduceIte,zA,reduceCtorEq,zE,zB,zC,zD,zF]
 refine hΨ0 _ _ ?_
 refine aA fun Ψ1 hΨ1 hΨ1'=>?_
 simp only[LW,↓reduceIte,zA,reduceCtorEq,zE,zB,zC,zD,zF]
 refine aB ?_ (zw x h hmax hs fun s' hk=>?_)
 ·simp only[LW,↓reduceIte,zA,reduceCtorEq,zE,zB,zC,zD,zF]
 simp only[LW,↓reduceIte,zA,reduceCtorEq,zE,zB,zC,zD,zF,BY]
 refine hΨ1 _ _ ?_
 simp only[LW,↓reduceIte,zA,reduceCtorEq,zE,zB,zC,zD,zF]
 rw[show l.any (fun y=>x==y)=l.contains x from List.contains_eq_any_beq.symm]
 exact hΦ _ hk
end
end Go.Dust
