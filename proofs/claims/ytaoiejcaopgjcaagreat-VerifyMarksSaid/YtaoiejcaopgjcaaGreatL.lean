/- VerifyMarks walked in D, function by function, and its plain law (C1 C2 C3 Pb). -/
import Derived.Test.YtaoiejcaopgjcaaGreatK
set_option linter.unusedVariables false
set_option linter.unusedSimpArgs false
namespace Go.Dust
open Go.Proofs
set_option maxRecDepth 100000
abbrev ptr (b:Nat):Value:=.pointer (some ⟨b,0,none⟩)
abbrev int (n:Int):Value:=.int .i64 n
def Obj (s:St) (b:Nat) (L:List Value):Prop:=∃ e,Cells s b e L
namespace Obj
variable {F:List Nat} {s s':St} {b i:Nat} {L:List Value} {v:Value}
theorem aD (h:Obj s b L) (k:aC F s s') (hb:b∉F):Obj s' b L:=let ⟨e,h⟩:=h;⟨e,h.aD k hb⟩
theorem load (h:Obj s b L) (hi:L[i]?=some v):aI s.look ⟨b,i,none⟩=some v:=let ⟨_,h⟩:=h;h.load hi
theorem same (h:Obj s b L) (hs:Ok s) (k:aC F s s') (hb:b∉F):eT s s' b=true:=let ⟨_,h⟩:=h;h.same hs k hb
theorem lt (h:Obj s b L) (hs:Ok s):b<s.next:=let ⟨_,h⟩:=h;h.lt hs
theorem gJ (h:Obj s b L) (hs:Ok s) (hi:i<L.length) (h1:iB v=true):∃ s',dB s ⟨b,i,none⟩ [v]=some s'∧Obj s' b (L.set i v)∧aC [b] s s':=by
 obtain⟨e,h⟩:=h;obtain⟨s',h1,h2,h3⟩:=h.gJ hs hi h1;exact⟨s',h1,⟨e,h2⟩,h3⟩
theorem sl {n c m:Nat} (h:Obj s b L) (hn:L.length=n*m):Sl s m (.slice (some ⟨b,0,none⟩) n c) L:=by
 obtain⟨e,h⟩:=h;have:=Sl.aDh (n:=n) (m:=m) (off:=0) (c:=c) h (by omega)
 rwa [List.drop_zero,List.take_of_length_le (by omega)] at this
end Obj
structure eZ (s:St) (t u n w:Nat) (L:Nat→Nat):Prop where
 c:Obj s t [int n,int w,.slice (some ⟨u,0,none⟩) ((n*w+63)/64) ((n*w+63)/64)]
 ws:∃ U:List Nat,Obj s u (U.map fun(x:Nat)=>Value.int .u64 (x:Int))∧U.length=(n*w+63)/64∧(∀ x∈U,x<2 ^ 64)∧∀ i,i<n→wH (U.getD (i*w/64) 0) (i*w%64) w=L i
 ne:t≠u
 n0:0<n
 n1:n≤4096
 w1:w=1∨w=2∨w=4∨w=8
namespace eZ
variable {F:List Nat} {s s':St} {t u n w:Nat} {L:Nat→Nat}
theorem aD (h:eZ s t u n w L) (k:aC F s s') (h1:t∉F) (h2:u∉F):eZ s' t u n w L:=by
 obtain⟨c,⟨U,w1,w2,w3,w4⟩,h3,h4,h5,h6⟩:=h;exact⟨c.aD k h1,⟨U,w1.aD k h2,w2,w3,w4⟩,h3,h4,h5,h6⟩
theorem w8 (h:eZ s t u n w L):w≤8:=by have:=h.w1;omega
theorem Rd (h:eZ s t u n w L):0<w:=by have:=h.w1;omega
theorem lt (h:eZ s t u n w L) {i:Nat} (hi:i<n):L i<2 ^ w:=by
 obtain⟨U,_,_,_,w4⟩:=h.ws;rw[← w4 i hi];exact yv _ _ _
theorem idx (h:eZ s t u n w L) {i:Nat} (hi:i<n):i*w/64<(n*w+63)/64:=by
 rcases h.w1 with rfl | rfl | rfl | rfl <;> omega
theorem l0 (h:eZ s t u n w L):aI s.look ⟨t,0,none⟩=some (int n):=h.c.load rfl
theorem l1 (h:eZ s t u n w L):aI s.look ⟨t,1,none⟩=some (int w):=h.c.load rfl
theorem l2 (h:eZ s t u n w L):aI s.look ⟨t,2,none⟩=some (.slice (some ⟨u,0,none⟩) ((n*w+63)/64) ((n*w+63)/64)):=h.c.load rfl
theorem congr {L':Nat→Nat} (h:eZ s t u n w L) (e:∀ i,i<n→L i=L' i):eZ s t u n w L':=by
 obtain⟨c,⟨U,w1,w2,w3,w4⟩,h3,h4,h5,h6⟩:=h;exact⟨c,⟨U,w1,w2,w3,fun i hi=>(w4 i hi).trans (e i hi)⟩,h3,h4,h5,h6⟩
end eZ
def jB (L:Nat→Nat) (i v:Nat):Nat→Nat:=fun j=>if j=i then v else L j
section
variable {kc:Kc} {q:Bool} {s:St} {Φ:Value→St→Prop} {t u n w:Nat} {L:Nat→Nat}
theorem qj:type_of% (An @RX<|An @Ik<|An @Ie<|An @yQ<|@aW):=An @RX<|An @Ik<|An @Ie<|An @yQ<|@aW
theorem LD (h:eZ s t u n w L) (hΦ:Φ (.bool true) s):okF q X (KO kc) 172 [ptr t] s Φ:=by
 refine aV rfl n_ rfl (rs:=[.tmp 2]) rfl (N:=12) rfl rfl ?_;refine aA fun Ψ kU bH=>?_;simp only[qj,seval];refine kU _ _ ?_;refine aA fun Ψ kU bH=>?_;refine cK [(2,5)] (by kernel_rfl) fun O hO bK hR=>?_;have y2:∀ a,aN O a 2=bC (a.aB 5):=hO (2,5) (by simp);simp only[qj,seval,h.l0,y2,h.n0,Int.natCast_pos,decide_true];refine hR _ _ (kU _ _ ?_);simp only[qj,seval];exact hΦ
theorem BQ:type_of% (An @RX<|An @yQ<|@aW):=An @RX<|An @yQ<|@aW
theorem Nx (h:eZ s t u n w L) (i:Int) (hΦ:Φ (.bool (decide (0≤i∧i<n))) s):okF q X (KO kc) 165 [ptr t,int i] s Φ:=by
 refine aV rfl g_ rfl (rs:=[.tmp 4]) rfl (N:=19) rfl rfl ?_;refine aA fun Ψ kU bH=>?_;simp only[BQ,seval];refine kU _ _ ?_;refine aA fun Ψ kU bH=>?_;refine cK [(2,7),(6,11)] (by kernel_rfl) fun O hO bK hR=>?_;have y2:∀ a,aN O a 2=bC (a.aB 7):=hO (2,7) (by simp);have y6:∀ a,aN O a 6=bC (a.aB 11):=hO (6,11) (by simp);simp only[BQ,seval];refine aJ ?_ (LD h ?_)
 ·simp only[BQ,seval]
 by_cases h0:i≥0
 ·by_cases h1:i<n
  ·simp only[BQ,seval,y2,y6,h.l0,h0,h1,decide_true];refine hR _ _ (kU _ _ ?_);simp only[BQ,seval];rw[decide_eq_true ⟨h0,h1⟩] at hΦ;exact hΦ
  ·simp only[BQ,seval,y2,y6,h.l0,h0,h1,decide_true,decide_false];refine hR _ _ (kU _ _ ?_);simp only[BQ,seval];rw[decide_eq_false (by omega)] at hΦ;exact hΦ
 ·simp only[BQ,seval,y2,y6,h.l0,h0,decide_true,decide_false];refine hR _ _ (kU _ _ ?_);simp only[BQ,seval];rw[decide_eq_false (by omega)] at hΦ;exact hΦ
theorem Nq {w:Nat} (hw:w≤8):vP .shl .i64 1 (w:Int)=some (int (2 ^ w:Nat))∧IntKind.i64.wrap (((2 ^ w:Nat):Int)-1)=((2 ^ w-1:Nat):Int):=by
 match w,hw with
 | 0,_ | 1,_ | 2,_ | 3,_ | 4,_ | 5,_ | 6,_ | 7,_ | 8,_=>exact⟨rfl,rfl⟩
theorem aHz:type_of% (An @RX<|An @CS<|@aW):=An @RX<|An @CS<|@aW
theorem pr (h:eZ s t u n w L) (hΦ:Φ (int (2 ^ w-1:Nat)) s):okF q X (KO kc) 209 [ptr t] s Φ:=by
 refine aV rfl z6 rfl (rs:=[.tmp 2]) rfl (N:=9) rfl rfl ?_;simp only[aHz,seval,h.l1,(Nq h.w8).1,(Nq h.w8).2];exact hΦ
theorem To (X:Env) (H:bG) (t:TypeId) (x y:Int):binop X H .shr t (.int .u64 x) (.int .i64 y)=vP .shr .u64 x y:=rfl
theorem Tn (X:Env) (H:bG) (t:TypeId) (x y:Int):binop X H .shl t (.int .u64 x) (.int .i64 y)=vP .shl .u64 x y:=rfl
theorem Tj (X:Env) (H:bG) (t:TypeId) (x y:Int):binop X H .and t (.int .i64 x) (.int .i64 y)=some (.int .i64 (IntKind.i64.wrap ((BitVec.ofInt 64 x &&& BitVec.ofInt 64 y).toNat))):=rfl
theorem Tl (X:Env) (H:bG) (t:TypeId) (x y:Int):binop X H .or t (.int .u64 x) (.int .u64 y)=some (.int .u64 (IntKind.u64.wrap ((BitVec.ofInt 64 x ||| BitVec.ofInt 64 y).toNat))):=rfl
theorem Tk (X:Env) (H:bG) (t:TypeId) (x y:Int):binop X H .andNot t (.int .u64 x) (.int .u64 y)=some (.int .u64 (IntKind.u64.wrap ((BitVec.ofInt 64 x &&& ~~~ BitVec.ofInt 64 y).toNat))):=rfl
theorem aH6 {u sh:Nat} (hs:sh≤64):vP .shr .u64 (u:Int) (sh:Int)=some (.int .u64 ((u/2 ^ sh:Nat):Int)):=by
 unfold vP;rw[if_neg (by omega),Int.toNat_natCast,show min sh IntKind.u64.bits=sh from Nat.min_eq_left hs];simp only[Int.fdiv_eq_ediv_of_nonneg _ (Int.pow_nonneg (show (0:Int)≤2 by omega))];congr 2
theorem Nr {u sh:Nat} (hs:sh≤64) (hu:u*2 ^ sh<2 ^ 64):vP .shl .u64 (u:Int) (sh:Int)=some (.int .u64 ((u*2 ^ sh:Nat):Int)):=by
 unfold vP;rw[if_neg (by omega),Int.toNat_natCast,show min sh IntKind.u64.bits=sh from Nat.min_eq_left hs];simp only;rw[show (u:Int)*2 ^ sh=((u*2 ^ sh:Nat):Int) from by simp,RA (by omega) (by omega)]
theorem mg {i w:Nat} (hi:i≤4096) (hw:w≤8):IntKind.i64.wrap ((i:Int)*(w:Int))=((i*w:Nat):Int):=by
 have:i*w≤4096*8:=Nat.mul_le_mul hi hw;rw[← Int.natCast_mul,aU (by omega) (by omega)]
theorem LP:type_of% (An @RX<|An @CS<|An @aW<|An @TT<|An @VP<|An @VG<|An @VQ<|@yc):=An @RX<|An @CS<|An @aW<|An @TT<|An @VP<|An @VG<|An @VQ<|@yc
theorem YH (hs:Ok s) (h:eZ s t u n w L) {i:Nat} (hi:i<n) (hΦ:∀ s',aC [] s s'→Φ (int (L i)) s'):okF q X (KO kc) 166 [ptr t,int i] s Φ:=by
 obtain⟨U,hU,hlen,hb,hL⟩:=h.ws;have Z5:=h.idx hi;have Z4:i*w<4096*8:=Nat.lt_of_lt_of_le (Nat.mul_lt_mul_of_pos_right hi h.Rd) (Nat.mul_le_mul h.n1 h.w8);have hu:U[i*w/64]?=some (U.getD (i*w/64) 0):=by rw[List.getD_eq_getElem?_getD,List.getElem?_eq_getElem (by omega)];rfl
 have Ef:=hb _ (List.mem_of_getElem? hu);have UQ:aI s.look ⟨u,i*w/64,none⟩=some (.int .u64 ((U.getD (i*w/64) 0:Nat):Int)):=hU.load (by rw[List.getElem?_map,hu];rfl);have Cy:=N8 (sh:=i*w%64) Ef h.w8;rw[hL i hi] at Cy;have m1:=mg (i:=i) (w:=w) (by have:=h.n1;omega) h.w8;refine aV rfl h_ rfl (rs:=[.tmp 4]) rfl (N:=27) rfl rfl ?_;refine aA fun Ψ kU bH=>?_;simp only[LP,seval];refine kU _ _ ?_;refine aA fun Ψ kU bH=>?_;simp only[LP,seval,h.l1,m1];refine kU _ _ ?_;refine aA fun Ψ kU bH=>?_;refine dH [(3,13),(7,13)] [t,u] [] (by kernel_rfl) (by kernel_rfl) (by rfl) fun O hO bK hR=>?_;have q1:((i*w:Nat):Int).tdiv 64=((i*w/64:Nat):Int):=rfl;have q2:((i*w:Nat):Int).tmod 64=((i*w%64:Nat):Int):=rfl;have q3:IntKind.i64.wrap ((i*w/64:Nat):Int)=((i*w/64:Nat):Int):=aU (by omega) (by omega);have q4:(0:Int)≤((i*w/64:Nat):Int):=Int.natCast_nonneg _;have q5:((i*w/64:Nat):Int)<(((n*w+63)/64:Nat):Int):=by omega
 simp only[LP,seval,h.l2,q1,q2,q3,q4,q5,UQ,To,aH6 (u:=U.getD (i*w/64) 0) (show i*w%64≤64 by omega),bJ,Int.toNat_natCast,Nat.mul_one,Nat.zero_add,and_self,Nat.reduceBEq];refine eQ ?_ (pr (h.aD (aC.skip (F:=[]) hs _) (by simp) (by simp)) ?_)
 ·simp only[LP,seval]
 simp only[LP,seval,Tj,Cy];refine⟨gQ (h.c.same hs (aC.skip (F:=[]) hs _) (by simp)) (gQ (hU.same hs (aC.skip (F:=[]) hs _) (by simp)) jR),hR _ _ (kU _ _ ?_)⟩;simp only[LP,seval];exact hΦ _ (.skip hs _)
theorem HW:type_of% (An @RC<|An @RO<|An @RD<|An @RV<|An @RB<|@RG):=An @RC<|An @RO<|An @RD<|An @RV<|An @RB<|@RG
theorem aHb (h:eZ s t u n w L) (v:Int) (hΦ:Φ (.bool (decide (0≤v∧v≤(2 ^ w-1:Nat)))) s):okF q X (KO kc) 208 [ptr t,int v] s Φ:=by
 refine aV rfl z5 rfl (rs:=[.tmp 4]) rfl (N:=13) rfl rfl ?_;refine aA fun Ψ kU bH=>?_;simp only[HW,seval];refine kU _ _ ?_;refine aA fun Ψ kU bH=>?_;refine cK [(2,7)] (by kernel_rfl) fun O hO bK hR=>?_;have y2:∀ a,aN O a 2=bC (a.aB 7):=hO (2,7) (by simp);by_cases h0:v≥0
 ·simp only[HW,seval,y2,h0,decide_true];refine aJ ?_ (pr h ?_)
  ·simp only[HW,seval]
  simp only[HW,seval,y2,h0,decide_true];refine hR _ _ (kU _ _ ?_);simp only[HW,seval];rw[show decide (0≤v∧v≤((2 ^ w-1:Nat):Int))=decide (v≤((2 ^ w-1:Nat):Int)) from by simp[h0]] at hΦ;exact hΦ
 ·simp only[HW,seval,y2,h0,decide_false];refine hR _ _ (kU _ _ ?_);simp only[HW,seval];rw[decide_eq_false (by omega)] at hΦ;exact hΦ
theorem orN (x:BitVec 64):BitVec.ofInt 64 (IntKind.u64.wrap (x.toNat:Int))=x:=by
 have:=BitVec.isLt x;rw[RA (by omega) (by omega),WX];simp
theorem LN:type_of% (An @RX<|An @CS<|An @aW<|An @TT<|An @VP<|An @VG<|An @VQ<|An @yf<|@Ol):=An @RX<|An @CS<|An @aW<|An @TT<|An @VP<|An @VG<|An @VQ<|An @yf<|@Ol
theorem Nw (hs:Ok s) (h:eZ s t u n w L) {i v:Nat} (hi:i<n) (hv:v<2 ^ w) (hΦ:∀ s',eZ s' t u n w (jB L i v)→aC [u] s s'→Φ (.tuple #[]) s'):okF q X (KO kc) 140 [ptr t,int i,int v] s Φ:=by
 obtain⟨U,hU,hlen,hb,hL⟩:=h.ws;have Z5:=h.idx hi;have Z4:i*w<4096*8:=Nat.lt_of_lt_of_le (Nat.mul_lt_mul_of_pos_right hi h.Rd) (Nat.mul_le_mul h.n1 h.w8);have hu:U[i*w/64]?=some (U.getD (i*w/64) 0):=by rw[List.getD_eq_getElem?_getD,List.getElem?_eq_getElem (by omega)];rfl
 have Ef:=hb _ (List.mem_of_getElem? hu);have UQ:aI s.look ⟨u,i*w/64,none⟩=some (.int .u64 ((U.getD (i*w/64) 0:Nat):Int)):=hU.load (by rw[List.getElem?_map,hu];rfl);have m1:=mg (i:=i) (w:=w) (by have:=h.n1;omega) h.w8;have hal:=th (i:=i) h.w1;have hpw:=Kg h.w8;have Ea:∀ x,x<2 ^ w→x*2 ^ (i*w%64)<2 ^ 64:=by
  intro x hx;have:x*2 ^ (i*w%64)<2 ^ w*2 ^ (i*w%64):=Nat.mul_lt_mul_of_pos_right hx (Nat.two_pow_pos _);rw[← Nat.pow_add] at this;exact Nat.lt_of_lt_of_le this (Nat.pow_le_pow_right (by omega) (by omega))
 refine aV rfl Zn rfl (rs:=[]) rfl (N:=39) rfl rfl ?_;refine aA fun Ψ kU bH=>?_;simp only[LN,seval,h.l1,m1];refine kU _ _ ?_;have q1:((i*w:Nat):Int).tdiv 64=((i*w/64:Nat):Int):=rfl;have q2:((i*w:Nat):Int).tmod 64=((i*w%64:Nat):Int):=rfl;have q3:IntKind.i64.wrap ((i*w/64:Nat):Int)=((i*w/64:Nat):Int):=aU (by omega) (by omega);have q4:(0:Int)≤((i*w/64:Nat):Int):=Int.natCast_nonneg _;have q5:((i*w/64:Nat):Int)<(((n*w+63)/64:Nat):Int):=by omega
 refine aA fun Ψ kU bH=>?_;simp only[LN,seval,h.l2,q1,q3,q4,q5,bJ,Int.toNat_natCast,Nat.mul_one,Nat.zero_add,and_self];refine kU _ _ ?_;refine dH [(3,5)] [u] [] (by kernel_rfl) (by kernel_rfl) (by rfl) fun O hO bK hR=>?_;simp only[LN,seval,UQ,Nat.reduceBEq];refine eQ ?_ (pr (h.aD (aC.skip (F:=[]) hs _) (by simp) (by simp)) ?_)
 ·simp only[LN,seval]
 have e1:IntKind.u64.wrap ((2 ^ w-1:Nat):Int)=((2 ^ w-1:Nat):Int):=RA (by omega) (by omega);have e2:IntKind.u64.wrap ((v:Nat):Int)=((v:Nat):Int):=RA (by omega) (by omega);have e3:=Nr (u:=2 ^ w-1) (sh:=i*w%64) (by omega) (Ea _ (by omega));have e4:=Nr (u:=v) (sh:=i*w%64) (by omega) (Ea _ hv);have e5:IntKind.u64.wrap ((BitVec.ofNat 64 (U.getD (i*w/64) 0) &&& ~~~ BitVec.ofNat 64 ((2 ^ w-1)*2 ^ (i*w%64)) ||| BitVec.ofNat 64 (v*2 ^ (i*w%64))).toNat:Int)=((EA (U.getD (i*w/64) 0) (i*w%64) w v:Nat):Int):=by
  have:=BitVec.isLt (BitVec.ofNat 64 (U.getD (i*w/64) 0) &&& ~~~ BitVec.ofNat 64 ((2 ^ w-1)*2 ^ (i*w%64)) ||| BitVec.ofNat 64 (v*2 ^ (i*w%64)));rw[RA (by omega) (by omega)]
  try rfl
 obtain⟨s1,hs1,Q_,hk1⟩:=(hU.aD (aC.skip (F:=[]) hs 38) (by simp)).gJ (hs.skip 38) (i:=i*w/64) (v:=.int .u64 ((EA (U.getD (i*w/64) 0) (i*w%64) w v:Nat):Int)) (by rw[List.length_map];omega) rfl;simp only[LN,seval,q2,e1,e2,e3,e4,Tn,Tk,Tl,orN,WX,e5,UQ,hs1];have hk:aC [u] s s1:=(aC.skip hs _).trans hk1;refine⟨gQ (hU.same hs (aC.skip (F:=[]) hs _) (by simp)) jR,hR _ _ ?_⟩;simp only[LN,seval];refine hΦ _ ⟨h.c.aD hk (by simp;exact h.ne),⟨U.set (i*w/64) (EA (U.getD (i*w/64) 0) (i*w%64) w v),?_,?_,?_,?_⟩,h.ne,h.n0,h.n1,h.w1⟩ hk
 ·rw[List.map_set];exact Q_
 ·rw[List.length_set];exact hlen
 ·intro x hx;rcases List.mem_or_eq_of_mem_set hx with hx | rfl
  ·exact hb x hx
  ·exact aEy _ _ _ _
 ·intro j hj;have hjx:=h.idx hj;simp only[List.getD_eq_getElem?_getD,List.getElem?_set,jB];by_cases rE:j=i
  ·subst rE;rw[if_pos rfl,if_pos (by omega),if_pos rfl];exact Ws hal hv
  ·rw[if_neg rE];by_cases he:i*w/64=j*w/64
   ·rw[if_pos he,if_pos (by omega)];have:=Wt (u:=U.getD (i*w/64) 0) (th (i:=j) h.w1) hv (sh:=i*w%64) (by rcases apart h.w1 rE he.symm with h | h <;> omega)
    rw[← hL j hj,← he];exact this
   ·rw[if_neg he,← hL j hj,List.getD_eq_getElem?_getD]
end
open Go.Proofs
set_option maxRecDepth 100000
abbrev gL (s:St) (v:Value) (l:List Int):Prop:=Sl s 1 v (l.map (Value.int .i64))
theorem gL.len {s:St} {a:Option Addr} {n c:Nat} {l:List Int} (h:gL s (.slice a n c) l):l.length=n:=by
 have:=Sl.len h;rw[List.length_map] at this;omega
theorem gL.get {s:St} {b off n c:Nat} {l:List Int} (h:gL s (.slice (some ⟨b,off,none⟩) n c) l) {i:Nat} {x:Int} (hx:l[i]?=some x):aI s.look ⟨b,off+i,none⟩=some (int x):=by
 refine Sl.load h ?_;rw[List.getElem?_map,hx];rfl
def idxOf (p:Int→Bool) (l:List Int):Int:=match l.findIdx? p with
 | some i=>i
 | none=>-1
theorem Ew {p:Int→Bool} {l:List Int} {i:Nat} {x:Int} (hx:l[i]?=some x) (hp:p x=true) (hn:∀ k y,k<i→l[k]?=some y→p y=false):idxOf p l=i:=by
 unfold idxOf;have:l.findIdx? p=some i:=by
  rw[List.findIdx?_eq_some_iff_getElem];have hi:=(List.getElem?_eq_some_iff.1 hx);have Y6:=hi.1;refine⟨hi.1,by rw[hi.2];exact hp,fun k hk=>?_⟩;have:=hn k _ hk (List.getElem?_eq_getElem (by omega:k<l.length));simp[this]
 rw[this]
theorem Ey {p:Int→Bool} {l:List Int} (hn:∀ (k:Nat) (y:Int),k<l.length→l[k]?=some y→p y=false):idxOf p l=-1:=by
 unfold idxOf;have:l.findIdx? p=none:=by
  rw[List.findIdx?_eq_none_iff];intro x hx;obtain⟨k,hk⟩:=List.getElem?_of_mem hx;exact hn k x (List.getElem?_eq_some_iff.1 hk).1 hk
 rw[this]
theorem Ez {p:Int→Bool} {l:List Int}:decide (idxOf p l≥0)=l.any p:=by
 unfold idxOf;cases h:l.findIdx? p with
 | none =>
  rw[List.findIdx?_eq_none_iff] at h;have:l.any p=false:=by
   rw[List.any_eq_false];intro x hx;simp[h x hx]
  simp[this]
 | some i =>
  have h':=h;rw[List.findIdx?_eq_some_iff_getElem] at h';obtain⟨hi,hp,_⟩:=h';have:l.any p=true:=List.any_eq_true.2 ⟨_,List.getElem_mem hi,hp⟩;simp[this]
section
variable {kc:Kc} {q:Bool} {s:St} {Φ:Value→St→Prop} {a:Option Addr} {n c:Nat} {l:List Int}
theorem kZ:type_of% (An @RX<|An @dG<|An @dE<|@aW):=An @RX<|An @dG<|An @dE<|@aW
theorem Nz {f:FuncId} {ca:Array Value} {p:Int→Bool} (h:gL s (.slice a n c) l) (tI:n<2 ^ 40)
  (hs:Ok s) (hf:∀ x,x∈l→∀ s' Ψ,aC [] s s'→(∀ s'',aC [] s' s''→Ψ (.bool (p x)) s'')→okF q X (KO kc) f ([int x]++ca.toList) s' Ψ)
  (hΦ:∀ s',aC [] s s'→Φ (int (idxOf p l)) s'):okF q X (KO kc) 118 [.slice a n c,.func (.func f) #[] ca] s Φ:=by
 have hl:=h.len;refine aV rfl Yx rfl (rs:=[.tmp 4]) rfl (N:=19) rfl rfl ?_;refine aA fun bB aF aZ=>?_;simp only[kZ,seval];refine aF _ _ ?_;refine aA fun Ψ1 aE aK=>?_;refine aA fun Ψ2 aH bM=>?_;simp only[kZ,seval];refine aH _ _ ?_;refine cB fun Ψ3 aM oG bN=>?_;refine qP (n:=n) (fun j a' s'=>a'.aB 0=.slice a n c∧a'.aB 1=.func (.func f) #[] ca∧a'.aB 7=int n∧a'.aB 8=int j∧aC [] s s'∧∀ (k:Nat) y,k<j→l[k]?=some y→p y=false)
  (fun j a' s'=>a'.aB 0=.slice a n c∧a'.aB 1=.func (.func f) #[] ca∧a'.aB 7=int n∧a'.aB 8=int j∧aC [] s s'∧∀ (k:Nat) y,k<j+1→l[k]?=some y→p y=false) ?_ ?_ ?_ ?_ (Nat.zero_le n) ?_
 ·rintro j a' s' hj ⟨r0,r1,r7,r8,hk,hn⟩ aR bH;simp only[kZ,seval,r7,r8];refine bH _ _ (decide ((j:Int)<n)) ?_ (by simp) ⟨?_,?_,?_,?_,hk,hn⟩
  all_goals simp only[kZ,seval,r0,r1,r7,r8]
 ·rintro j a' s' hj ⟨r0,r1,r7,r8,hk,hn⟩ aR h1 h2 h3;obtain⟨b,off,rfl⟩:=Sl.addr h (by omega);obtain⟨x,hx⟩:∃ x,l[j]?=some x:=⟨_,List.getElem?_eq_getElem (by omega)⟩;have NT:=gL.get (Sl.aD h hk (by simp)) hx;have g1:(0:Int)≤(j:Int):=Int.natCast_nonneg _;have g2:(j:Int)<(n:Int):=by omega
  refine aA fun Ψ4 aQ bZ=>?_;simp only[kZ,seval,r8];refine aQ _ _ ?_;refine aA fun cP bI cF=>?_;simp only[kZ,seval,r0,r1,g1,g2,bJ,Int.toNat_natCast,Nat.mul_one,NT];refine HD (fi:=#[]) (ca:=ca) ?_ ?_ (hf x (List.mem_of_getElem? hx) s' _ hk fun s'' NS=>?_)
  ·simp only[kZ,seval,r1,List.append_nil]
  ·simp only[kZ,seval,r1,List.append_nil]
  try simp only[kZ,seval]
  refine bI _ _ ?_;cases hp:p x with
  | true =>
   simp only[kZ,seval];refine h3 _ _ _ (by simp) (by simp) (bN _ _ _ (by simp) (by simp) (aK _ _ _ (by simp) ?_));simp only[kZ,seval];rw[← Ew hx hp hn];exact hΦ _ (hk.trans NS)
  | false =>
   simp only[kZ,seval];refine h1 _ _ ⟨?_,?_,?_,?_,hk.trans NS,fun k y hk hy=>?_⟩
   ·simp only[kZ,seval,r0]
   ·simp only[kZ,seval,r1]
   ·simp only[kZ,seval,r7]
   ·simp only[kZ,seval,r8]
   ·rcases Nat.lt_or_ge k j with h | h
    ·exact hn k y h hy
    ·obtain rfl:k=j:=by omega
     rw[hx] at hy;cases hy;exact hp
 ·rintro j a' s' hj ⟨r0,r1,r7,r8,hk,hn⟩ aR h1;simp only[kZ,seval,r8];refine h1 _ _ ⟨?_,?_,?_,?_,hk,hn⟩
  ·simp only[kZ,seval,r0]
  ·simp only[kZ,seval,r1]
  ·simp only[kZ,seval,r7]
  ·simp only[kZ,seval];rw[aU (by omega) (by omega)];rfl
 ·rintro a' s' ⟨r0,r1,r7,r8,hk,hn⟩;refine oG _ _ (aE _ _ ?_);simp only[kZ,seval];rw[← Ey (p:=p) (l:=l) (fun k y hk hy=>hn k y (by omega) hy)];exact hΦ _ hk
 ·refine⟨?_,?_,?_,?_,.refl hs,fun k y hk=>absurd hk (Nat.not_lt_zero k)⟩
  ·simp only[kZ,seval]
  ·simp only[kZ,seval]
  ·simp only[kZ,seval]
  ·simp only[kZ,seval]
   try rfl
theorem QL:type_of% (An @RC<|An @RO<|An @RD<|An @RV<|An @RB<|@RG):=An @RC<|An @RO<|An @RD<|An @RV<|An @RB<|@RG
theorem aHd {f:FuncId} {ca:Array Value} {p:Int→Bool} (h:gL s (.slice a n c) l) (tI:n<2 ^ 40)
  (hs:Ok s) (hf:∀ x,x∈l→∀ s' Ψ,aC [] s s'→(∀ s'',aC [] s' s''→Ψ (.bool (p x)) s'')→okF q X (KO kc) f ([int x]++ca.toList) s' Ψ)
  (hΦ:∀ s',aC [] s s'→Φ (.bool (l.any p)) s'):okF q X (KO kc) 206 [.slice a n c,.func (.func f) #[] ca] s Φ:=by
 refine aV rfl y_ rfl (rs:=[.tmp 4]) rfl (N:=9) rfl rfl ?_;refine aA fun bB aF aZ=>?_;simp only[QL,seval];refine aF _ _ ?_;refine aA fun Ψ1 aE aK=>?_;simp only[QL,seval];refine aJ ?_ (Nz h tI hs hf fun s' hk=>?_)
 ·simp only[QL,seval]
 simp only[QL,seval,Ez];refine aE _ _ ?_;simp only[QL,seval];exact hΦ _ hk
theorem mW:type_of% (An @RX<|An @dG<|An @dE<|@aW):=An @RX<|An @dG<|An @dE<|@aW
theorem aHf (x:Int) (h:gL s (.slice a n c) l) (tI:n<2 ^ 40) (hs:Ok s)
  (hΦ:∀ s',aC [] s s'→Φ (int (idxOf (x==·) l)) s'):okF q X (KO kc) 186 [.slice a n c,int x] s Φ:=by
 have hl:=h.len;refine aV rfl q_ rfl (rs:=[.tmp 4]) rfl (N:=19) rfl rfl ?_;refine aA fun bB aF aZ=>?_;simp only[mW,seval];refine aF _ _ ?_;refine aA fun Ψ1 aE aK=>?_;refine aA fun Ψ2 aH bM=>?_;simp only[mW,seval];refine aH _ _ ?_;refine cB fun Ψ3 aM oG bN=>?_;refine qP (n:=n) (fun j a' s'=>a'.aB 0=.slice a n c∧a'.aB 1=int x∧a'.aB 7=int n∧a'.aB 8=int j∧aC [] s s'∧∀ (k:Nat) y,k<j→l[k]?=some y→(x==y)=false)
  (fun j a' s'=>a'.aB 0=.slice a n c∧a'.aB 1=int x∧a'.aB 7=int n∧a'.aB 8=int j∧aC [] s s'∧∀ (k:Nat) y,k<j+1→l[k]?=some y→(x==y)=false) ?_ ?_ ?_ ?_ (Nat.zero_le n) ?_
 ·rintro j a' s' hj ⟨r0,r1,r7,r8,hk,hn⟩ aR bH;simp only[mW,seval,r7,r8];refine bH _ _ (decide ((j:Int)<n)) ?_ (by simp) ⟨?_,?_,?_,?_,hk,hn⟩
  all_goals simp only[mW,seval,r0,r1,r7,r8]
 ·rintro j a' s' hj ⟨r0,r1,r7,r8,hk,hn⟩ aR h1 h2 h3;obtain⟨b,off,rfl⟩:=Sl.addr h (by omega);obtain⟨y,hy⟩:∃ y,l[j]?=some y:=⟨_,List.getElem?_eq_getElem (by omega)⟩;have NT:=gL.get (Sl.aD h hk (by simp)) hy;have g1:(0:Int)≤(j:Int):=Int.natCast_nonneg _;have g2:(j:Int)<(n:Int):=by omega
  refine aA fun Ψ4 aQ bZ=>?_;simp only[mW,seval,r8];refine aQ _ _ ?_;refine aA fun cP bI cF=>?_;simp only[mW,seval,r0,r1,g1,g2,bJ,Int.toNat_natCast,Nat.mul_one,NT];refine bI _ _ ?_;cases hp:(x==y) with
  | true =>
   simp only[mW,seval,hp];refine h3 _ _ _ (by simp) (by simp) (bN _ _ _ (by simp) (by simp) (aK _ _ _ (by simp) ?_));simp only[mW,seval];rw[← Ew (p:=(x==·)) hy hp hn];exact hΦ _ hk
  | false =>
   simp only[mW,seval,hp];refine h1 _ _ ⟨?_,?_,?_,?_,hk,fun k z hk hz=>?_⟩
   ·simp only[mW,seval,r0]
   ·simp only[mW,seval,r1]
   ·simp only[mW,seval,r7]
   ·simp only[mW,seval,r8]
   ·rcases Nat.lt_or_ge k j with h | h
    ·exact hn k z h hz
    ·obtain rfl:k=j:=by omega
     rw[hy] at hz;cases hz;exact hp
 ·rintro j a' s' hj ⟨r0,r1,r7,r8,hk,hn⟩ aR h1;simp only[mW,seval,r8];refine h1 _ _ ⟨?_,?_,?_,?_,hk,hn⟩
  ·simp only[mW,seval,r0]
  ·simp only[mW,seval,r1]
  ·simp only[mW,seval,r7]
  ·simp only[mW,seval];rw[aU (by omega) (by omega)];rfl
 ·rintro a' s' ⟨r0,r1,r7,r8,hk,hn⟩;refine oG _ _ (aE _ _ ?_);simp only[mW,seval];rw[← Ey (p:=(x==·)) (l:=l) (fun k y hk hy=>hn k y (by omega) hy)];exact hΦ _ hk
 ·refine⟨?_,?_,?_,?_,.refl hs,fun k y hk=>absurd hk (Nat.not_lt_zero k)⟩
  ·simp only[mW,seval]
  ·simp only[mW,seval]
  ·simp only[mW,seval]
  ·simp only[mW,seval]
   try rfl
theorem QI:type_of% (An @RC<|An @RO<|An @RD<|An @RV<|An @RB<|@RG):=An @RC<|An @RO<|An @RD<|An @RV<|An @RB<|@RG
theorem pw (x:Int) (h:gL s (.slice a n c) l) (tI:n<2 ^ 40) (hs:Ok s)
  (hΦ:∀ s',aC [] s s'→Φ (.bool (l.contains x)) s'):okF q X (KO kc) 119 [.slice a n c,int x] s Φ:=by
 refine aV rfl Yy rfl (rs:=[.tmp 4]) rfl (N:=9) rfl rfl ?_;refine aA fun bB aF aZ=>?_;simp only[QI,seval];refine aF _ _ ?_;refine aA fun Ψ1 aE aK=>?_;simp only[QI,seval];refine aJ ?_ (aHf x h tI hs fun s' hk=>?_)
 ·simp only[QI,seval]
 simp only[QI,seval,Ez];refine aE _ _ ?_;simp only[QI,seval];rw[show l.any (fun y=>x==y)=l.contains x from List.contains_eq_any_beq.symm];exact hΦ _ hk
end
open Go.Proofs
set_option maxRecDepth 100000
section
variable {kc:Kc} {q:Bool} {s:St} {Φ:Value→St→Prop} {t u n w:Nat} {L:Nat→Nat}
theorem QM:type_of% (An @RX<|@jX):=An @RX<|@jX
theorem aHa {x:Nat} (hx:aI s.look ⟨x,0,none⟩=some (ptr t)) (h:eZ s t u n w L) (v:Int) (hΦ:Φ (.bool (!decide (0≤v∧v≤(2 ^ w-1:Nat)))) s):okF q X (KO kc) 207 [int v,ptr x] s Φ:=by
 refine aV rfl z4 rfl (rs:=[.tmp 3]) rfl (N:=8) rfl rfl ?_;refine aA fun bB aF aZ=>?_;simp only[QM,seval];refine aF _ _ ?_;refine aA fun Ψ1 aE aK=>?_;simp only[QM,seval,hx];refine aJ ?_ (aHb h v ?_)
 ·simp only[QM,seval]
 simp only[QM,seval];refine aE _ _ ?_;simp only[QM,seval];exact hΦ
theorem qT:type_of% (An @RX<|@jX):=An @RX<|@jX
theorem Nv (hs:Ok s) (h:eZ s t u n w L) (i:Int) {a:Option Addr} {m c:Nat} {l:List Int} (hl:gL s (.slice a m c) l) (hn:∀ b∈nameOf (.slice a m c),b<s.next) (hm:m<2 ^ 40)
  (hΦ:∀ s',aC [] s s'→Φ (int (if (0≤i∧i<n)∧∀ v∈l,0≤v∧v≤(2 ^ w-1:Nat) then 0 else 1)) s'):okF q X (KO kc) 139 [ptr t,int i,.slice a m c] s Φ:=by
 refine aV rfl Zl rfl (rs:=[.tmp 6]) rfl (N:=21) rfl rfl ?_;refine aA fun bB aF aZ=>?_;simp only[qT,seval];refine aF _ _ ?_;have k0:aC [] s (s.new fun v=>.cells (PT.ofList [ptr t]) [] 1 68 false false v):=(aC.refl hs).new (.inr (Nat.le_refl _));have c0:Obj (s.new fun v=>.cells (PT.ofList [ptr t]) [] 1 68 false false v) s.next [ptr t]:=⟨_,Cells.vL (L:=[ptr t])⟩;generalize (s.new fun v=>.cells (PT.ofList [ptr t]) [] 1 68 false false v)=s1 at k0 c0 ⊢;have hx:aI s1.look ⟨s.next,0,none⟩=some (ptr t):=c0.load rfl;have h1:=h.aD k0 (by simp) (by simp);refine aA fun Ψ1 aE aK=>?_;refine cB fun Ψ2 aH vD bM=>?_;refine aA fun Ψ3 aM bN=>?_;simp only[qT,seval,hx];refine aJ ?_ (LD h1 ?_)
 ·simp only[qT,seval]
 simp only[qT,seval];refine aM _ _ ?_;simp only[eG,RV,RG,seval];refine aA fun Ψ4 aQ bZ=>?_;refine cK [(4,16)] (by kernel_rfl) fun O hO bK hR=>?_;have y4:∀ a,aN O a 4=bC (a.aB 16):=hO (4,16) (by simp);simp only[qT,seval,hx];refine aJ ?_ (Nx h1 i ?_)
 ·simp only[qT,seval]
 by_cases hi:0≤i∧i<(n:Int)
 ·simp only[qT,seval,y4,hi,and_self,decide_true,decide_false];refine aJ ?_ (aHd (f:=207) (ca:=#[ptr s.next]) (l:=l) (p:=fun v=>!decide (0≤v∧v≤(2 ^ w-1:Nat))) (Sl.aD hl k0 (by simp)) hm k0.ok ?_ fun s2 k2=>?_)
  ·simp only[qT,seval]
  ·intro v hv s2 aR hk bH;exact aHa (tM hk (by simp) hx) (h1.aD hk (by simp) (by simp)) v (bH _ (.refl hk.ok))
  try simp only[qT,seval,y4]
  refine hR _ _ ?_;refine aQ _ _ ?_;cases ha:l.any (fun v=>!decide (0≤v∧v≤((2 ^ w-1:Nat):Int))) with
  | true =>
   simp only[qT,seval];refine bM _ _ _ (by simp) (by simp) (aK _ _ _ (by simp) ?_);simp only[qT,seval];have hno:¬ ∀ v∈l,0≤v∧v≤((2 ^ w-1:Nat):Int):=fun hall=>by
    obtain⟨v,hv,hp⟩:=List.any_eq_true.1 ha;simp[hall v hv] at hp
   have:=hΦ s2 (k0.trans k2);rw[if_neg fun hh=>hno hh.2] at this;exact this
  | false =>
   simp only[qT,seval];refine aH _ _ (aE _ _ ?_);simp only[qT,seval];have hall:∀ v∈l,0≤v∧v≤((2 ^ w-1:Nat):Int):=fun v hv=>by
    have:=List.any_eq_false.1 ha v hv;simpa using this
   have:=hΦ s2 (k0.trans k2);rw[if_pos ⟨hi,hall⟩] at this;exact this
 ·simp only[qT,seval,y4,hi,decide_false];refine hR _ _ ?_;refine aQ _ _ ?_;simp only[qT,seval];refine bM _ _ _ (by simp) (by simp) (aK _ _ _ (by simp) ?_);simp only[qT,seval];have:=hΦ s1 k0;rw[if_neg fun hh=>hi hh.1] at this;exact this
theorem BX:type_of% (An @RX<|@jE):=An @RX<|@jE
theorem QB (hs:Ok s) (h:eZ s t u n w L) {i v:Int} {i' v':Nat} (hi:i=i') (hv:v=v') (hi':i'<n) (hv':v'<2 ^ w)
  (hΦ:∀ s',eZ s' t u n w (jB L i' v')→aC [u] s s'→Φ (int 0) s'):okF q X (KO kc) 49 [ptr t,int i,int v] s Φ:=by
 subst hi hv;refine aV rfl F8 rfl (rs:=[.tmp 6]) rfl (N:=20) rfl rfl ?_;refine aA fun bB aF aZ=>?_;simp only[BX,seval];refine aF _ _ ?_;refine aA fun Ψ1 aE aK=>?_;refine aA fun Ψ2 aH bM=>?_;simp only[BX,seval];have k0:aC [] s (s.new fun x=>.cells (PT.ofList [int v']) [] 1 3 false false x):=(aC.refl hs).new (.inr (Nat.le_refl _));have c0:Obj (s.new fun x=>.cells (PT.ofList [int v']) [] 1 3 false false x) s.next [int v']:=⟨_,Cells.vL (L:=[int v'])⟩;generalize (s.new fun x=>.cells (PT.ofList [int v']) [] 1 3 false false x)=s1 at k0 c0 ⊢;refine aJ ?_ (Nv k0.ok (h.aD k0 (by simp) (by simp)) i' (a:=some ⟨s.next,0,none⟩) (m:=1) (c:=1) (l:=[(v':Int)]) (Obj.sl c0 rfl) (by intro b hb;simp[nameOf] at hb;subst hb;exact c0.lt k0.ok) (by omega) fun s2 k2=>?_)
 ·simp only[BX,seval]
 rw[if_pos ⟨⟨Int.natCast_nonneg _,by omega⟩,fun x hx=>by rw[List.mem_singleton.1 hx];omega⟩]
 try simp only[BX,seval]
 refine aH _ _ ?_;simp only[BX,seval];refine aE _ _ ?_;have k3:=k0.trans k2;have h3:=h.aD k3 (by simp) (by simp);refine aA fun Ψ3 aM bN=>?_;simp only[BX,seval];refine aJ ?_ (Nw k2.ok h3 hi' hv' fun s4 h4 k4=>?_)
 ·simp only[BX,seval]
 try simp only[BX,seval]
 refine aM _ _ ?_;simp only[BX,seval];exact hΦ _ h4 (k3.any.trans k4)
theorem vZ:type_of% (An @RC<|An @RO<|An @RD<|An @RV<|An @RB<|@RG):=An @RC<|An @RO<|An @RD<|An @RV<|An @RB<|@RG
theorem QA (hs:Ok s) (h:eZ s t u n w L) (i:Int) (hΦ:∀ s',aC [] s s'→Φ (int (if 0≤i∧i<n then(L i.toNat:Int) else -1)) s'):okF q X (KO kc) 78 [ptr t,int i] s Φ:=by
 refine aV rfl J_ rfl (rs:=[.tmp 4]) rfl (N:=12) rfl rfl ?_;refine aA fun bB aF aZ=>?_;simp only[vZ,seval];refine aF _ _ ?_;refine aA fun Ψ1 aE aK=>?_;refine aA fun Ψ2 aH bM=>?_;simp only[vZ,seval];refine aJ ?_ (Nx h i ?_)
 ·simp only[vZ,seval]
 by_cases hi:0≤i∧i<(n:Int)
 ·simp only[vZ,seval,hi,and_self,decide_true];refine aH _ _ ?_;simp only[vZ,seval];refine aE _ _ ?_;refine aA fun Ψ3 aM bN=>?_;simp only[vZ,seval];obtain⟨j,rfl⟩:∃ j:Nat,i=j:=⟨i.toNat,by omega⟩;refine aJ ?_ (YH hs h (i:=j) (by omega) fun s' k=>?_)
  ·simp only[vZ,seval]
  try simp only[vZ,seval]
  refine aM _ _ ?_;simp only[vZ,seval];have:=hΦ s' k;rw[if_pos hi] at this;exact this
 ·simp only[vZ,seval,hi,decide_false];refine aH _ _ ?_;simp only[vZ,seval];refine aK _ _ _ (by simp) ?_;simp only[vZ,seval];have:=hΦ s (.refl hs);rw[if_neg hi] at this;exact this
theorem LK:type_of% (An @RX<|An @yQ<|@aW):=An @RX<|An @yQ<|@aW
theorem Nt (h:eZ s t u n w L) (hΦ:Φ (int n) s):okF q X (KO kc) 102 [ptr t] s Φ:=by
 refine aV rfl Yn rfl (rs:=[.tmp 2]) rfl (N:=10) rfl rfl ?_;refine aA fun bB aF aZ=>?_;simp only[LK,seval];refine aF _ _ ?_;refine aA fun Ψ1 aE aK=>?_;refine aA fun Ψ2 aH bM=>?_;simp only[LK,seval];refine aJ ?_ (LD h ?_)
 ·simp only[LK,seval]
 simp only[LK,seval];refine aH _ _ ?_;simp only[LK,seval];refine aE _ _ ?_;simp only[LK,seval,h.l0];exact hΦ
theorem LL:type_of% (An @RX<|An @CS<|@aW):=An @RX<|An @CS<|@aW
theorem aH9 (h:eZ s t u n w L) (hΦ:Φ (int w) s):okF q X (KO kc) 112 [ptr t] s Φ:=by
 refine aV rfl Yu rfl (rs:=[.tmp 2]) rfl (N:=10) rfl rfl ?_;refine aA fun bB aF aZ=>?_;simp only[LL,seval];refine aF _ _ ?_;refine aA fun Ψ1 aE aK=>?_;refine aA fun Ψ2 aH bM=>?_;simp only[LL,seval];refine aJ ?_ (LD h ?_)
 ·simp only[LL,seval]
 simp only[LL,seval];refine aH _ _ ?_;simp only[LL,seval];refine aE _ _ ?_;simp only[LL,seval,h.l1];exact hΦ
def pS (L:Nat→Nat) (v:Int):Nat→Option Nat
 | 0=>none
 | k+1=>if (L k:Int)=v then some k else pS L v k
theorem jn {L:Nat→Nat} {v:Int}:∀ {k j:Nat},j≤k→(∀ i,j≤i→i<k→¬ (L i:Int)=v)→pS L v k=pS L v j
 | 0,j,h,_=>by rw[Nat.le_zero.1 h]
 | k+1,j,h,hn=>by
  rcases Nat.lt_or_ge j (k+1) with h1 | h1
  ·rw[pS,if_neg (hn k (by omega) (by omega))];exact jn (by omega) fun i h2 h3=>hn i h2 (by omega)
  ·rw[show j=k+1 by omega]
theorem lI:type_of% (An @RX<|An @yQ<|@aW):=An @RX<|An @yQ<|@aW
theorem aH7 (hs:Ok s) (h:eZ s t u n w L) (b v:Int) (hΦ:∀ s',aC [] s s'→Φ (match pS L v (min (max b 0) n).toNat with
  | some i=>.tuple #[int i,int 0]
  | none=>.tuple #[int 0,int 4]) s'):okF q X (KO kc) 82 [ptr t,int b,int v] s Φ:=by
 obtain⟨m,hm⟩:∃ m:Nat,min (max b 0) (n:Int)=m:=⟨(min (max b 0) n).toNat,by omega⟩;have hmn:m≤n:=by omega
 have hn1:=h.n1;rw[hm,Int.toNat_natCast] at hΦ;refine aV rfl L1 rfl (rs:=[.tmp 6,.tmp 7]) rfl (N:=30) rfl rfl ?_;refine aA fun bB aF aZ=>?_;simp only[lI,seval];refine aF _ _ ?_;refine aA fun Ψ1 aE aK=>?_;refine aA fun Ψ2 aH bM=>?_;simp only[lI,seval];refine aJ ?_ (LD h ?_)
 ·simp only[lI,seval]
 simp only[lI,seval];refine aH _ _ ?_;simp only[lI,seval];refine aE _ _ ?_;refine aA fun Ψ3 aM bN=>?_;refine aA fun Ψ4 aQ bZ=>?_;simp only[lI,seval,h.l0,hm];refine aQ _ _ ?_;refine cB fun cP bI oH cF=>?_;rw[aU (n:=(m:Int)-1) (by omega) (by omega)];refine gD (n:=m) (fun j a' s'=>a'.aB 0=ptr t∧a'.aB 2=int v∧a'.aB 8=int (m-j-1)∧aC [] s s'∧∀ i,m-j≤i→i<m→¬ (L i:Int)=v)
  (fun j a' s'=>a'.aB 0=ptr t∧a'.aB 2=int v∧a'.aB 8=int (m-j-1)∧aC [] s s'∧∀ i,m-(j+1)≤i→i<m→¬ (L i:Int)=v) ?_ ?_ ?_ ?_ (Nat.zero_le m) ?_
 ·rintro j a' s' hj ⟨r0,r2,r8,hk,hn⟩ aR bH;simp only[lI,seval,r8];refine bH _ _ (decide ((m:Int)-j-1≥0)) ?_ (by rw[decide_eq_true_eq];omega) ⟨?_,?_,?_,hk,hn⟩
  all_goals simp only[lI,seval,r0,r2,r8]
 ·rintro j a' s' hj ⟨r0,r2,r8,hk,hn⟩ aR h1 h2 h3;have Dl:(m:Int)-j-1=((m-j-1:Nat):Int):=by omega
  refine aA fun dK bO cV=>?_;simp only[lI,seval,r0,r8,Dl];refine aJ ?_ (YH hk.ok (h.aD hk (by simp) (by simp)) (i:=m-j-1) (by omega) fun s2 k2=>?_)
  ·simp only[lI,seval]
  by_cases hv:(L (m-j-1):Int)=v
  ·simp only[lI,seval,r2,hv,beq_self_eq_true];refine bO _ _ ?_;simp only[lI,seval,r8,Dl];refine h3 _ _ _ (by simp) (by simp) (cF _ _ _ (by simp) (by simp) (bN _ _ _ (by simp) ?_));simp only[lI,seval];have:=hΦ s2 (hk.trans k2);rw[jn (j:=m-j-1+1) (by omega) (fun i h1 h2=>hn i (by omega) h2),pS,if_pos hv] at this;exact this
  ·have hv':((L (m-j-1):Int)==v)=false:=by simpa using hv
   simp only[lI,seval,r2,hv'];refine bO _ _ ?_;simp only[lI,seval];refine h1 _ _ ⟨?_,?_,?_,hk.trans k2,fun i h4 h5=>?_⟩
   ·simp only[lI,seval,r0]
   ·simp only[lI,seval,r2]
   ·simp only[lI,seval,r8]
   ·by_cases hi:i=m-j-1
    ·subst hi;exact hv
    ·exact hn i (by omega) h5
 ·rintro j a' s' hj ⟨r0,r2,r8,hk,hn⟩ aR h1;simp only[lI,seval,r8];refine h1 _ _ ⟨?_,?_,?_,hk,hn⟩
  ·simp only[lI,seval,r0]
  ·simp only[lI,seval,r2]
  ·simp only[lI,seval];rw[aU (by omega) (by omega)];congr 1 <;> omega
 ·rintro a' s' ⟨r0,r2,r8,hk,hn⟩;refine oH _ _ (aM _ _ ?_);simp only[lI,seval];have:=hΦ s' hk;rw[jn (j:=0) (Nat.zero_le _) (fun i h1 h2=>hn i (by omega) h2),pS] at this;exact this
 ·refine⟨?_,?_,?_,.refl hs,fun i h1 h2=>by omega⟩
  ·simp only[lI,seval]
  ·simp only[lI,seval]
  ·simp only[lI,seval];congr 1 <;> omega
def pU (L:Nat→Nat) (v:Int) (k:Nat):Nat→Option Nat
 | 0=>none
 | d+1=>if (L k:Int)=v then some k else pU L v (k+1) d
theorem mi {L:Nat→Nat} {v:Int}:∀ {d k j:Nat},k≤j→j≤k+d→(∀ i,k≤i→i<j→¬ (L i:Int)=v)→pU L v k d=pU L v j (k+d-j)
 | 0,k,j,h1,h2,_=>by
  obtain rfl:j=k:=by omega
  rw[show j+0-j=0 by omega]
 | d+1,k,j,h1,h2,hn=>by
  by_cases h:j=k
  ·subst h;rw[show j+(d+1)-j=d+1 by omega]
  ·rw[pU,if_neg (hn k (Nat.le_refl _) (by omega)),mi (d:=d) (k:=k+1) (j:=j) (by omega) (by omega) fun i h3 h4=>hn i (by omega) h4];congr 1 <;> omega
def WV (o:Option Nat):Value:=match o with
 | some i=>int i
 | none=>int 0
def WW (o:Option Nat):Value:=match o with
 | some _=>int 0
 | none=>int 4
theorem PB (i:Nat):WV (some i)=int i:=rfl
theorem PD (i:Nat):WW (some i)=int 0:=rfl
theorem PA:WV none=int 0:=rfl
theorem PC:WW none=int 4:=rfl
theorem lD:type_of% (An @RX<|An @yQ<|@aW):=An @RX<|An @yQ<|@aW
theorem Nu (hs:Ok s) (h:eZ s t u n w L) (b v:Int) (hb:b≤1000000) (hΦ:∀ s',aC [] s s'→Φ (.tuple #[WV (pU L v (max b 0).toNat (n-(max b 0).toNat)),WW (pU L v (max b 0).toNat (n-(max b 0).toNat))]) s'):okF q X (KO kc) 218 [ptr t,int b,int v] s Φ:=by
 obtain⟨m,hm⟩:∃ m:Nat,max b 0=(m:Int):=⟨(max b 0).toNat,by omega⟩;have hm1:m≤1000000:=by omega
 have hn1:=h.n1;rw[hm,Int.toNat_natCast] at hΦ;refine aV rfl A7 rfl (rs:=[.tmp 6,.tmp 7]) rfl (N:=28) rfl rfl ?_;refine aA fun bB aF aZ=>?_;simp only[lD,seval];refine aF _ _ ?_;refine aA fun Ψ1 aE aK=>?_;refine aA fun Ψ2 aH bM=>?_;simp only[lD,seval];refine aJ ?_ (LD h ?_)
 ·simp only[lD,seval]
 simp only[lD,seval];refine aH _ _ ?_;simp only[lD,seval];refine aE _ _ ?_;refine aA fun Ψ3 aM bN=>?_;refine aA fun Ψ4 aQ bZ=>?_;simp only[lD,seval,hm];refine aQ _ _ ?_;refine cB fun cP bI oH cF=>?_;refine gD (n:=n-m) (fun j a' s'=>a'.aB 0=ptr t∧a'.aB 2=int v∧a'.aB 8=int (m+j:Nat)∧aC [] s s'∧∀ i,m≤i→i<m+j→¬ (L i:Int)=v)
  (fun j a' s'=>a'.aB 0=ptr t∧a'.aB 2=int v∧a'.aB 8=int (m+j:Nat)∧aC [] s s'∧∀ i,m≤i→i<m+(j+1)→¬ (L i:Int)=v) ?_ ?_ ?_ ?_ (Nat.zero_le (n-m)) ?_
 ·rintro j a' s' hj ⟨r0,r2,r8,hk,hn⟩ aR bH;simp only[lD,seval,r8,r0,(h.aD hk (by simp) (by simp)).l0];refine bH _ _ (decide (((m+j:Nat):Int)<n)) ?_ (by rw[decide_eq_true_eq];omega) ⟨?_,?_,?_,hk,hn⟩
  all_goals simp only[lD,seval,r0,r2,r8]
 ·rintro j a' s' hj ⟨r0,r2,r8,hk,hn⟩ aR h1 h2 h3;refine aA fun dK bO cV=>?_;simp only[lD,seval,r0,r8];refine aJ ?_ (YH hk.ok (h.aD hk (by simp) (by simp)) (i:=m+j) (by omega) fun s2 k2=>?_)
  ·simp only[lD,seval]
  by_cases hv:(L (m+j):Int)=v
  ·simp only[lD,seval,r2,hv,beq_self_eq_true];refine bO _ _ ?_;simp only[lD,seval,r8];refine h3 _ _ _ (by simp) (by simp) (cF _ _ _ (by simp) (by simp) (bN _ _ _ (by simp) ?_));simp only[lD,seval];have:=hΦ s2 (hk.trans k2);rw[mi (j:=m+j) (by omega) (by omega) (fun i h1 h2=>hn i h1 h2),show m+(n-m)-(m+j)=(n-m-j-1)+1 by omega,pU,if_pos hv] at this;exact this
  ·have hv':((L (m+j):Int)==v)=false:=by simpa using hv
   simp only[lD,seval,r2,hv'];refine bO _ _ ?_;simp only[lD,seval];refine h1 _ _ ⟨?_,?_,?_,hk.trans k2,fun i h4 h5=>?_⟩
   ·simp only[lD,seval,r0]
   ·simp only[lD,seval,r2]
   ·simp only[lD,seval,r8]
   ·by_cases hi:i=m+j
    ·subst hi;exact hv
    ·exact hn i h4 (by omega)
 ·rintro j a' s' hj ⟨r0,r2,r8,hk,hn⟩ aR h1;simp only[lD,seval,r8];refine h1 _ _ ⟨?_,?_,?_,hk,hn⟩
  ·simp only[lD,seval,r0]
  ·simp only[lD,seval,r2]
  ·simp only[lD,seval];rw[aU (by omega) (by omega)];congr 1
 ·rintro a' s' ⟨r0,r2,r8,hk,hn⟩;refine oH _ _ (aM _ _ ?_);simp only[lD,seval];have:=hΦ s' hk;rw[mi (j:=m+(n-m)) (by omega) (by omega) (fun i h1 h2=>hn i h1 h2),show m+(n-m)-(m+(n-m))=0 by omega,pU] at this;exact this
 ·refine⟨?_,?_,?_,.refl hs,fun i h1 h2=>by omega⟩
  ·simp only[lD,seval]
  ·simp only[lD,seval]
  ·simp only[lD,seval];congr 1
theorem Wu (sh w:Nat):wH 0 sh w=0:=by simp[wH]
theorem aJ0 {k:IntKind} (n:Nat):((List.range (n*[Value.int k 0].length)).map fun i=>[Value.int k 0].getD (i % [Value.int k 0].length) undef)=(List.replicate n 0).map fun(x:Nat)=>Value.int k (x:Int):=by
 rw[List.map_replicate];apply List.ext_getElem?;intro i;simp only[List.length_singleton,Nat.mul_one,List.getElem?_map,List.getElem?_replicate];by_cases h:i<n
 ·rw[List.getElem?_range h,if_pos h,Option.map_some,Nat.mod_one];rfl
 ·rw[if_neg h,List.getElem?_eq_none (by simp;omega)];rfl
theorem LZ:type_of% (An @RX<|An @xg<|@uo):=An @RX<|An @xg<|@uo
theorem pq (hs:Ok s) {n w:Int} {n' w':Nat} (hn:n=n') (hw:w=w') (h0:0<n') (h1:n'≤4096) (hw1:w'=1∨w'=2∨w'=4∨w'=8)
  (hΦ:∀ s' t u,s.next≤t→s.next≤u→eZ s' t u n' w' (fun _=>0)→aC [] s s'→Φ (.tuple #[ptr t,int 0]) s'):okF q X (KO kc) 98 [int n,int w] s Φ:=by
 subst hn hw;have d0:¬ (n':Int)<1:=by omega
 have d1:¬ (n':Int)>4096:=by omega
 have Eh:w'≤8:=by omega
 refine aV rfl L_ rfl (rs:=[.tmp 4,.tmp 5]) rfl (N:=29) rfl rfl ?_;refine aA fun bB aF aZ=>?_;simp only[LZ,seval];refine aF _ _ ?_;refine aA fun Ψ1 aE aK=>?_;refine aA fun Ψ2 aH bM=>?_;refine cK [(2,8),(6,12)] (by kernel_rfl) fun O hO bK hR=>?_;have y2:∀ a,aN O a 2=bC (a.aB 8):=hO (2,8) (by simp);have y6:∀ a,aN O a 6=bC (a.aB 12):=hO (6,12) (by simp);simp only[LZ,seval,d0,d1,decide_false,y2,y6];have k0:aC [] s (s.new fun x=>.cells (PT.ofList [int 1,int 2,int 4,int 8]) [] 4 3 false false x):=(aC.refl hs).new (.inr (Nat.le_refl _));have c0:Obj (s.new fun x=>.cells (PT.ofList [int 1,int 2,int 4,int 8]) [] 4 3 false false x) s.next [int 1,int 2,int 4,int 8]:=⟨_,Cells.vL (L:=[int 1,int 2,int 4,int 8])⟩;generalize (s.new fun x=>.cells (PT.ofList [int 1,int 2,int 4,int 8]) [] 4 3 false false x)=s1 at k0 c0 ⊢;refine aJ ?_ (pw (l:=[1,2,4,8]) w' (Obj.sl (n:=4) (c:=4) (m:=1) c0 rfl) (by omega) k0.ok fun s2 k2=>?_)
 ·simp only[LZ,seval]
 have hc:List.contains [1,2,4,8] (w':Int)=true:=by rcases hw1 with rfl | rfl | rfl | rfl <;> rfl
 try simp only[LZ,seval,y6,hc]
 refine hR _ _ (aH _ _ ?_);simp only[LZ,seval];refine aE _ _ ?_;have k3:=k0.trans k2;have m1:=mg h1 Eh;have hm:n'*w'≤4096*8:=Nat.mul_le_mul h1 Eh;have e1:IntKind.i64.wrap (((n'*w':Nat):Int)+64)=((n'*w'+64:Nat):Int):=by rw[aU (by omega) (by omega)];rfl
 have e2:IntKind.i64.wrap (((n'*w'+64:Nat):Int)-1)=((n'*w'+63:Nat):Int):=by rw[aU (by omega) (by omega)];omega
 have e3:IntKind.i64.wrap (((n'*w'+63:Nat):Int).tdiv 64)=(((n'*w'+63)/64:Nat):Int):=by rw[show ((n'*w'+63:Nat):Int).tdiv 64=(((n'*w'+63)/64:Nat):Int) from rfl,aU (by omega) (by omega)]
 simp only[LZ,seval,m1,e1,e2,e3,aCx (nm:=s2.next) (n:=(((n'*w'+63)/64:Nat):Int)) (m:=(((n'*w'+63)/64:Nat):Int)) (by omega) (by omega) (by omega) (by omega),Int.toNat_natCast];have k4:aC [] s2 (s2.new fun v=>.cells .nil [Value.int IntKind.u64 0] ((n'*w'+63)/64*1) 221 false false v):=(aC.refl k2.ok).new (.inr (Nat.le_refl _));have c4:Obj (s2.new fun v=>.cells .nil [Value.int IntKind.u64 0] ((n'*w'+63)/64*1) 221 false false v) s2.next ((List.replicate ((n'*w'+63)/64) 0).map fun(x:Nat)=>Value.int .u64 (x:Int)):=by
  have:=Cells.tO (s:=s2) (x:=s2.next) (e:=221) (z:=[Value.int IntKind.u64 0]) (n:=(n'*w'+63)/64);rw[aJ0] at this;exact⟨_,this⟩
 have GJ:(s2.new fun v=>.cells .nil [Value.int IntKind.u64 0] ((n'*w'+63)/64*1) 221 false false v).next=s2.next+2:=rfl;generalize (s2.new fun v=>.cells .nil [Value.int IntKind.u64 0] ((n'*w'+63)/64*1) 221 false false v)=s3 at k4 c4 GJ ⊢;have k5:aC [] s3 (s3.new fun v=>.cells (PT.ofList [int n',int w',Value.slice (some ⟨s2.next,0,none⟩) ((n'*w'+63)/64) ((n'*w'+63)/64)]) [] 3 201 false false v):=(aC.refl k4.ok).new (.inr (Nat.le_refl _));have c5:Obj (s3.new fun v=>.cells (PT.ofList [int n',int w',Value.slice (some ⟨s2.next,0,none⟩) ((n'*w'+63)/64) ((n'*w'+63)/64)]) [] 3 201 false false v) s3.next [int n',int w',Value.slice (some ⟨s2.next,0,none⟩) ((n'*w'+63)/64) ((n'*w'+63)/64)]:=⟨_,Cells.vL (L:=[int n',int w',Value.slice (some ⟨s2.next,0,none⟩) ((n'*w'+63)/64) ((n'*w'+63)/64)])⟩;refine hΦ _ s3.next s2.next (Nat.le_trans (k3.trans k4).next (Nat.le_refl _)) k3.next ⟨c5,⟨List.replicate ((n'*w'+63)/64) 0,c4.aD k5 (by simp),List.length_replicate,fun x hx=>?_,fun i hi=>?_⟩,by omega,h0,h1,hw1⟩ ((k3.trans k4).trans k5)
 ·rw[(List.mem_replicate.1 hx).2];omega
 ·rw[List.getD_eq_getElem?_getD,List.getElem?_replicate];split <;> exact Wu _ _
end
end Go.Dust
namespace Go.Dust
structure cI where
 r:Int
 d:Int
 k:Int
 deriving DecidableEq
def cI.valid (x:cI):Bool:=decide (0≤x.r)&&decide (x.r≤15)&&decide (0≤x.d)&&decide (x.d≤200)&&decide (0≤x.k)&&decide (x.k≤3)&&(decide (x.k≠1)||decide (1≤x.r))&&(decide (x.k≠2)||decide (2≤x.r))
def cI.words (x:cI):Int:=if x.valid=true then(x.r+x.d+3)/2*2 else 0
def cI.num (x:cI):Int:=x.r+16*x.d+4096*x.k
def tU (n:Int):cI:=⟨n.tmod 16,(n.tmod 4096).tdiv 16,n.tdiv 4096⟩
theorem cI.pZ {x:cI}:x.valid=true↔(0≤x.r∧x.r≤15∧0≤x.d∧x.d≤200∧0≤x.k∧x.k≤3∧(x.k=1→1≤x.r)∧(x.k=2→2≤x.r)):=by
 unfold cI.valid;simp only[Bool.and_eq_true,Bool.or_eq_true,decide_eq_true_eq];constructor
 ·rintro⟨⟨⟨⟨⟨⟨⟨h1,h2⟩,h3⟩,h4⟩,h5⟩,h6⟩,h7⟩,h8⟩;exact⟨h1,h2,h3,h4,h5,h6,fun e=>h7.resolve_left fun h=>h e,fun e=>h8.resolve_left fun h=>h e⟩
 ·rintro⟨h1,h2,h3,h4,h5,h6,h7,h8⟩;refine⟨⟨⟨⟨⟨⟨⟨h1,h2⟩,h3⟩,h4⟩,h5⟩,h6⟩,?_⟩,?_⟩
  ·by_cases h:x.k=1
   ·exact .inr (h7 h)
   ·exact .inl h
  ·by_cases h:x.k=2
   ·exact .inr (h8 h)
   ·exact .inl h
theorem cI.CA (x:cI):0≤x.words∧x.words≤218∧x.words%2=0:=by
 unfold cI.words;split
 ·rename_i h;have:=cI.pZ.1 h;omega
 ·omega
theorem cI.sX {x:cI} (h:x.valid=true):x.words=(x.r+x.d+3)/2*2∧2≤x.words:=by
 unfold cI.words;rw[if_pos h];have:=cI.pZ.1 h;omega
theorem aH5 {x:cI} (h:x.valid=true):tU x.num=x:=by
 obtain⟨h1,h2,h3,h4,h5,h6,_,_⟩:=cI.pZ.1 h;rcases x with ⟨r,d,k⟩;simp only at h1 h2 h3 h4 h5 h6;unfold tU cI.num;simp only;have hn:0≤r+16*d+4096*k:=by omega
 rw[Int.tmod_eq_emod_of_nonneg hn,Int.tmod_eq_emod_of_nonneg hn,Int.tdiv_eq_ediv_of_nonneg hn,Int.tdiv_eq_ediv_of_nonneg (by omega)];congr 1 <;> omega
structure PH where
 nb:Nat
 nw:Nat
 st:Nat
 su:Nat
 pt:Nat
 pu:Nat
 mp:Nat
 mf:Nat
 N:Nat
 bs:Nat→Int
 bp:Nat→Int
 w:Nat→Int
 S:Nat→Nat
 Q:Nat→Nat
 M:List (Int×Int)
 born:Nat
namespace PH
variable (P:PH)
def has (a:Int):Bool:=decide (0≤a∧a%2=0∧a/2<32*P.N∧P.S (a/2).toNat=1)
def shape (a:Int):cI:=tU (P.w (a+1).toNat)
def size (a:Int):Int:=(P.shape a).words
theorem iN {P:PH} {a:Int}:P.has a=true↔(0≤a∧a%2=0∧a/2<32*P.N∧P.S (a/2).toNat=1):=by unfold has;rw[decide_eq_true_eq]
structure cM:Prop where
 val:∀ a,P.has a=true→(P.shape a).valid=true∧a+P.size a≤64*P.N
 sB:∀ a b,P.has a=true→P.has b=true→a<b→a+P.size a≤b
end PH
end Go.Dust
