/- VerifyDamage: the last row (Ld). -/
import Derived.Test.YtaoiejcaopgjcaaGreatRows
import Derived.Test.YtaoiejcaopgjcaaGreatR
import Derived.WalkKit
import Derived.ProofKit
set_option linter.unusedVariables false
set_option linter.unusedSimpArgs false
namespace Go.Proofs.YtaoiejcaopgjcaaGreat.verifyDamage
open Go.ChangeShapes Go.WideShapes Go.ChangeAt Go.RowKit Go.Dust
set_option maxRecDepth 100000
theorem own:ownKnob Tryz.prog.godebug=none:=by kernel_rfl
theorem laid:laidOutB Tryz.prog=true:=by kernel_rfl
theorem aDg:Tryz.f5.params.toList.all (fun t=>Tryz.prog.readableRec t&&decide (t<Tryz.prog.types.size))=true:=by kernel_rfl
theorem er {W:World} {r:Reach} {b:Nat} {v:Value} (h:Value.okWide Tryz.prog W r b 5 v):∃ n:Nat,n<256∧v=u8 n:=by
 simp only[Value.okWide,Tryz.underlying5,Cell.okWide] at h;cases v with
 | int k n =>
  simp only[Cell.ok,Tryz.underlying5] at h;obtain⟨rfl,h1,h2⟩:=h;have e1:IntKind.u8.min=0:=rfl;have e2:IntKind.u8.max=255:=rfl;rw[e1] at h1;rw[e2] at h2;exact⟨n.toNat,by omega,by
   have e:((n.toNat:Nat):Int)=n:=by omega
   show Value.int .u8 n=.int .u8 ((n.toNat:Nat):Int);rw[e]⟩
 | _=>simp[Cell.ok,Tryz.underlying5] at h
set_option maxRecDepth 100000 in
theorem lifted (os:Os) (started:os.Started) (H:Type) (enc:TypeId×Value→H) :
  ReturnsInHanded {} Tryz.checked os 5 .any (Rows.verifyDamageSpec.pre6 enc Tryz.prog Tryz.f5 Rows.verifyDamageRow.domain false) (Rows.verifyDamageSpec.post enc Tryz.prog Tryz.f5 false true false false):=by
 refine returnsInHanded_of_change (C:=Tryz.checked) own started (by kernel_rfl) Tryz.func5
  (ChangeSpec.witness6 (enc:=enc) (C:=Tryz.checked) false ⟨#[],#[.agg #[u8 0,u8 0,.slice none 0 0,.slice none 0 0,.slice none 0 0,.slice none 0 0,.slice none 0 0],u8 0,u8 0,u8 0],[]⟩ 8 (by kernel_rfl) (by kernel_rfl) (by kernel_rfl) (by kernel_rfl)) ?_
 intro W base args ds gs before W1 hW aHx _;have hval:∀ (j:Nat) t v,Tryz.f5.params[j]?=some t→args[j]?=some v→Value.okWide Tryz.prog W .any base t v:=W1;have hW':=hW;obtain⟨p,q,x_,hV,rfl,hfz,hnd⟩:=hW;have hA:DataW.TrodAll enc Tryz.prog W 0 (fun _=>true) true Tryz.f5.params.toList args.toList ds p:=x_;rw[Tryz.params5] at hA hval;obtain⟨v0,vs0,d0,ds0,p0,q0,hargs,rfl,rfl,h0,r0⟩:=trodAll_cons hA;obtain⟨v1,vs1,d1,ds1,p1,q1,rfl,rfl,rfl,h1,r1⟩:=trodAll_cons r0;obtain⟨v2,vs2,d2,ds2,p2,q2,rfl,rfl,rfl,h2,r2⟩:=trodAll_cons r1;obtain⟨v3,vs3,d3,ds3,p3,q3,rfl,rfl,rfl,h3,r3⟩:=trodAll_cons r2;obtain⟨rfl,rfl,rfl⟩:=trodAll_nil r3;obtain rfl:args=#[v0,v1,v2,v3]:=by apply Array.toList_inj.1;simpa using hargs
 obtain⟨x0,x1,y2,y3,y4,y5,y6,hx0,hx1,rfl,S2,S3,S4,S5,S6⟩:=Wc h0 (hval 0 27 v0 rfl rfl);obtain⟨o,ho,rfl⟩:=er (hval 1 5 v1 rfl rfl);obtain⟨i,hi,rfl⟩:=er (hval 2 5 v2 rfl rfl);obtain⟨n,hn,rfl⟩:=er (hval 3 5 v3 rfl rfl);refine(Ym hx0 hx1 ho hi hn S2 S3 S4 S5 S6).mono fun e W' ⟨he,hb⟩=>?_;refine⟨_,he,aDu laid (tb:=4) (fun t ht=>?_) rfl (by kernel_rfl) Tryz.underlying4 (fun ds jq=>?_) hW' hb⟩
 ·have:=List.all_eq_true.1 aDg t ht;simpa using this
 ·match ds,jq with
  | [_,_,_,_],_=>rfl
theorem proved:Rows.VerifyDamageSaid :=
 OpenClaim.holds_of_wide (p:=Tryz.pinned) (s:=Rows.verifyDamageSpec) (c:=Rows.verifyDamageRow) 5 Tryz.f5 rfl rfl rfl rfl rfl rfl rfl ⟨rfl,rfl,rfl,rfl,rfl⟩ rfl rfl rfl rfl rfl named Tryz.func5 closed
  (of_decide_eq_true (by kernel_rfl)) (by unfold Func.isWrapper;first | (rw[if_pos (by decide +kernel)];kernel_rfl) | (rw[if_neg (by decide +kernel)];exact⟨rfl,rfl⟩))
  (fun os started H enc _=>lifted os started H enc)
#print axioms proved
end Go.Proofs.YtaoiejcaopgjcaaGreat.verifyDamage
