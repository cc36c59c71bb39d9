/- VerifySound: the last row (La). -/
import Derived.Test.YtaoiejcaopgjcaaGreatRows
import Derived.Test.YtaoiejcaopgjcaaGreatc
import Derived.Test.YtaoiejcaopgjcaaGreatd
import Derived.WalkKit
import Derived.ProofKit
set_option linter.unusedVariables false
set_option linter.unusedSimpArgs false
namespace Go.Proofs.YtaoiejcaopgjcaaGreat.verifySound
open Go.ChangeShapes Go.WideShapes Go.ChangeAt Go.RowKit Go.Dust
set_option maxRecDepth 100000
theorem own:ownKnob Tryz.prog.godebug=none:=by kernel_rfl
theorem laid:laidOutB Tryz.prog=true:=by kernel_rfl
theorem pars:Tryz.f3.params.toList.all (fun t=>Tryz.prog.readableRec t&&decide (t<Tryz.prog.types.size))=true:=by kernel_rfl
theorem int_of {W:World} {r:Reach} {b:Nat} {v:Value} (h:Value.okWide Tryz.prog W r b 3 v):∃ n:Int,i64 n∧v=.int .i64 n:=by
 simp only[Value.okWide,Tryz.underlying3,Cell.okWide] at h
 cases v with
 | int k n =>
  simp only[Cell.ok,Tryz.underlying3] at h
  obtain⟨rfl,h1,h2⟩:=h
  have e1:IntKind.i64.min=-9223372036854775808:=rfl
  have e2:IntKind.i64.max=9223372036854775807:=rfl
  rw[e1] at h1
  rw[e2] at h2
  exact⟨n,⟨h1,h2⟩,rfl⟩
 | _=>simp[Cell.ok,Tryz.underlying3] at h
theorem ew {W:World} {r:Reach} {b:Nat} {v:Value} (h:Value.okWide Tryz.prog W r b 5 v):∃ n:Nat,n<256∧v=u8 n:=by
 simp only[Value.okWide,Tryz.underlying5,Cell.okWide] at h
 cases v with
 | int k n =>
  simp only[Cell.ok,Tryz.underlying5] at h
  obtain⟨rfl,h1,h2⟩:=h
  have e1:IntKind.u8.min=0:=rfl
  have e2:IntKind.u8.max=255:=rfl
  rw[e1] at h1
  rw[e2] at h2
  exact⟨n.toNat,by omega,by
   have e:((n.toNat:Nat):Int)=n:=by omega
   show Value.int .u8 n=.int .u8 ((n.toNat:Nat):Int)
   rw[e]⟩
 | _=>simp[Cell.ok,Tryz.underlying5] at h
set_option maxRecDepth 100000 in
theorem lifted (os:Os) (started:os.Started) (H:Type) (enc:TypeId×Value→H) :
  ReturnsInHanded {} Tryz.checked os 3 .any (Rows.verifySoundSpec.pre6 enc Tryz.prog Tryz.f3 Rows.verifySoundRow.domain false) (Rows.verifySoundSpec.post enc Tryz.prog Tryz.f3 false true false false):=by
 refine returnsInHanded_of_change (C:=Tryz.checked) own started (by kernel_rfl) Tryz.func3
  (ChangeSpec.witness6 (enc:=enc) (C:=Tryz.checked) false ⟨#[],#[.agg #[u8 0,u8 0,.slice none 0 0,.slice none 0 0,.slice none 0 0,.slice none 0 0,.slice none 0 0],u8 0,u8 0,.int .i64 0],[]⟩ 8 (by kernel_rfl) (by kernel_rfl) (by kernel_rfl) (by kernel_rfl)) ?_
 intro W base args ds gs before hval0 hW hcnd _
 have hval:∀ (j:Nat) t v,Tryz.f3.params[j]?=some t→args[j]?=some v→Value.okWide Tryz.prog W .any base t v:=hval0
 have hW':=hW
 obtain⟨p,q,hA0,hV,rfl,hfz,hnd⟩:=hW
 have hA:DataW.TrodAll enc Tryz.prog W 0 (fun _=>true) true Tryz.f3.params.toList args.toList ds p:=hA0
 rw[Tryz.params3] at hA hval
 obtain⟨v0,vs0,d0,ds0,p0,q0,hargs,rfl,rfl,h0,r0⟩:=trodAll_cons hA
 obtain⟨v1,vs1,d1,ds1,p1,q1,rfl,rfl,rfl,h1,r1⟩:=trodAll_cons r0
 obtain⟨v2,vs2,d2,ds2,p2,q2,rfl,rfl,rfl,h2,r2⟩:=trodAll_cons r1
 obtain⟨v3,vs3,d3,ds3,p3,q3,rfl,rfl,rfl,h3,r3⟩:=trodAll_cons r2
 obtain⟨rfl,rfl,rfl⟩:=trodAll_nil r3
 obtain rfl:args=#[v0,v1,v2,v3]:=by apply Array.toList_inj.1;simpa using hargs
 obtain⟨x0,x1,y2,y3,y4,y5,y6,hx0,hx1,rfl,S2,S3,S4,S5,S6⟩:=kg h0 (hval 0 27 v0 rfl rfl)
 obtain⟨o,ho,rfl⟩:=ew (hval 1 5 v1 rfl rfl)
 obtain⟨i,hi,rfl⟩:=ew (hval 2 5 v2 rfl rfl)
 obtain⟨n,hn,rfl⟩:=int_of (hval 3 3 v3 rfl rfl)
 refine(XU hx0 hx1 ho hi hn S2 S3 S4 S5 S6).mono fun e W' ⟨he,hb⟩=>?_
 refine⟨_,he,po laid (tb:=4) (fun t ht=>?_) rfl (by kernel_rfl) Tryz.underlying4 (fun ds hds=>?_) hW' hb⟩
 ·have:=List.all_eq_true.1 pars t ht
  simpa using this
 ·match ds,hds with
  | [_,_,_,_],_=>rfl
theorem proved:Rows.VerifySoundSaid :=
 OpenClaim.holds_of_wide (p:=Tryz.pinned) (s:=Rows.verifySoundSpec) (c:=Rows.verifySoundRow) 3 Tryz.f3 rfl rfl rfl rfl rfl rfl rfl ⟨rfl,rfl,rfl,rfl,rfl⟩ rfl rfl rfl rfl rfl named Tryz.func3 closed
  (of_decide_eq_true (by kernel_rfl)) (by unfold Func.isWrapper;first | (rw[if_pos (by decide +kernel)];kernel_rfl) | (rw[if_neg (by decide +kernel)];exact⟨rfl,rfl⟩))
  (fun os started H enc _=>lifted os started H enc)
#print axioms proved
end Go.Proofs.YtaoiejcaopgjcaaGreat.verifySound
