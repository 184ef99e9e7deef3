/- FnWhere holds: whatever the bytes are, it returns true, and leaves them as they were. Conditions: Go's tables unicode/utf8.first and unicode/utf8.acceptRanges hold what the program's text lays in them (tied by the card). -/
import Derived.Test.YtpkkcecninnjiaaGreatDoorRows
import Derived.Test.YtpkkcecninnjiaaGreatDoorCards
import Derived.Test.YtpkkcecninnjiaaGreatDoorTie
import Derived.Lay
import Derived.Stop.Joined
import Derived.Test.YtpkkcecninnjiaaGreatDoorQO
set_option linter.unusedVariables false
namespace Go.Proofs.YtpkkcecninnjiaaGreatDoor
open Go Go.ChangeShapes Go.WideShapes Go.ChangeAt Go.RowKit Go.Eng Go.My
theorem own:ownKnob Tryz.prog.godebug=none:=by kernel_rfl
set_option maxRecDepth 100000 in
theorem lifted(os:Os)(started:os.Started)(H:Type)(enc:TypeId×Value→H):
 ReturnsInHanded {} Tryz.checked os 3 .any (fun w args=>(Rows.fnWhereSpec.pre enc Tryz.prog Tryz.f3 [] false w args∧laidMetH Tryz.prog Rows.fnWhereRow.laid w)∧sizedMet enc Tryz.prog Tryz.f3 (OpenSpec.ofChange Rows.fnWhereSpec) false w args)
  (Rows.fnWhereSpec.post enc Tryz.prog Tryz.f3 false true false false):=by
 refine returnsInHanded_of_change_and (C:=Tryz.checked) (X:=fun w _=>laidMetH Tryz.prog Rows.fnWhereRow.laid w) (fun _ _ _ hh h=>h.of_heap hh) own started (by kernel_rfl) Tryz.func3
  (ChangeSpec.witness_shaped (enc:=enc) (C:=Tryz.checked) (os:=os) (X:=fun w _=>laidMetH Tryz.prog Rows.fnWhereRow.laid w) false (World.laidAll Tryz.prog os Rows.fnWhereRow.laid) #[.slice none 0 0] 8 (World.laidAll_os _ _ _)
    (World.shaped_of_ZipB (by kernel_rfl) (by kernel_rfl)) (by kernel_rfl) (by kernel_rfl) (by kernel_rfl)
    (by rw[MakeChecks.laidMetH_plain _ _ _ (by kernel_rfl)];exact laidMet_laidAll _ (by kernel_rfl) (by kernel_rfl))) ?_
 intro W base args ds gs before hval0 hW _ _ hL _
 have hval:∀(j:Nat) t v,Tryz.f3.params[j]? =some t→args[j]? =some v→Value.okWide Tryz.prog W .any base t v:=hval0
 have hW':=hW
 obtain⟨p,q,hA0,hV,rfl,hfz,hnd⟩:=hW
 have hA:DataW.TrodAll enc Tryz.prog W 0 (fun _=>true) true [22] args.toList ds p:=hA0
 obtain⟨v0,d0,rfl,rfl,h0⟩:=trodAll_one hA
 have hv0:=hval 0 22 v0 rfl rfl
 refine d6j (n:=1) (G:=noG) (d6g 300) trivial (by kernel_rfl) (by kernel_rfl) rfl rfl rfl rfl hW' ?_
 obtain⟨a0,g0,r0⟩:=d6l (e:=5) rfl d6o hv0 h0
 exact⟨a0,⟨g0,Bu _⟩,(c7l r0 d6m)⟩
theorem holds:Rows.FnWhereSaid:=
 OpenClaim.holds_of_wide 3 Tryz.f3 rfl rfl rfl rfl rfl rfl rfl ⟨rfl,rfl,rfl,rfl,rfl⟩ rfl rfl rfl rfl rfl (by kernel_rfl) Tryz.func3 (by kernel_rfl)
  (of_decide_eq_true (by kernel_rfl)) (by unfold Func.isWrapper;first|(rw[if_pos (by decide+kernel)];kernel_rfl)|(rw[if_neg (by decide+kernel)];exact⟨rfl,rfl⟩))
  (fun os started H enc _=>lifted os started H enc)
theorem card_holds:Rows.FnWhereCardSaid:=
 Claim7.holds_tied_plain_at .later [] [.data,.pinned] true Rows.fnWhereCard.stood.harness false
  holds (fun _ h=>by cases h) (by kernel_rfl) (fun _ h=>by cases h) fnWhere_row_tie rfl ⟨rfl,rfl⟩ (by kernel_rfl) rfl
  (fun f fn hf hfn=>by
    obtain rfl:f=3:=LU ((show Tryz.prog.funcNamed "loop.example/g00459/laws.FnWhere" =some 3 by kernel_rfl).symm.trans hf) |>.symm
    obtain rfl:fn=Tryz.f3:=(LU (Tryz.func3.symm.trans hfn)).symm
    exact⟨by kernel_rfl,fun j t ht=>by
     have hm:t∈[22]:=Array.mem_toList_iff.2 (Array.mem_of_getElem? ht)
     have hall:([22].all fun u=> !Tryz.prog.wantsStandIn u)=true:=by kernel_rfl
     exact(show Tryz.prog.wantsStandIn t=false by simpa using CC.1 hall t hm)⟩)
  (by kernel_rfl)
end Go.Proofs.YtpkkcecninnjiaaGreatDoor
#print axioms Go.Proofs.YtpkkcecninnjiaaGreatDoor.card_holds
