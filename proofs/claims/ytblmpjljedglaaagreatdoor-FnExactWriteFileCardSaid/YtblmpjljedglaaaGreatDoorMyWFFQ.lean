/- FnExactWriteFile holds: for all arguments the program's function returns what the reference's returns, and leaves its arguments as they were. Conditions: Go's tables unicode/utf8.first and unicode/utf8.acceptRanges hold what the program's text lays in them (tied by the card). -/
import Derived.Test.YtblmpjljedglaaaGreatDoorRows
import Derived.Test.YtblmpjljedglaaaGreatDoorCards
import Derived.Test.YtblmpjljedglaaaGreatDoorTie
import Derived.Lay
import Derived.Stop.Joined
import Derived.Test.YtblmpjljedglaaaGreatDoorQO
set_option linter.unusedVariables false
namespace Go.Proofs.YtblmpjljedglaaaGreatDoor
open Go Go.ChangeShapes Go.WideShapes Go.ChangeAt Go.RowKit Go.Eng Go.My
theorem own:ownKnob Tryz.prog.godebug=none:=by kernel_rfl
set_option maxRecDepth 100000 in
theorem lifted(os:Os)(started:os.Started)(H:Type)(enc:TypeId×Value→H):
 ReturnsInHanded {} Tryz.checked os 5 .any (fun w args=>(Rows.fnExactWriteFileSpec.pre enc Tryz.prog Tryz.f5 [] false w args∧laidMetH Tryz.prog Rows.fnExactWriteFileRow.laid w)∧sizedMet enc Tryz.prog Tryz.f5 (OpenSpec.ofChange Rows.fnExactWriteFileSpec) false w args)
  (Rows.fnExactWriteFileSpec.post enc Tryz.prog Tryz.f5 false true false false):=by
 refine returnsInHanded_of_change_and (C:=Tryz.checked) (X:=fun w _=>laidMetH Tryz.prog Rows.fnExactWriteFileRow.laid w) (fun _ _ _ hh h=>h.of_heap hh) own started (by kernel_rfl) Tryz.func5
  (ChangeSpec.witness_shaped (enc:=enc) (C:=Tryz.checked) (os:=os) (X:=fun w _=>laidMetH Tryz.prog Rows.fnExactWriteFileRow.laid w) false (World.laidAll Tryz.prog os Rows.fnExactWriteFileRow.laid) #[.slice none 0 0,.int .i64 0,.int .i64 0] 8 (World.laidAll_os _ _ _)
    (World.shaped_of_ZipB (by kernel_rfl) (by kernel_rfl)) (by kernel_rfl) (by kernel_rfl) (by kernel_rfl)
    (by rw[MakeChecks.laidMetH_plain _ _ _ (by kernel_rfl)];exact laidMet_laidAll _ (by kernel_rfl) (by kernel_rfl))) ?_
 intro W base args ds gs before hval0 hW _ _ hL _
 have hval:∀(j:Nat) t v,Tryz.f5.params[j]? =some t→args[j]? =some v→Value.okWide Tryz.prog W .any base t v:=hval0
 have hW':=hW
 obtain⟨p,q,hA0,hV,rfl,hfz,hnd⟩:=hW
 have hA:DataW.TrodAll enc Tryz.prog W 0 (fun _=>true) true [46,3,3] args.toList ds p:=hA0
 obtain⟨v0,v1,v2,d0,d1,d2,p0,p1,p2,rfl,rfl,rfl,h0,h1,h2⟩:=trodAll_three hA
 have hv0:=hval 0 46 v0 rfl rfl
 have hv1:=hval 1 3 v1 rfl rfl
 have hv2:=hval 2 3 v2 rfl rfl
 refine c0A (n:=3) (G:=noG) (c0x 1048576) trivial (by kernel_rfl) (by kernel_rfl) rfl rfl rfl rfl hW' ?_
 obtain⟨a0,g0,r0⟩:=c0B (e:=92) rfl c0G hv0 h0
 obtain⟨a1,g1,r1⟩:=a8s (k:= .i64) rfl hv1 h1
 obtain⟨a2,g2,r2⟩:=a8s (k:= .i64) rfl hv2 h2
 exact⟨(a0,a1,a2),⟨g0,Nat.le_refl _⟩,(MC r0 (MC r1 (MC r2 c0C)))⟩
theorem holds:Rows.FnExactWriteFileSaid:=
 OpenClaim.holds_of_wide 5 Tryz.f5 rfl rfl rfl rfl rfl rfl rfl ⟨rfl,rfl,rfl,rfl,rfl⟩ rfl rfl rfl rfl rfl (by kernel_rfl) Tryz.func5 (by kernel_rfl)
  (of_decide_eq_true (by kernel_rfl)) (by unfold Func.isWrapper;first|(rw[if_pos (by decide+kernel)];kernel_rfl)|(rw[if_neg (by decide+kernel)];exact⟨rfl,rfl⟩))
  (fun os started H enc _=>lifted os started H enc)
theorem card_holds:Rows.FnExactWriteFileCardSaid:=
 Claim7.holds_tied_plain_at .later [] [.data,.pinned] true Rows.fnExactWriteFileCard.stood.harness false
  holds (fun _ h=>by cases h) (by kernel_rfl) (fun _ h=>by cases h) fnExactWriteFile_row_tie rfl ⟨rfl,rfl⟩ (by kernel_rfl) rfl
  (fun f fn hf hfn=>by
    obtain rfl:f=5:=Option.some.inj ((show Tryz.prog.funcNamed "loop.example/g00459/laws.FnExactWriteFile" =some 5 by kernel_rfl).symm.trans hf) |>.symm
    obtain rfl:fn=Tryz.f5:=(Option.some.inj (Tryz.func5.symm.trans hfn)).symm
    exact⟨by kernel_rfl,fun j t ht=>by
     have hm:t∈[46,3,3]:=Array.mem_toList_iff.2 (Array.mem_of_getElem? ht)
     have hall:([46,3,3].all fun u=> !Tryz.prog.wantsStandIn u)=true:=by kernel_rfl
     exact(show Tryz.prog.wantsStandIn t=false by simpa using List.all_eq_true.1 hall t hm)⟩)
  (by kernel_rfl)
end Go.Proofs.YtblmpjljedglaaaGreatDoor
#print axioms Go.Proofs.YtblmpjljedglaaaGreatDoor.card_holds
