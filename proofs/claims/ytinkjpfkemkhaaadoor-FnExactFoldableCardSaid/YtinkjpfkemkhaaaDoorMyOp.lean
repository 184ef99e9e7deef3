/- The laws' arguments opened. -/
import Derived.Test.YtinkjpfkemkhaaaDoorMyBase
import Derived.Test.YtinkjpfkemkhaaaDoorEngZ
import Derived.Test.YtinkjpfkemkhaaaDoorProg
set_option linter.unusedVariables false
set_option maxRecDepth 100000
namespace Go.My
open Go.Eng Go.Proofs

theorem opens_ints : Opens Tryd.prog 39 (fun l : List Int => [ints l]) (fun l => l.length < 2 ^ 63 ∧ ∀ x ∈ l, inR .i64 x) :=
  opens_slice (e := 3) rfl (by kernel_rfl) (by decide) (opens_int rfl)
theorem opens_node : Opens Tryd.prog 41 (ndA false) smallNd :=
  opens_map (fun x : Int × List UInt8 × List Int × Bool => (⟨x.1, x.2.1, x.2.2.1, x.2.2.2⟩ : Nd)) (opens_st4 (t := 41) (P := Tryd.prog) (a := fun n => .int .i64 n) (b := .str) (c := ints) (d := .bool)
    (gd := fun _ => True) rfl (by kernel_rfl) ⟨by kernel_rfl, by kernel_rfl⟩ ⟨by kernel_rfl, by kernel_rfl⟩ ⟨by kernel_rfl, by kernel_rfl⟩ ⟨by kernel_rfl, by kernel_rfl⟩ (opens_int (k := .i64) rfl) (opens_str rfl) opens_ints (opens_bool rfl)) (fun _ => rfl) (fun x h => ⟨h.2.1, h.2.2.1.1⟩)
theorem opens_nodes : Opens Tryd.prog 22 (fun l : List Nd => [nds l]) smallNds :=
  opens_slice (e := 41) rfl (by kernel_rfl) (by decide) opens_node
end Go.My
