/-
  What the rows over this program share: the variables' word at the call; a world for the witnesses.
-/
import Derived.Test.YtkddphdhcejdaaaDoorPrims
import Derived.Test.YtkddphdhcejdaaaDoorAiYb
import Derived.Test.YtkddphdhcejdaaaDoorCards
import Derived.Test.YtkddphdhcejdaaaDoorTie
import Derived.OpenShut
import Derived.Deep.DeepHandedRow
import Derived.Deep.DeepWitnessRowRef
set_option linter.unusedVariables false
namespace Go.Proofs.YtkddphdhcejdaaaDoor
open Go.ChangeShapes Go.WideShapes Go.ChangeAt Go.RowKit

theorem own : ownKnob Tryd.prog.godebug = none := by kernel_rfl
theorem laidOut : laidOutB Tryd.prog = true := by kernel_rfl
theorem und4 : Tryd.prog.underlying 4 = some .bool := by kernel_rfl
theorem und9 : Tryd.prog.underlying 9 = some .string := by kernel_rfl

theorem glOk {W : World} (h : laidMet Tryd.prog Rows.valueListsRow.laid W) : AI.GlOk C (AI.start W) := by
  intro g cs hc
  have h' : gl g = some cs := hc
  unfold gl at h'
  split at h' <;> cases h'
  · exact AI.gl_strs (C := C) (e := 9) (n := 5) (t := 116) (ss := [[], [], [35], [64], []]) h (name := "backstay/value.marks") (List.mem_of_getElem? (i := 5) rfl) (by kernel_rfl) (by kernel_rfl) (by kernel_rfl) (by kernel_rfl) (by kernel_rfl) (by kernel_rfl)
  · exact AI.gl_ints (C := C) (e := 169) (n := 20) (t := 210) (zs := Lib.pow10Tab) h (name := "internal/strconv.uint64pow10") (List.mem_of_getElem? (i := 2) rfl) (by kernel_rfl) (by kernel_rfl) (by kernel_rfl) (by kernel_rfl) (by kernel_rfl) (by kernel_rfl)
  · exact AI.gl_err' (C := C) (t := 110) h (name := "strconv.ErrRange") (List.mem_of_getElem? (i := 3) rfl) (by kernel_rfl) (by kernel_rfl) (by kernel_rfl)
  · exact AI.gl_err' (C := C) (t := 110) h (name := "strconv.ErrSyntax") (List.mem_of_getElem? (i := 4) rfl) (by kernel_rfl) (by kernel_rfl) (by kernel_rfl)

/-! ### One start that fits: the variables as their initialisers lay them -/
abbrev synS : ByteArray := { data := #[105, 110, 118, 97, 108, 105, 100, 32, 115, 121, 110, 116, 97, 120] }
abbrev rngS : ByteArray := { data := #[118, 97, 108, 117, 101, 32, 111, 117, 116, 32, 111, 102, 32, 114, 97, 110, 103, 101] }
noncomputable def low : Nat := (World.holding Tryd.prog default ⟨#[], #[], []⟩).heap.size
def setTo (vs : Array Value) : Obj → Obj
  | .cells _ t frozen => .cells vs t frozen
  | o => o
def tab32 : Array Value := #[0, 1, 28, 2, 29, 14, 24, 3, 30, 22, 20, 15, 25, 17, 4, 8, 31, 27, 13, 23, 21, 19, 16, 7, 26, 12, 18, 6, 11, 5, 10, 9].map fun z => .int .u8 z
def tab64 : Array Value := #[0, 1, 56, 2, 57, 49, 28, 3, 61, 58, 42, 50, 38, 29, 17, 4, 62, 47, 59, 36, 45, 43, 51, 22, 53, 39, 33, 30, 24, 18, 12, 5, 63, 55, 48, 27, 60, 41, 37, 16, 46, 35, 44, 21, 52, 32, 23, 11, 54, 26, 40, 15, 34, 20, 31, 10, 25, 14, 19, 9, 13, 8, 7, 6].map fun z => .int .u8 z
noncomputable def laidWorld (os : Os) : World :=
  let w0 := World.holding Tryd.prog os ⟨#[.cells #[.string synS] 231, .cells #[.string rngS] 231], #[], []⟩
  { w0 with heap := (((((w0.heap.modify 5 (setTo tab32)).modify 6 (setTo tab64)).modify 2 (setTo (Lib.pow10Tab.map fun z => .int .u64 z).toArray)).modify 4 (setTo #[.iface 229 (.pointer (some ⟨low + 1, 0, none⟩))])).modify 3 (setTo #[.iface 229 (.pointer (some ⟨low, 0, none⟩))])).modify 0 (setTo #[.string ⟨#[]⟩, .string ⟨#[]⟩, .string ⟨#[35]⟩, .string ⟨#[64]⟩, .string ⟨#[]⟩]) }
theorem laid_met (os : Os) (args : Array Value) : laidMet Tryd.prog Rows.valueListsRow.laid ((laidWorld os).forCall (fun _ _ => 0) ⟨#[], args, []⟩).memory :=
  laidMet_of_run' 8 (by kernel_rfl) (by kernel_rfl)

end Go.Proofs.YtkddphdhcejdaaaDoor
