/-
  Each operation of the interpreter's is the model's: places, parts, arithmetic.
-/
import Derived.Test.YtkddphdhcejdaaaDoorAiJ
import Derived.Laws.StructEq
import Derived.Laws.Pointers
import Derived.Laws.Slices
import Derived.Laws.Strings2
set_option linter.unusedVariables false
set_option linter.unusedSimpArgs false
namespace Go.Proofs.YtkddphdhcejdaaaDoor.AI
open Go.RowKit
variable {C : Cfg} {B : Nat} {e : E} {hp : Hp}

theorem fieldAddrA_ok {s : TypeId} {p x : AV} {i : Nat} {pv : Value} (hp0 : Rd e p pv) (hx : fieldAddrA C s p i = some x) :
    ∃ v, (Instr.fieldAt s pv i).run C.P e.w = .ok v e.w ∧ Rd e x v := by
  unfold fieldAddrA at hx
  split at hx
  case h_2 => cases hx
  rename_i fields hu
  split at hx
  case h_2 => cases hx
  rename_i f hf
  split at hx
  case h_2 => cases hx
  rename_i n hn
  cases hp0 <;> simp only [reduceCtorEq] at hx
  case box b off k hb =>
    cases hx
    refine ⟨.pointer (some ⟨k, off + f.offset, none⟩), ?_, .box _ _ _ hb⟩
    simp [Instr.fieldAt, run_underlying hu, hf, Instr.sureAddr, fieldPlace, run_sizeOf hn, spot_add]
  case elem cs a vf hc hr =>
    split at hx
    case isFalse => cases hx
    cases hx
    refine ⟨.pointer (some (a.add f.offset)), ?_, .elem _ _ (fun j => vf (f.offset + j)) (fun j hj => ?_) (fun j y hy => ?_)⟩
    · simp [Instr.fieldAt, run_underlying hu, hf, Instr.sureAddr, fieldPlace, run_sizeOf hn]
    · rw [add_add]
      exact hc _ (by simp at hj; omega)
    · rw [List.getElem?_drop] at hy
      exact hr _ y hy

theorem indexAddrA_ok {t : TypeId} {x i r : AV} {xv iv : Value} (hx0 : Rd e x xv) (hi0 : Rd e i iv) (hx : indexAddrA C t x i = some r) :
    ∃ v, (Instr.indexAt t xv iv).run C.P e.w = .ok v e.w ∧ Rd e r v := by
  unfold indexAddrA at hx
  split at hx
  · rename_i elem k n hu
    cases hi0
    split at hx
    case h_2 => cases hx
    rename_i xs s hxs hs
    split at hx
    case isFalse => cases hx
    rename_i h0
    split at hx
    case h_2 => cases hx
    rename_i y hy
    split at hx
    case isFalse => cases hx
    rename_i hyk
    cases hx
    obtain ⟨A, cap, k', vf, hv, _, hk, hA, hc, hr⟩ := hx0.row hxs
    have hlt : n.toNat < xs.length := (List.getElem?_eq_some_iff.1 hy).1
    obtain ⟨a, rfl⟩ := Option.isSome_iff_exists.1 (hA (by intro hh; simp [hh] at hlt))
    have hks : k' = s := by rw [← hk y (List.mem_of_getElem? hy), hyk]
    subst hv hks
    have hin : 0 ≤ n ∧ n < (xs.length : Int) := ⟨h0, by omega⟩
    refine ⟨.pointer (some (a.add (n.toNat * k'))), ?_, .elem _ _ (fun j => vf n.toNat j) (fun j hj => ?_) (fun j z hz => hr n.toNat j y z hy hz)⟩
    · simp [Instr.indexAt, run_underlying hu, asIntOf, hin, run_sizeOf hs]
    · rw [add_add]
      exact hc a n.toNat j rfl hlt (by omega)
  · rename_i len elem k n hu
    cases hi0
    split at hx
    case h_2 => cases hx
    rename_i s hs
    split at hx
    case isFalse => cases hx
    rename_i hin
    cases hx0 <;> simp only [reduceCtorEq] at hx
    case box b off kb hb =>
      cases hx
      refine ⟨.pointer (some ⟨kb, off + n.toNat * s, none⟩), ?_, .box _ _ _ hb⟩
      simp [Instr.indexAt, run_underlying hu, asIntOf, Instr.sureAddr, hin, run_sizeOf hs, spot_add]
    case elem cs a vf hc hr =>
      split at hx
      case isFalse => cases hx
      cases hx
      refine ⟨.pointer (some (a.add (n.toNat * s))), ?_, .elem _ _ (fun j => vf (n.toNat * s + j)) (fun j hj => ?_) (fun j y hy => ?_)⟩
      · simp [Instr.indexAt, run_underlying hu, asIntOf, Instr.sureAddr, hin, run_sizeOf hs]
      · rw [add_add]
        exact hc _ (by simp at hj; omega)
      · rw [List.getElem?_drop] at hy
        exact hr _ y hy
  · cases hx

/-- A part of a struct or an array. -/
theorem part_ok {t : TypeId} {cs : List AV} {vs : Array Value} {off : Nat} {x : AV} (hn : vs.size = cs.length) (hr : ∀ (i : Nat) (x : AV) (v : Value), cs[i]? = some x → vs[i]? = some v → Rd e x v) (hx : shapeOf C t (cs.drop off) = some x) (w : World) :
    ∃ v, (part t vs off).run C.P w = .ok v w ∧ Rd e x v := by
  unfold shapeOf at hx
  split at hx
  case h_2 => cases hx
  rename_i n d hnz hu
  split at hx
  case isFalse => cases hx
  rename_i hle
  split at hx
  · rename_i hagg
    cases hx
    refine ⟨.agg (vs.extract off (off + n)), by simp [part, run_isAgg hu, hagg, run_sizeOf hnz], .agg _ _ (by simp at hle ⊢; omega) (fun i y v hy hv => ?_)⟩
    rw [List.getElem?_take] at hy
    split at hy
    case isFalse => cases hy
    rw [List.getElem?_drop] at hy
    rw [Array.getElem?_extract] at hv
    split at hv
    case isFalse => cases hv
    exact hr _ y v hy hv
  · rename_i hagg
    split at hx
    · rename_i y ys hd
      cases hx
      have hy : cs[off]? = some x := by
        have := congrArg (fun l => l[0]?) hd
        simpa [List.getElem?_drop] using this
      have hlt : off < vs.size := by rw [hn]; exact (List.getElem?_eq_some_iff.1 hy).1
      exact ⟨vs[off], by simp [part, run_isAgg hu, hagg, Array.getElem?_eq_getElem hlt], hr off x _ hy (Array.getElem?_eq_getElem hlt)⟩
    · cases hx

theorem fieldA_ok {t : TypeId} {x r : AV} {i : Nat} {xv : Value} (hx0 : Rd e x xv) (hx : fieldA C t x i = some r) :
    ∃ v, (Instr.field t xv i).run C.P e.w = .ok v e.w ∧ Rd e r v := by
  unfold fieldA at hx
  split at hx
  case h_2 => cases hx
  rename_i fields cs hu
  split at hx
  case h_2 => cases hx
  rename_i f hf
  cases hx0 with
  | agg _ vs hn hr =>
    obtain ⟨v, hv, hrv⟩ := part_ok hn hr hx e.w
    exact ⟨v, by simp [Instr.field, run_underlying hu, hf, asAgg, hv], hrv⟩

theorem indexA_ok {t : TypeId} {x i r : AV} {xv iv : Value} (hx0 : Rd e x xv) (hi0 : Rd e i iv) (hx : indexA C t x i = some r) :
    ∃ v, (Instr.index t xv iv).run C.P e.w = .ok v e.w ∧ Rd e r v := by
  unfold indexA at hx
  split at hx
  · rename_i len elem cs k n hu
    cases hi0
    split at hx
    case h_2 => cases hx
    rename_i s hs
    split at hx
    case isFalse => cases hx
    rename_i hin
    cases hx0 with
    | agg _ vs hn hr =>
      obtain ⟨v, hv, hrv⟩ := part_ok hn hr hx e.w
      exact ⟨v, by simp [Instr.index, run_underlying hu, asIntOf, hin, run_sizeOf hs, hv], hrv⟩
  · rename_i s k n hu
    cases hi0
    cases hx0
    split at hx
    case isFalse => cases hx
    rename_i h0
    simp only [Option.map_eq_some_iff] at hx
    obtain ⟨b, hb, rfl⟩ := hx
    exact ⟨.int .u8 b.toNat, by simp [Instr.index, run_underlying hu, asIntOf, h0, hb], .int _ _⟩
  · cases hx

end Go.Proofs.YtkddphdhcejdaaaDoor.AI
