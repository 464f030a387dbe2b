/-
  Each operation of the interpreter's is the model's: slicing, lengths; the operations together.
-/
import Derived.Test.YtkddphdhcejdaaaDoorAiL
set_option linter.unusedVariables false
set_option linter.unusedSimpArgs false
namespace Go.Proofs.YtkddphdhcejdaaaDoor.AI
open Go.RowKit
variable {C : Cfg} {B : Nat} {e : E} {hp : Hp}


theorem Rd.elems_data {x : AV} {v : Value} {xs : List AV} (h : Rd e x v) (hx : x.elems = some xs) (hne : ∀ ys, x ≠ .lits ys) : ∀ y, y ∈ xs → y.isData = true := by
  cases h with
  | nils => cases hx; simp
  | list _ _ _ _ _ _ hd => cases hx; exact hd
  | own _ _ _ _ hl => cases hx; exact hl.list_inv.1
  | lits _ _ _ _ _ => exact absurd rfl (hne _)
  | _ => cases hx

theorem sliceA_ok {t : TypeId} {x r : AV} {xv : Value} {lo hi mx : Option AV} {lov hiv mxv : Option Value} (hx0 : Rd e x xv)
    (hlo : ∀ a, lo = some a → ∃ v, lov = some v ∧ Rd e a v) (hlo' : lo = none → lov = none) (hhi : ∀ a, hi = some a → ∃ v, hiv = some v ∧ Rd e a v) (hhi' : hi = none → hiv = none) (hmx : mx = none → mxv = none)
    (h : sliceA C t x lo hi mx = some r) : ∃ v, (Instr.sliceAt t xv lov hiv mxv).run C.P e.w = .ok v e.w ∧ Rd e r v := by
  have hb : ∀ (o : Option AV) (ov : Option Value) (d n y : Nat) (code : BoundsCode), (∀ a, o = some a → ∃ v, ov = some v ∧ Rd e a v) → (o = none → ov = none) → intOr d o = some n → n ≤ y →
      (o = none ∧ ov = none ∧ n = d) ∨ ∃ v, ov = some v ∧ (Instr.sliceBound v y code).run C.P e.w = .ok n e.w := by
    intro o ov d n y code h1 h2 h3 h4
    cases o with
    | none => cases h3; exact .inl ⟨rfl, h2 rfl, rfl⟩
    | some a =>
      obtain ⟨v, hv, hr⟩ := h1 a rfl
      cases a <;> simp only [intOr, reduceCtorEq] at h3
      cases hr
      split at h3
      case isFalse => cases h3
      rename_i k m hm
      cases h3
      have hin : 0 ≤ m ∧ m ≤ (y : Int) := ⟨hm, by omega⟩
      exact .inr ⟨_, hv, by simp [Instr.sliceBound, asIntOf, hin]⟩
  unfold sliceA at h
  split at h
  · rename_i s hu
    cases hx0
    obtain rfl := hmx rfl
    split at h
    case h_2 => cases h
    rename_i l hh hl1 hh1
    split at h
    case isFalse => cases h
    rename_i hcond
    cases h
    refine ⟨.string (s.extract l hh), ?_, .str _⟩
    have hl2 := hb lo lov 0 l hh .sliceB hlo hlo' hl1 hcond.1
    have hh2 := hb hi hiv s.size hh s.size .sliceAlen hhi hhi' hh1 hcond.2
    simp only [Instr.sliceAt, Sem.run_bind, run_underlying hu, Result.andThen_ok, Instr.slice, Option.isSome_none, Bool.false_eq_true, if_false, Instr.sliceBounds, Sem.run_pure]
    rcases hh2 with ⟨_, rfl, rfl⟩ | ⟨v, rfl, hv⟩ <;> rcases hl2 with ⟨_, rfl, rfl⟩ | ⟨u, rfl, hu'⟩ <;> simp [*]
  · rename_i elem hu
    obtain rfl := hmx rfl
    split at h
    case h_2 => cases h
    rename_i xs s hxs hs
    split at h
    case h_2 => cases h
    rename_i l hh hl1 hh1
    split at h
    case isFalse => cases h
    rename_i hcond
    obtain ⟨hc1, hc2, hall⟩ := hcond
    obtain ⟨A, cap, k, vf, hv, hcap, hk, hA, hc, hr⟩ := hx0.row hxs
    have hdat := hx0.elems_data hxs
    subst hv
    have hl2 := hb lo lov 0 l hh .sliceB hlo hlo' hl1 hc1
    have hh2 := hb hi hiv xs.length hh cap .sliceAcap hhi hhi' hh1 (by omega)
    have hrun : (Instr.sliceAt t (.slice A xs.length cap) lov hiv none).run C.P e.w = .ok (.slice (if cap = l then A else A.map (·.add (l * s))) (hh - l) (cap - l)) e.w := by
      simp only [Instr.sliceAt, Sem.run_bind, run_underlying hu, Result.andThen_ok, Instr.slice, Option.isSome_none, Bool.false_eq_true, if_false, Instr.sliceBounds, Sem.run_pure, run_sizeOf hs]
      rcases hh2 with ⟨_, rfl, rfl⟩ | ⟨v, rfl, hv⟩ <;> rcases hl2 with ⟨_, rfl, rfl⟩ | ⟨u, rfl, hu'⟩ <;> simp [*, run_sizeOf hs]
    have hlen : ((xs.take hh).drop l).length = hh - l := by simp; omega
    have hget : ∀ (i : Nat) (y : AV), ((xs.take hh).drop l)[i]? = some y → xs[l + i]? = some y ∧ l + i < hh := fun i y hy => by
      rw [List.getElem?_drop, List.getElem?_take] at hy
      split at hy
      · exact ⟨hy, by omega⟩
      · cases hy
    have hmem : ∀ y, y ∈ (xs.take hh).drop l → y ∈ xs := fun y hy => List.mem_of_mem_take (List.mem_of_mem_drop hy)
    have hks : hh - l ≠ 0 → k = s := fun hne => by
      have hx1 : xs[l]? = some (xs[l]'(by omega)) := List.getElem?_eq_getElem (by omega)
      have h1 := List.all_eq_true.1 hall _ (List.mem_of_getElem? hx1)
      rw [← hk _ (List.mem_of_getElem? hx1)]
      simpa using h1
    have hcell : ∀ a i j, (if cap = l then A else A.map (·.add (l * s))) = some a → i < hh - l → j < k → e.S (a.add (i * k + j)) ∧ e.w.cell? (a.add (i * k + j)) = some (vf (l + i) j) := fun a i j ha hi hj => by
      rw [if_neg (by omega)] at ha
      obtain ⟨a', hA', rfl⟩ := Option.map_eq_some_iff.1 ha
      rw [← hks (by omega), add_add]
      have := hc a' (l + i) j hA' (by omega) hj
      rw [Nat.add_mul] at this
      rw [← Nat.add_assoc]
      exact this
    have hsome : (xs.take hh).drop l ≠ [] → (if cap = l then A else A.map (·.add (l * s))).isSome = true := fun hne => by
      have h0 : hh - l ≠ 0 := fun h0 => hne (List.eq_nil_of_length_eq_zero (by rw [hlen, h0]))
      have := hA (fun hx => by simp [hx] at hc2; omega)
      split <;> simp [this]
    have hlist : (∀ x, x ∈ xs → x.isData = true) → Rd e (.list ((xs.take hh).drop l)) (.slice (if cap = l then A else A.map (·.add (l * s))) (hh - l) (cap - l)) := fun hd => by
      rw [← hlen]
      exact .list _ _ _ k (fun i j => vf (l + i) j) (by rw [hlen]; omega) (fun x hx => hd x (hmem x hx)) (fun x hx => hk x (hmem x hx)) hsome (fun a i j ha hi hj => hcell a i j ha (by rw [← hlen]; exact hi) hj)
        (fun i j x y hx hy => hr (l + i) j x y (hget i x hx).1 hy)
    have hlits : Rd e (.lits ((xs.take hh).drop l)) (.slice (if cap = l then A else A.map (·.add (l * s))) (hh - l) (cap - l)) := by
      rw [← hlen]
      exact .lits _ _ _ k (fun i j => vf (l + i) j) (by rw [hlen]; omega) (fun x hx => hk x (hmem x hx)) hsome (fun a i j ha hi hj => hcell a i j ha (by rw [← hlen]; exact hi) hj)
        (fun i j x y hx hy => hr (l + i) j x y (hget i x hx).1 hy)
    refine ⟨_, hrun, ?_⟩
    split at h
    · cases h
      cases hxs
      exact hlits
    · cases h
      refine hlist ?_
      rename_i hne
      exact hdat hne
  · cases h

theorem lenA_ok {ats : Array TypeId} {ty : TypeId} {x r : AV} {xv : Value} (hx0 : Rd e x xv) (h : lenA C ats x = some r) : ∃ v, (Builtin.len_ ats ty #[xv]).run C.P e.w = .ok v e.w ∧ Rd e r v := by
  unfold lenA at h
  split at h
  · rename_i s hu
    simp only [Option.bind_eq_some_iff] at hu
    obtain ⟨t, ht, hu⟩ := hu
    cases hx0; cases h
    exact ⟨goInt s.size, by simp [Builtin.len_, ht, run_underlying hu], .int _ _⟩
  · rename_i n elem hu
    simp only [Option.bind_eq_some_iff] at hu
    obtain ⟨t, ht, hu⟩ := hu
    cases h
    exact ⟨goInt n, by simp [Builtin.len_, ht, run_underlying hu], .int _ _⟩
  · rename_i elem hu
    simp only [Option.bind_eq_some_iff] at hu
    obtain ⟨t, ht, hu⟩ := hu
    simp only [Option.map_eq_some_iff] at h
    obtain ⟨xs, hxs, rfl⟩ := h
    obtain ⟨A, cap, k, vf, hv, _⟩ := hx0.row hxs
    subst hv
    exact ⟨goInt xs.length, by simp [Builtin.len_, ht, run_underlying hu], .int _ _⟩
  · cases h

end Go.Proofs.YtkddphdhcejdaaaDoor.AI
