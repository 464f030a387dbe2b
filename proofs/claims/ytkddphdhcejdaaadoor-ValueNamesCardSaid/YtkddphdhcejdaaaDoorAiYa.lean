/-
  What a row's list of package-level variables gives: what the interpreter takes them for.
-/
import Derived.Test.YtkddphdhcejdaaaDoorAiY
import Derived.Lib.LaidTab
import Derived.ChangeArms
set_option linter.unusedVariables false
namespace Go.Proofs.YtkddphdhcejdaaaDoor.AI
open Go.RowKit
variable {C : Cfg}

theorem laid_get {P : Program} {W : World} {n : String} {d : DataW Unit} : ∀ {laid : List (String × DataW Unit)} {ps : List MemPlace}, DataW.LaidVars P W laid ps → (n, d) ∈ laid →
    ∃ g t cs fuel p, P.globalNamed n = some g ∧ (P.globals[g]?).map (·.type) = some t ∧ W.var? P n = some cs ∧ DataW.trod (fun _ => ()) P W 0 (fun _ => true) false fuel t cs.toList = some (d, p)
  | [], ps, _, hm => by cases hm
  | (n', d') :: r, ps, h, hm => by
    obtain ⟨g, t, cs, fuel, p, q, h1, h2, h3, h4, h5, _⟩ := h
    rcases List.mem_cons.1 hm with hm | hm
    · cases hm
      exact ⟨g, t, cs, fuel, p, h1, h2, h3, h4⟩
    · exact laid_get h5 hm

/-- A variable's word at the call. -/
def GlAt (C : Cfg) (W : World) (g : Nat) (cs : List AV) : Prop :=
  Rd (start W) (.elem cs) (.pointer (some ⟨g, 0, none⟩)) ∧ ∃ (vs : Array Value) (t : TypeId) (z : Nat × Nat), (start W).w.heap[g]? = some (.cells vs t z) ∧ vs.size = cs.length

theorem gl_of {W : World} {name : String} {g : Nat} {vs : Array Value} {cs : List AV} (hv : W.var? C.P name = some vs) (hn : C.P.globalNamed name = some g) (hc : CellsRd (start W) cs vs.toList) : GlAt C W g cs := by
  simp only [World.var?, hn, Option.bind_some] at hv
  split at hv
  case h_2 => cases hv
  rename_i cells t z hh
  cases hv
  have hl : vs.size = cs.length := by simpa using hc.1
  have hcell : ∀ j, j < cs.length → W.cell? ⟨g, j, none⟩ = some (vs.getD j undef) := fun j hj => by
    simp only [World.cell?, hh]
    simp [Array.getD_eq_getD_getElem?, show j < vs.size by omega]
  refine ⟨.elem cs _ (fun j => vs.getD j undef) (fun j hj => ?_) (fun j x hx => ?_), vs, t, z, hh, hl⟩
  · rw [spot_add, Nat.zero_add]
    refine ⟨?_, hcell j hj⟩
    show (W.cell? ⟨g, j, none⟩).isSome = true
    rw [hcell j hj]; rfl
  · have hj := (List.getElem?_eq_some_iff.1 hx).1
    refine hc.2 j x _ hx ?_
    simp [Array.getD_eq_getD_getElem?, show j < vs.size by omega]

theorem gl_ints {W : World} {laid : List (String × DataW Unit)} (h : laidMet C.P laid W) {name : String} {g : Nat} {t e : TypeId} {n : Nat} {k : IntKind} {zs : List Int} (hm : (name, Lib.tabData k zs) ∈ laid)
    (hn : C.P.globalNamed name = some g) (hty : (C.P.globals[g]?).map (·.type) = some t) (ht : C.P.underlying t = some (.array n e)) (he : C.P.underlying e = some (.int k)) (hce : C.P.cellsOf e = 1) (hct : C.P.cellsOf t = n) :
    GlAt C W g (zs.map fun z => .int k z) := by
  obtain ⟨ps, hl, _⟩ := h
  obtain ⟨g', t', cs, fuel, p, h1, h2, h3, h4⟩ := laid_get hl hm
  obtain rfl := Option.some.inj (hn.symm.trans h1)
  obtain rfl := Option.some.inj (hty.symm.trans h2)
  refine gl_of h3 hn ?_
  rw [Lib.cells_of_tab ht he hce hct h4]
  refine ⟨by simp, fun i x v hx hv => ?_⟩
  simp only [List.getElem?_map, Option.map_eq_some_iff] at hx hv
  obtain ⟨z, hz, rfl⟩ := hx
  obtain ⟨z', hz', rfl⟩ := hv
  rw [hz] at hz'
  cases hz'
  exact .int k z

def strData (ss : List (List UInt8)) : DataW Unit := .agg (ss.map fun s => .lit (.string s))

theorem cells_of_strs {P : Program} {w : World} {base : Nat} {sp : Nat → Bool} {held : Bool} {enc : TypeId × Value → Unit} {fuel : Nat} {t e : TypeId} {n : Nat} {cs : List Value} {ss : List (List UInt8)} {p : List MemPlace}
    (ht : P.underlying t = some (.array n e)) (he : P.underlying e = some .string) (hce : P.cellsOf e = 1) (hct : P.cellsOf t = n)
    (h : DataW.trod enc P w base sp held fuel t cs = some (strData ss, p)) : cs = ss.map fun s => Value.string ⟨s.toArray⟩ := by
  cases fuel with
  | zero => simp [DataW.trod] at h
  | succ fuel =>
    simp only [DataW.trod, ht, hce, hct, Nat.mul_one] at h
    split at h
    · rename_i hl
      obtain ⟨xs, hm, hx⟩ := Option.map_eq_some_iff.1 h
      have hxs : xs.map (·.1) = ss.map fun s => (DataW.lit (.string s) : DataW Unit) := by
        have := congrArg Prod.fst hx
        simpa [strData] using this
      have hxl : xs.length = n := by simpa using Lib.mapM_length hm
      have hzl : ss.length = n := by
        have := congrArg List.length hxs
        simp at this
        omega
      apply List.ext_getElem?
      intro i
      by_cases hi : i < n
      · obtain ⟨b, hb, hf⟩ := Lib.mapM_at hm i i (by simp [hi])
        obtain ⟨z, hc, rfl, _⟩ := DataW.trod_string he hf
        have h1 : cs[i]? = some (.string z) := by
          have := congrArg (·[0]?) hc
          simpa [List.getElem?_take, List.getElem?_drop] using this
        have h2 : (xs.map (·.1))[i]? = some (DataW.lit (.string z.data.toList) : DataW Unit) := by simp [hb]
        rw [hxs] at h2
        simp only [List.getElem?_map, Option.map_eq_some_iff, DataW.lit.injEq, Lit.string.injEq] at h2
        obtain ⟨z', hz', rfl⟩ := h2
        simp [h1, hz']
      · rw [List.getElem?_eq_none (by omega), List.getElem?_eq_none (by simp; omega)]
    · cases h

theorem gl_strs {W : World} {laid : List (String × DataW Unit)} (h : laidMet C.P laid W) {name : String} {g : Nat} {t e : TypeId} {n : Nat} {ss : List (List UInt8)} (hm : (name, strData ss) ∈ laid)
    (hn : C.P.globalNamed name = some g) (hty : (C.P.globals[g]?).map (·.type) = some t) (ht : C.P.underlying t = some (.array n e)) (he : C.P.underlying e = some .string) (hce : C.P.cellsOf e = 1) (hct : C.P.cellsOf t = n) :
    GlAt C W g (ss.map fun s => .str ⟨s.toArray⟩) := by
  obtain ⟨ps, hl, _⟩ := h
  obtain ⟨g', t', cs, fuel, p, h1, h2, h3, h4⟩ := laid_get hl hm
  obtain rfl := Option.some.inj (hn.symm.trans h1)
  obtain rfl := Option.some.inj (hty.symm.trans h2)
  refine gl_of h3 hn ?_
  rw [cells_of_strs ht he hce hct h4]
  refine ⟨by simp, fun i x v hx hv => ?_⟩
  simp only [List.getElem?_map, Option.map_eq_some_iff] at hx hv
  obtain ⟨z, hz, rfl⟩ := hx
  obtain ⟨z', hz', rfl⟩ := hv
  rw [hz] at hz'
  cases hz'
  exact .str _

theorem gl_err {W : World} {laid : List (String × DataW Unit)} (h : laidMet C.P laid W) {name nm : String} {d : DataW Unit} {g : Nat} {t : TypeId} {ms : _} (hm : (name, DataW.iface nm d) ∈ laid)
    (hn : C.P.globalNamed name = some g) (hty : (C.P.globals[g]?).map (·.type) = some t) (ht : C.P.underlying t = some (.interface ms)) : GlAt C W g [.errv] := by
  obtain ⟨ps, hl, _⟩ := h
  obtain ⟨g', t', cs, fuel, p, h1, h2, h3, h4⟩ := laid_get hl hm
  obtain rfl := Option.some.inj (hn.symm.trans h1)
  obtain rfl := Option.some.inj (hty.symm.trans h2)
  refine gl_of h3 hn ?_
  have : ∃ u v, cs.toList = [.iface u v] := by
    cases fuel with
    | zero => simp [DataW.trod] at h4
    | succ fuel =>
      generalize cs.toList = l at h4
      unfold DataW.trod at h4
      rw [ht] at h4
      match l, h4 with
      | [.iface u v], _ => exact ⟨u, v, rfl⟩
      | [.nilIface], h4 => cases h4
      | [], h4 => cases h4
      | _ :: _ :: _, h4 => simp at h4
  obtain ⟨u, v, hcs⟩ := this
  rw [hcs]
  exact one_rd (.errv u v)

/-- An argument. -/
theorem arg_rd {H : Type} {enc : TypeId × Value → H} {W : World} {base : Nat} {spare : Nat → Bool} {held : Bool} {k : Nat} {t : TypeId} {v : Value} {d : DataW H} {ps : List MemPlace} {xs : List AV}
    (h : DataW.Trod enc C.P W base spare held t v d ps) (hx : avOf C k t d = some xs) : CellsRd (start W) xs v.cells.toList :=
  let ⟨fuel, h⟩ := h
  avOf_rd (W := W) (fun a v hv => ⟨by show (W.cell? a).isSome = true; rw [hv]; rfl, hv⟩) fuel k t _ d ps xs h hx

end Go.Proofs.YtkddphdhcejdaaaDoor.AI
