/-
  What an argument reads as, as the interpreter's value.
-/
import Derived.Test.YtkddphdhcejdaaaDoorAiX
import Derived.DataReads
set_option linter.unusedVariables false
namespace Go.Proofs.YtkddphdhcejdaaaDoor.AI
open Go.RowKit

/-- A struct's parts, one behind the other. -/
def consecutive (P : Program) : Nat → List Field → Bool
  | _, [] => true
  | n, f :: fs => f.offset == n && consecutive P (n + P.cellsOf f.type) fs

/-- An element out of its cells. -/
def asEl (agg : Bool) (cs : List AV) : Option AV :=
  if agg then some (.agg cs) else match cs with | [x] => if x.one then some x else none | _ => none

theorem asEl_cells {agg : Bool} {cs : List AV} {x : AV} (h : asEl agg cs = some x) : x.cells = cs := by
  unfold asEl at h
  split at h
  · cases h; rfl
  · split at h
    · split at h
      · rename_i hy
        cases h
        cases x <;> first | rfl | simp [AV.one] at hy
      · cases h
    · cases h

/-- The cells of what a datum of a type reads as. -/
def avOf {H : Type} (C : Cfg) : Nat → TypeId → DataW H → Option (List AV)
  | 0, _, _ => none
  | k + 1, t, d =>
    match C.P.underlying t, d with
    | some .bool, .lit (.bool b) => some [.bool b]
    | some (.int _), .lit (.int q n) => some [.int q n]
    | some .string, .lit (.string l) => some [.str ⟨l.toArray⟩]
    | some (.pointer _), .nil => some [.nilp]
    | some (.slice _), .nil => some [.list []]
    | some (.slice e), .slice elems _ =>
      match elems.mapM fun d => (avOf C k e d).bind fun cs => if cs.length = C.P.cellsOf e then asEl (aggT C e) cs else none with
      | some xs => if xs.all (fun x => x.isData && decide (x.cells.length = C.P.cellsOf e)) then some [.list xs] else none
      | none => none
    | some (.struct fs), .agg parts =>
      if consecutive C.P 0 fs.toList ∧ parts.length = fs.size then
        ((fs.toList.zip parts).mapM fun p => (avOf C k p.1.type p.2).bind fun cs => if cs.length = C.P.cellsOf p.1.type then some cs else none).bind fun ps => if ps.flatten.length = C.P.cellsOf t then some ps.flatten else none
      else none
    | some (.interface _), .nil => some [.nili]
    | some (.interface _), .held _ => some [.errv]
    | _, _ => none

variable {C : Cfg} {H : Type} {enc : TypeId × Value → H} {W : World} {base : Nat} {spare : Nat → Bool} {held : Bool}

theorem one_rd {e : E} {x : AV} {v : Value} (h : Rd e x v) : CellsRd e [x] [v] := ⟨rfl, fun i y u hy hu => by
  cases i with
  | zero => simp at hy hu; subst hy hu; exact h
  | succ i => simp at hy⟩

/-- A slice's elements. -/
theorem slice_rd {e : E} (hS : ∀ a v, W.cell? a = some v → e.S a ∧ e.w.cell? a = some v) {a : Addr} {n cap : Nat} {xs : List AV} {css : List (List Value)} (hl : css.length = xs.length) (hcap : xs.length ≤ cap)
    (hd : ∀ x, x ∈ xs → x.isData = true) (hk : ∀ x, x ∈ xs → x.cells.length = n)
    (hc : ∀ (i : Nat) (cs : List Value), css[i]? = some cs → W.cells? base (a.add (i * n)) n = some cs)
    (hr : ∀ (i : Nat) (x : AV) (cs : List Value), xs[i]? = some x → css[i]? = some cs → CellsRd e x.cells cs) : Rd e (.list xs) (.slice (some a) xs.length cap) := by
  have hcell : ∀ i j, i < xs.length → j < n → W.cell? (a.add (i * n + j)) = some (((css.getD i []).getD j Go.undef)) := fun i j hi hj => by
    have hi' : i < css.length := by omega
    have h1 := hc i css[i] (List.getElem?_eq_getElem hi')
    obtain ⟨_, h2, h3⟩ := World.cells?_some h1
    have h4 := h3 j hj
    rw [add_add] at h4
    have hj' : j < css[i].length := by omega
    rw [h4]
    simp [List.getD_eq_getElem?_getD, List.getElem?_eq_getElem hi', List.getElem?_eq_getElem hj']
  refine .list xs (some a) cap n (fun i j => (css.getD i []).getD j Go.undef) hcap hd hk (fun _ => rfl) (fun b i j hb hi hj => ?_) (fun i j x y hx hy => ?_)
  · cases hb
    exact hS _ _ (hcell i j hi hj)
  · have hi := (List.getElem?_eq_some_iff.1 hx).1
    have hi' : i < css.length := by omega
    have h1 := hr i x css[i] hx (List.getElem?_eq_getElem hi')
    have hj : j < css[i].length := by rw [h1.1]; exact (List.getElem?_eq_some_iff.1 hy).1
    have h2 := h1.2 j y css[i][j] hy (List.getElem?_eq_getElem hj)
    simpa [List.getD_eq_getElem?_getD, List.getElem?_eq_getElem hi', List.getElem?_eq_getElem hj] using h2

theorem mapM_parts {α β : Type} {f : α → Option β} : ∀ {l : List α} {r : List β}, l.mapM f = some r → r.length = l.length ∧ ∀ (i : Nat) (x : α) (y : β), l[i]? = some x → r[i]? = some y → f x = some y :=
  fun h => ⟨mapM_some_length h, fun i x y hx hy => by rw [mapM_some_get h i x hx]; exact hy⟩

/-- A struct's cells, one part behind the other. -/
theorem struct_rd {e : E} {P : Program} : ∀ (fs : List Field) (n : Nat) (cs : List Value) (ps : List (List AV)), consecutive P n fs = true → ps.length = fs.length →
    (∀ (i : Nat) (f : Field) (p : List AV), fs[i]? = some f → ps[i]? = some p → p.length = P.cellsOf f.type ∧ CellsRd e p ((cs.drop f.offset).take (P.cellsOf f.type))) →
    ∀ (i : Nat) (x : AV) (v : Value), ps.flatten[i]? = some x → cs[n + i]? = some v → Rd e x v
  | [], n, cs, ps, hc, hl, hp, i, x, v, hx, hv => by
    obtain rfl : ps = [] := List.length_eq_zero_iff.1 hl
    simp at hx
  | f :: fs, n, cs, [], hc, hl, hp, i, x, v, hx, hv => by simp at hl
  | f :: fs, n, cs, p :: ps, hc, hl, hp, i, x, v, hx, hv => by
    simp only [consecutive, Bool.and_eq_true, beq_iff_eq] at hc
    obtain ⟨h1, h2⟩ := hp 0 f p rfl rfl
    simp only [List.flatten_cons] at hx
    by_cases hi : i < p.length
    · rw [List.getElem?_append_left hi] at hx
      refine h2.2 i x v hx ?_
      rw [List.getElem?_take, if_pos (by omega), List.getElem?_drop, hc.1]
      exact hv
    · rw [List.getElem?_append_right (by omega)] at hx
      refine struct_rd fs (n + P.cellsOf f.type) cs ps hc.2 (by simpa using hl) (fun j g q hg hq => hp (j + 1) g q (by simpa using hg) (by simpa using hq)) (i - p.length) x v hx ?_
      rw [← hv]
      congr 1
      omega

theorem avOf_rd {e : E} (hS : ∀ a v, W.cell? a = some v → e.S a ∧ e.w.cell? a = some v) : ∀ (fuel k : Nat) (t : TypeId) (cs : List Value) (d : DataW H) (ps : List MemPlace) (xs : List AV),
    DataW.trod enc C.P W base spare held fuel t cs = some (d, ps) → avOf C k t d = some xs → CellsRd e xs cs
  | 0, k, t, cs, d, ps, xs, h, hx => by simp [DataW.trod] at h
  | fuel + 1, 0, t, cs, d, ps, xs, h, hx => by simp [avOf] at hx
  | fuel + 1, k + 1, t, cs, d, ps, xs, h, hx => by
    unfold DataW.trod at h
    unfold avOf at hx
    split at h
    · rename_i hu
      cases h
      simp only [hu] at hx
      cases hx
      exact one_rd (.bool _)
    · rename_i hu
      split at h
      · rename_i hk
        cases h
        simp only [hu] at hx
        cases hx
        rw [hk.1]
        exact one_rd (.int _ _)
      · cases h
    · rename_i hu
      split at h
      · cases h
        simp only [hu] at hx
        cases hx
      · cases h
    · rename_i s hu
      split at h
      · cases h
        simp only [hu] at hx
        cases hx
        exact one_rd (.str _)
      · cases h
    · rename_i hu
      cases h
      simp only [hu] at hx
      cases hx
      exact one_rd .nilp
    · rename_i hu
      simp only [Option.map_eq_some_iff, Prod.mk.injEq] at h
      obtain ⟨_, _, rfl, _⟩ := h
      simp only [hu] at hx
      cases hx
    · rename_i hu
      cases h
      simp only [hu] at hx
      cases hx
      exact one_rd (.list [] none 0 0 (fun _ _ => Go.undef) (Nat.le_refl _) (by simp) (by simp) (by simp) (by simp) (by simp))
    · rename_i el a len cap hu
      dsimp only at h
      split at h
      case isFalse => cases h
      rename_i hc
      simp only [Option.bind_eq_some_iff, Option.map_eq_some_iff, Prod.mk.injEq] at h
      obtain ⟨elems, hel, rest, _, rfl, _⟩ := h
      simp only [hu] at hx
      split at hx
      case h_2 => cases hx
      rename_i ys hys
      split at hx
      case isFalse => cases hx
      rename_i hall
      cases hx
      obtain ⟨l1, g1⟩ := mapM_parts hel
      obtain ⟨l2, g2⟩ := mapM_parts hys
      have hlen : ys.length = len := by simpa [l1] using l2
      have hboth : ∀ x, x ∈ ys → x.isData = true ∧ x.cells.length = C.P.cellsOf el := fun x hx => by
        have := List.all_eq_true.1 hall x hx
        simpa using this
      have hel' : ∀ i, i < len → ∃ di pi csi, elems[i]? = some (di, pi) ∧ W.cells? base (a.add (i * C.P.cellsOf el)) (C.P.cellsOf el) = some csi ∧ DataW.trod enc C.P W base spare held fuel el csi = some (di, pi) := fun i hi => by
        have hi' : i < elems.length := by rw [l1]; simpa using hi
        have := g1 i i elems[i] (by simp [hi]) (List.getElem?_eq_getElem hi')
        simp only [Option.bind_eq_some_iff] at this
        obtain ⟨csi, h1, h2⟩ := this
        exact ⟨elems[i].1, elems[i].2, csi, List.getElem?_eq_getElem hi', h1, h2⟩
      subst hlen
      refine one_rd (slice_rd (base := base) (n := C.P.cellsOf el) (css := (List.range ys.length).map fun i => (W.cells? base (a.add (i * C.P.cellsOf el)) (C.P.cellsOf el)).getD []) hS (by simp) hc.2.1 (fun x hx => (hboth x hx).1) (fun x hx => (hboth x hx).2) (fun i csi hi => ?_) (fun i x csi hx hi => ?_))
      · have hlt : i < ys.length := by have := (List.getElem?_eq_some_iff.1 hi).1; simpa using this
        obtain ⟨di, pi, cs', _, h2, _⟩ := hel' i hlt
        simp [hlt, h2] at hi
        rw [h2, hi]
      · have hlt : i < ys.length := (List.getElem?_eq_some_iff.1 hx).1
        obtain ⟨di, pi, cs', h1, h2, h3⟩ := hel' i hlt
        simp [hlt, h2] at hi
        subst hi
        have h4 := g2 i di x (by simp [h1]) hx
        simp only [Option.bind_eq_some_iff] at h4
        obtain ⟨zs, h5, h6⟩ := h4
        split at h6
        case isFalse => cases h6
        rw [asEl_cells h6]
        exact avOf_rd hS fuel k el cs' di pi zs h3 h5
    · rename_i cs x1 x2 fs hu
      split at h
      case isFalse => cases h
      rename_i hlen
      simp only [Option.map_eq_some_iff, Prod.mk.injEq] at h
      obtain ⟨qs, hqs, rfl, _⟩ := h
      simp only [hu] at hx
      split at hx
      case isFalse => cases hx
      rename_i hc
      simp only [Option.bind_eq_some_iff] at hx
      obtain ⟨pcs, hp, hx⟩ := hx
      split at hx
      case isFalse => cases hx
      rename_i hfl
      cases hx
      obtain ⟨l1, g1⟩ := mapM_parts hqs
      obtain ⟨l2, g2⟩ := mapM_parts hp
      have hl : pcs.length = fs.toList.length := by
        rw [l2, List.length_zip]
        simp [l1]
      have hpart : ∀ (i : Nat) (f : Field) (p : List AV), fs.toList[i]? = some f → pcs[i]? = some p → p.length = C.P.cellsOf f.type ∧ CellsRd e p ((cs.drop f.offset).take (C.P.cellsOf f.type)) := fun i f p hf hpi => by
        have hi : i < qs.length := by rw [l1]; exact (List.getElem?_eq_some_iff.1 hf).1
        have h1 := g1 i f qs[i] hf (List.getElem?_eq_getElem hi)
        have h2 := g2 i (f, qs[i].1) p (by rw [List.getElem?_zip_eq_some]; exact ⟨hf, by simp [hi]⟩) hpi
        simp only [Option.bind_eq_some_iff] at h2
        obtain ⟨zs, h3, h4⟩ := h2
        split at h4
        case isFalse => cases h4
        rename_i hz
        cases h4
        exact ⟨hz, avOf_rd hS fuel k f.type _ qs[i].1 qs[i].2 _ h1 h3⟩
      refine ⟨by rw [hfl, hlen], fun i x v hx hv => struct_rd fs.toList 0 cs pcs hc.1 hl hpart i x v hx (by simpa using hv)⟩
    · rename_i hu
      split at h
      · simp only [Option.map_eq_some_iff, Prod.mk.injEq] at h
        obtain ⟨_, _, rfl, _⟩ := h
        simp only [hu] at hx
        cases hx
      · cases h
    · rename_i hu
      cases h
      simp only [hu] at hx
      cases hx
      exact one_rd .nili
    · rename_i hu
      split at h
      · cases h
        simp only [hu] at hx
        cases hx
        exact one_rd (.errv _ _)
      · simp only [Option.map_eq_some_iff, Prod.mk.injEq] at h
        obtain ⟨_, _, rfl, _⟩ := h
        simp only [hu] at hx
        cases hx
      · cases h
    all_goals
      rename_i hu
      first
        | (cases h; done)
        | (cases h; simp only [hu] at hx; cases hx; done)
        | (repeat' split at h) <;> first | (simp only [Option.bind_eq_some_iff] at h; obtain ⟨_, _, h⟩ := h; split at h <;> first | (cases h; done) | (cases h; simp only [hu] at hx; cases hx; done)) | (cases h; done) | (cases h; simp only [hu] at hx; cases hx; done) | (simp only [Option.map_eq_some_iff, Prod.mk.injEq] at h; obtain ⟨_, _, rfl, _⟩ := h; simp only [hu] at hx; cases hx; done)

end Go.Proofs.YtkddphdhcejdaaaDoor.AI
