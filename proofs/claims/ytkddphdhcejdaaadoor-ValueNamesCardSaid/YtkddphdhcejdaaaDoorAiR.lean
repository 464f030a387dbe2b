/-
  How the two memories go on at a range over a function, and at a loop's head.
-/
import Derived.Test.YtkddphdhcejdaaaDoorAiQ
set_option linter.unusedVariables false
set_option linter.unusedSimpArgs false
namespace Go.Proofs.YtkddphdhcejdaaaDoor.AI
open Go.RowKit
variable {C : Cfg} {B : Nat} {e : E} {hp : Hp}

/-! A loop's head -/

theorem allUnder_get {n t l : Nat} : ∀ {xs : List AV} {i : Nat} {x : AV}, AV.allUnder n t l xs = true → xs[i]? = some x → x.under n t l = true
  | [], i, x, _, h => by simp at h
  | y :: ys, 0, x, h, hx => by
    simp only [List.getElem?_cons_zero, Option.some.injEq] at hx
    subst hx
    simp only [AV.allUnder, Bool.and_eq_true] at h
    exact h.1
  | y :: ys, i + 1, x, h, hx => by
    simp only [AV.allUnder, Bool.and_eq_true] at h
    exact allUnder_get h.2 (by simpa using hx)

mutual
theorem isData_under {n t l : Nat} : ∀ x : AV, x.isData = true → x.under n t l = true
  | .int .., _ | .bool _, _ | .str _, _ | .list _, _ | .nilp, _ | .nilf, _ | .nili, _ => rfl
  | .agg cs, h => allCells_under cs h
  | .nils, h | .own .., h | .lits _, h | .tup _, h | .box .., h | .elem _, h | .fn .., h | .yield _, h | .iter _, h | .raw .., h | .rawz, h | .errv, h | .undef, h | .no, h => by simp [AV.isData] at h
theorem allCells_under {n t l : Nat} : ∀ xs : List AV, AV.allCells xs = true → AV.allUnder n t l xs = true
  | [], _ => rfl
  | x :: xs, h => by
    simp only [AV.allCells, Bool.and_eq_true] at h
    simp only [AV.allUnder, Bool.and_eq_true]
    exact ⟨isData_under x h.1.2, allCells_under xs h.2⟩
end

theorem under_cells {n t l : Nat} {x y : AV} {j : Nat} (h : x.under n t l = true) (hy : x.cells[j]? = some y) : y.under n t l = true := by
  cases x
  case agg cs => exact allUnder_get h hy
  all_goals
    cases j with
    | zero => simp only [AV.cells, List.getElem?_cons_zero, Option.some.injEq] at hy; subst hy; exact h
    | succ j => simp [AV.cells] at hy

theorem rd_restrict {n t l : Nat} {x : AV} {v : Value} (hx : Rd e x v) : x.under n t l = true → Rd (e.restrict n t l) x v := by
  induction hx with
  | int k n => exact fun _ => .int k n
  | bool b => exact fun _ => .bool b
  | str s => exact fun _ => .str s
  | nils => exact fun _ => .nils
  | list xs A cap k vf hcap hd hk hA hc hr ih =>
    exact fun _ => .list xs A cap k vf hcap hd hk hA hc (fun i j x y hx hy => ih i j x y hx hy (under_cells (isData_under x (hd x (List.mem_of_getElem? hx))) hy))
  | own t' xs v tk hl ht hle hk hv ih =>
    intro h
    have ht' : t' < t := by simpa [AV.under] using h
    exact .own t' xs v tk (ih rfl) (by simp [E.restrict, ht', ht]) hle hk hv
  | lits xs A cap k vf hcap hk hA hc hr ih =>
    exact fun h => .lits xs A cap k vf hcap hk hA hc (fun i j x y hx hy => ih i j x y hx hy (under_cells (allUnder_get h hx) hy))
  | agg cs vs hn h ih => exact fun hu => .agg cs vs hn (fun i x v hx hv => ih i x v hx hv (allUnder_get hu hx))
  | tup cs vs hn h ih => exact fun hu => .tup cs vs hn (fun i x v hx hv => ih i x v hx hv (allUnder_get hu hx))
  | nilp => exact fun _ => .nilp
  | box b off k hb =>
    intro h
    have hb' : b < n := by simpa [AV.under] using h
    exact .box b off k (by simp [E.restrict, hb', hb])
  | elem cs a vf hc hr ih => exact fun hu => .elem cs a vf hc (fun j x hx => ih j x hx (allUnder_get hu hx))
  | fn f cap vs hn h ih => exact fun hu => .fn f cap vs hn (fun i x v hx hv => ih i x v hx hv (allUnder_get hu hx))
  | yield l' k hl =>
    intro h
    have hl' : l' < l := by simpa [AV.under] using h
    exact .yield l' k (by simp [E.restrict, hl', hl])
  | iter l' k hl =>
    intro h
    have hl' : l' < l := by simpa [AV.under] using h
    exact .iter l' k (by simp [E.restrict, hl', hl])
  | raw t' xs a len cap hne hr ih => exact fun h => .raw t' xs a len cap hne (ih h)
  | rawz p => exact fun _ => .rawz p
  | nilf => exact fun _ => .nilf
  | nili => exact fun _ => .nili
  | errv t v => exact fun _ => .errv t v
  | undef v => exact fun _ => .undef v
  | no => exact fun _ => .no

theorem env_restrict {n t l : Nat} {env : List AV} {tmps : Array Value} (he : EnvOk e env tmps) (hu : AV.allUnder n t l env = true) : EnvOk (e.restrict n t l) env tmps :=
  ⟨he.1, fun i x v hx hv => rd_restrict (he.2 i x v hx hv) (allUnder_get hu hx)⟩

theorem restrict_β {n t l b k : Nat} (h : (e.restrict n t l).β b = some k) : b < n ∧ e.β b = some k := by
  simp only [E.restrict] at h
  split at h
  · exact ⟨‹_›, h⟩
  · cases h
theorem restrict_τ {n t l b : Nat} {k : Tok} (h : (e.restrict n t l).τ b = some k) : b < t ∧ e.τ b = some k := by
  simp only [E.restrict] at h
  split at h
  · exact ⟨‹_›, h⟩
  · cases h
theorem restrict_lp {n t l b k : Nat} (h : (e.restrict n t l).lp b = some k) : b < l ∧ e.lp b = some k := by
  simp only [E.restrict] at h
  split at h
  · exact ⟨‹_›, h⟩
  · cases h

theorem trunc_ok {n t l : Nat} {env : List AV} {hp' : Hp} {tmps : Array Value} (hx : trunc n t l env hp = some hp') (h : Sim B e hp) (he : EnvOk e env tmps) :
    Sim B (e.restrict n t l) hp' ∧ EnvOk (e.restrict n t l) env tmps := by
  unfold trunc at hx
  split at hx
  case isFalse => cases hx
  rename_i hc
  obtain ⟨c1, c2, c3, c4, c5, c6, c7, c8, c9⟩ := hc
  cases hx
  refine ⟨⟨h.base, ?_, h.Sok, ?_, ?_, ?_, ?_, ?_, ?_⟩, env_restrict he c7⟩
  · have := h.lk
    simp only [List.length_take, E.restrict]
    omega
  · intro b k hb
    obtain ⟨hbn, hb⟩ := restrict_β hb
    obtain ⟨h1, h2, cs, vs, ty, h3, h4, h5, h6⟩ := h.box b k hb
    have h3' : (hp.boxes.take n)[b]? = some (cs, ty) := by rw [List.getElem?_take, if_pos hbn]; exact h3
    refine ⟨h1, h2, cs, vs, ty, h3', h4, h5, fun i x v hx hv => rd_restrict (h6 i x v hx hv) (allUnder_get ?_ hx)⟩
    exact List.all_eq_true.1 c8 (cs, ty) (List.mem_of_getElem? h3')
  · exact fun b b' k h1 h2 => h.inj b b' k (restrict_β h1).2 (restrict_β h2).2
  · intro t' tk htk
    obtain ⟨htn, htk⟩ := restrict_τ htk
    obtain ⟨h1, h2⟩ := h.tok t' tk htk
    exact ⟨by rw [List.getElem?_take, if_pos htn]; exact h1, h2.mono (fun a h => .inl h) (fun g _ => rfl) (fun b g _ hb => (restrict_β hb).2)⟩
  · exact fun t t' tk tk' g h1 h2 => h.tinj t t' tk tk' g (restrict_τ h1).2 (restrict_τ h2).2
  · intro l' k hl
    obtain ⟨hln, hl⟩ := restrict_lp hl
    obtain ⟨h1, r, f, tmps', df, h2, h3, h4⟩ := h.loop l' k hl
    have h2' : (hp.loops.take l)[l']? = some r := by rw [List.getElem?_take, if_pos hln]; exact h2
    exact ⟨h1, r, f, tmps', df, h2', h3, fun hi => env_restrict (h4 hi) (List.all_eq_true.1 c9 r (List.mem_of_getElem? h2'))⟩
  · exact fun b b' k h1 h2 => h.linj b b' k (restrict_lp h1).2 (restrict_lp h2).2

theorem adv_restrict {e1 : E} {n t l : Nat} (ha : Adv (e.restrict n t l) e1) : Adv (e.restrict n t l) (e1.restrict n t l) where
  S := ha.S
  β b k hb := by
    have h1 := (restrict_β hb).1
    have := ha.β b k hb
    simp [E.restrict, h1, this]
  lp b k hb := by
    have h1 := (restrict_lp hb).1
    have := ha.lp b k hb
    simp [E.restrict, h1, this]
  τ b k hb := by
    have h1 := (restrict_τ hb).1
    obtain ⟨tk', h2, h3⟩ := ha.τ b k hb
    exact ⟨tk', by simp [E.restrict, h1, h2], h3⟩
  nβ b k hb := ha.nβ b k (restrict_β hb).2
  nlp b k hb := ha.nlp b k (restrict_lp hb).2
  nτ b tk g hb hg := ha.nτ b tk g (restrict_τ hb).2 hg
  size := ha.size
  keep := ha.keep
  nS := ha.nS
  fβ b k hb := ha.fβ b k (restrict_β hb).2
  fτ b k hb := ha.fτ b k (restrict_τ hb).2
  flp b k hb := ha.flp b k (restrict_lp hb).2
  lb := ha.lb
  lt := ha.lt
  ll := ha.ll
  os := ha.os
  tape := ha.tape
  output := ha.output
  lo := ha.lo
  bl := ha.bl

theorem restrict_all (h : Sim B e hp) : e.restrict hp.boxes.length hp.toks.length hp.loops.length = e := by
  obtain ⟨w, S, β, τ, lp, lb, lt, ll⟩ := e
  simp only [E.restrict, E.mk.injEq, true_and, and_true]
  refine ⟨funext fun b => ?_, funext fun b => ?_, funext fun b => ?_⟩
  · cases hb : β b with
    | none => simp
    | some k => rw [if_pos (h.β_lt hb).1]
  · cases hb : τ b with
    | none => simp
    | some k => rw [if_pos (h.τ_lt hb)]
  · cases hb : lp b with
    | none => simp
    | some k => rw [if_pos (h.lp_lt hb).1]

theorem restrict_more (h : Sim B e hp) {n t l : Nat} (hn : hp.boxes.length ≤ n) (ht : hp.toks.length ≤ t) (hl : hp.loops.length ≤ l) : e.restrict n t l = e := by
  obtain ⟨w, S, β, τ, lp, lb, lt, ll⟩ := e
  simp only [E.restrict, E.mk.injEq, true_and, and_true]
  refine ⟨funext fun b => ?_, funext fun b => ?_, funext fun b => ?_⟩
  · cases hb : β b with
    | none => simp
    | some k => rw [if_pos (Nat.lt_of_lt_of_le (h.β_lt hb).1 hn)]
  · cases hb : τ b with
    | none => simp
    | some k => rw [if_pos (Nat.lt_of_lt_of_le (h.τ_lt hb) ht)]
  · cases hb : lp b with
    | none => simp
    | some k => rw [if_pos (Nat.lt_of_lt_of_le (h.lp_lt hb).1 hl)]

end Go.Proofs.YtkddphdhcejdaaaDoor.AI
