/-
  Each operation of the interpreter's is the model's: values, types, operands; what a load reads.
-/
import Derived.Test.YtkddphdhcejdaaaDoorAiD
set_option linter.unusedVariables false
set_option linter.unusedSimpArgs false
namespace Go.Proofs.YtkddphdhcejdaaaDoor.AI
open Go.RowKit
variable {C : Cfg} {B : Nat} {e : E} {hp : Hp}

mutual
theorem ofVal_rd (e : E) : ∀ v : Value, Rd e (ofVal v) v
  | .int k n => .int k n
  | .bool b => .bool b
  | .string s => .str s
  | .pointer none => .nilp
  | .slice none 0 0 => .nils
  | .nilFunc => .nilf
  | .nilIface => .nili
  | .agg ⟨cs⟩ => .agg _ _ (by simp [ofVals_length]) (fun i x v hx hv => ofVals_rd e cs i x v hx (by simpa using hv))
  | .pointer (some _) => .undef _
  | .slice (some _) _ _ => .undef _
  | .slice none (_ + 1) _ => .undef _
  | .slice none 0 (_ + 1) => .undef _
  | .float .. => .undef _
  | .complex .. => .undef _
  | .map _ => .undef _
  | .chan _ => .undef _
  | .func .. => .undef _
  | .iface .. => .undef _
  | .tuple _ => .undef _
theorem ofVals_length : ∀ vs : List Value, vs.length = (ofVals vs).length
  | [] => rfl
  | x :: xs => by simp [ofVals, ofVals_length xs]
theorem ofVals_rd (e : E) : ∀ (vs : List Value) (i : Nat) (x : AV) (v : Value), (ofVals vs)[i]? = some x → vs[i]? = some v → Rd e x v
  | [], i, x, v, hx, hv => by simp at hv
  | y :: ys, 0, x, v, hx, hv => by
    simp [ofVals] at hx hv
    subst hx hv
    exact ofVal_rd e y
  | y :: ys, i + 1, x, v, hx, hv => ofVals_rd e ys i x v (by simpa [ofVals] using hx) (by simpa using hv)
end

/-- What the read-only package-level variables hold. -/
def GlOk (C : Cfg) (e : E) : Prop := ∀ g cs, C.gl g = some cs → Rd e (.elem cs) (.pointer (some ⟨g, 0, none⟩)) ∧ ∃ (vs : Array Value) (t : TypeId) (z : Nat × Nat), e.w.heap[g]? = some (.cells vs t z) ∧ vs.size = cs.length
theorem GlOk.mono {e e' : E} (h : Adv e e') (hg : GlOk C e) : GlOk C e' := fun g cs hc =>
  let ⟨h1, vs, t, z, h2, h3⟩ := hg g cs hc
  let ⟨vs', z', h4, h5⟩ := h.bl g vs t z h2
  ⟨h1.mono h, vs', t, z', h4, h5.trans h3⟩

theorem ev_rd (hg : GlOk C e) {env : List AV} {a : Act} (he : EnvOk e env a.tmps) (o : Operand) : Rd e (ev C env o) (a.eval o) := by
  cases o with
  | tmp t =>
    simp only [ev, Act.eval]
    by_cases ht : t < env.length
    · refine he.2 t _ _ (by simp [List.getD, List.getElem?_eq_getElem ht]) ?_
      have : t < a.tmps.size := by rw [he.1]; exact ht
      simp [Array.getD_eq_getD_getElem?, Array.getElem?_eq_getElem this]
    · simp only [List.getD, List.getElem?_eq_none (Nat.le_of_not_lt ht), Option.getD_none]
      exact .undef _
  | const v => exact ofVal_rd e v
  | global g =>
    simp only [ev, Act.eval]
    split
    · exact (hg g _ ‹_›).1
    · exact .undef _
  | func f => exact .fn f [] #[] rfl (fun i x v hx => by simp at hx)

theorem EnvOk.put {env : List AV} {a : Act} (he : EnvOk e env a.tmps) {x : AV} {v : Value} (hx : Rd e x v) (o : Oper) : EnvOk e (putA env o x) (a.put o.dst v).tmps := by
  unfold putA Act.put
  cases o.dst with
  | none => exact he
  | some d =>
    refine ⟨by simp [he.1], fun i y u hy hu => ?_⟩
    simp only at hu hy
    by_cases hd : d = i
    · subst hd
      have h1 : d < env.length := by
        have := (List.getElem?_eq_some_iff.1 hy).1
        simpa using this
      rw [List.getElem?_set_self h1] at hy
      cases hy
      rw [Array.getElem?_setIfInBounds_self_of_lt (by rw [he.1]; exact h1)] at hu
      cases hu
      exact hx
    · rw [List.getElem?_set_ne hd] at hy
      rw [Array.getElem?_setIfInBounds_ne hd] at hu
      exact he.2 i y u hy hu

theorem Rd.one {x : AV} {v : Value} (h : Rd e x v) (hx : x.one = true) : v.oneCell' = true := by
  cases h with
  | own t xs v tk hl => 
    obtain ⟨_, A, cap, k, vf, hr⟩ := hl.list_inv
    rw [hr.hv]; rfl
  | _ => first | rfl | (simp [AV.one] at hx)

theorem Rd.cells {x : AV} {v : Value} (h : Rd e x v) (hx : x.cells.all (·.one) = true) :
    v.cells.size = x.cells.length ∧ (∀ (i : Nat) (y : AV) (u : Value), x.cells[i]? = some y → v.cells[i]? = some u → Rd e y u) ∧ (∀ u, u ∈ v.cells.toList → u.oneCell' = true) := by
  cases h with
  | agg cs vs hn hr =>
    refine ⟨hn, hr, fun u hu => ?_⟩
    simp only [Value.cells] at hu
    obtain ⟨i, hi, rfl⟩ := List.getElem_of_mem hu
    have h1 : i < cs.length := by rw [← hn]; simpa using hi
    simp only [AV.cells, List.all_eq_true] at hx
    exact (hr i _ _ (List.getElem?_eq_getElem h1) (by simp [Array.getElem?_eq_getElem (show i < vs.size by omega)])).one (hx _ (List.getElem_mem h1))
  | tup cs vs hn hr => simp [AV.cells, AV.one] at hx
  | undef v => simp [AV.cells, AV.one] at hx
  | no => simp [AV.cells, AV.one] at hx
  | own t xs v tk hl ht hle hk hv =>
    have h0 : Rd e (.own t xs) v := .own t xs v tk hl ht hle hk hv
    have ho : v.oneCell' = true := h0.one rfl
    have hc : v.cells = #[v] := by cases v <;> first | rfl | (simp [Value.oneCell'] at ho)
    rw [hc]
    refine ⟨rfl, fun i y u hy hu => ?_, fun u hu => by simp at hu; subst hu; exact ho⟩
    cases i with
    | zero => simp [AV.cells] at hy hu; subst hy hu; exact h0
    | succ i => simp [AV.cells] at hy
  | _ =>
    refine ⟨rfl, fun i y u hy hu => ?_, fun u hu => by simp [Value.cells] at hu; subst hu; rfl⟩
    cases i with
    | zero => simp [AV.cells, Value.cells] at hy hu; subst hy hu; constructor <;> assumption
    | succ i => simp [AV.cells] at hy

end Go.Proofs.YtkddphdhcejdaaaDoor.AI
