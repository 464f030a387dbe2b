/-
  Each operation of the interpreter's is the model's: arithmetic, comparisons, slicing, lengths.
-/
import Derived.Test.YtkddphdhcejdaaaDoorAiK
set_option linter.unusedVariables false
set_option linter.unusedSimpArgs false
namespace Go.Proofs.YtkddphdhcejdaaaDoor.AI
open Go.RowKit
variable {C : Cfg} {B : Nat} {e : E} {hp : Hp}

theorem flatFrom_ok (d : Nat) (xs ys : Array Value) (as bs : List AV) (ha : CellsRd e as xs.toList) (hb : CellsRd e bs ys.toList) (w : World) : ∀ (fs : List Field) (i : Nat) (ds : List TypeDesc) (r : Bool),
    flatFrom C i fs = some ds → eqDs ds (as.drop i) (bs.drop i) = some r → (Op.eqFields (d + 1) xs ys fs).run C.P w = .ok r w
  | [], i, ds, r, h, hr => by
    cases h
    have h1 : eqDs [] (as.drop i) (bs.drop i) = some r := hr
    cases hA : as.drop i <;> cases hB : bs.drop i <;> rw [hA, hB] at h1 <;> simp [eqDs] at h1
    subst h1
    rfl
  | f :: fs, i, ds, r, h, hr => by
    simp only [flatFrom] at h
    split at h
    case isFalse => cases h
    rename_i hcond
    obtain ⟨hname, hoff⟩ := hcond
    have key : ∀ (dd : TypeDesc) (l : List TypeDesc), flatFrom C (i + 1) fs = some l → C.P.underlying f.type = some dd → (∀ z, dd ≠ .struct z) → (∀ n z, dd ≠ .array n z) → ds = dd :: l →
        (∀ (x y : AV) (u v : Value) (b : Bool), Rd e x u → Rd e y v → eqD dd x y = some b → (Op.equalIn (d + 1) f.type u v).run C.P w = .ok b w) →
        (Op.eqFields (d + 1) xs ys (f :: fs)).run C.P w = .ok r w := by
      intro dd l hl hu hns hna hds heq
      subst hds
      cases hA : as.drop i with
      | nil => rw [hA] at hr; simp [eqDs] at hr
      | cons x as' =>
      cases hB : bs.drop i with
      | nil => rw [hA, hB] at hr; simp [eqDs] at hr
      | cons y bs' =>
      rw [hA, hB] at hr
      simp only [eqDs] at hr
      split at hr
      case h_2 => cases hr
      rename_i a b hea hrest
      cases hr
      have hxi : as[i]? = some x := by have := congrArg (fun l => l[0]?) hA; simpa [List.getElem?_drop] using this
      have hyi : bs[i]? = some y := by have := congrArg (fun l => l[0]?) hB; simpa [List.getElem?_drop] using this
      have hA' : as.drop (i + 1) = as' := by rw [← List.tail_drop, hA]; rfl
      have hB' : bs.drop (i + 1) = bs' := by rw [← List.tail_drop, hB]; rfl
      have hxl : i < xs.size := by have := ha.1; simp at this; rw [this]; exact (List.getElem?_eq_some_iff.1 hxi).1
      have hyl : i < ys.size := by have := hb.1; simp at this; rw [this]; exact (List.getElem?_eq_some_iff.1 hyi).1
      have hagg : aggT C f.type = false := by
        unfold aggT
        rw [hu]
        cases dd <;> first | rfl | exact absurd rfl (hns _) | exact absurd rfl (hna _ _)
      have hpx : (part f.type xs f.offset).run C.P w = .ok xs[i] w := by simp [part, run_isAgg hu, hagg, hoff, Array.getElem?_eq_getElem hxl]
      have hpy : (part f.type ys f.offset).run C.P w = .ok ys[i] w := by simp [part, run_isAgg hu, hagg, hoff, Array.getElem?_eq_getElem hyl]
      have he := heq x y xs[i] ys[i] a (ha.2 i x _ hxi (by simp [Array.getElem?_eq_getElem hxl])) (hb.2 i y _ hyi (by simp [Array.getElem?_eq_getElem hyl])) hea
      have ih := flatFrom_ok d xs ys as bs ha hb w fs (i + 1) l b hl (by rw [hA', hB']; exact hrest)
      simp only [Op.eqFields, hname, ne_eq, not_false_eq_true, if_true, Sem.run_bind, hpx, hpy, he, Result.andThen_ok]
      cases a
      · simp
      · simp [ih]
    split at h
    · rename_i l hu hl
      cases h
      exact key .bool l hl hu (by simp) (by simp) rfl (fun x y u v b hx hy hb => by
        cases x <;> cases y <;> simp [eqD] at hb
        cases hx; cases hy; subst hb
        exact run_equalIn_bool' w d f.type _ _ hu)
    · rename_i k l hu hl
      cases h
      exact key (.int k) l hl hu (by simp) (by simp) rfl (fun x y u v b hx hy hb => by
        cases x <;> cases y <;> simp [eqD] at hb
        cases hx; cases hy
        obtain ⟨rfl, rfl⟩ := hb
        exact run_equalIn_int w d f.type _ _ _ _ hu)
    · rename_i l hu hl
      cases h
      exact key .string l hl hu (by simp) (by simp) rfl (fun x y u v b hx hy hb => by
        cases x <;> cases y <;> simp only [eqD, reduceCtorEq, Option.some.injEq] at hb
        cases hx; cases hy; subst hb
        rw [← ByteArray.toList_eq, ← ByteArray.toList_eq]
        exact run_equalIn_string w d f.type _ _ hu)
    · cases h

theorem eqA_ok {cst : Bool} {t : TypeId} {d : TypeDesc} (hu : C.P.underlying t = some d) {x y : AV} {u v : Value} {b : Bool} (hx : Rd e x u) (hy : Rd e y v) (h : eqA cst d x y = some b) (w : World) (n : Nat) :
    (Op.equalIn (n + 1) t u v).run C.P w = .ok b w := by
  cases d <;> cases x <;> simp only [eqA, reduceCtorEq] at h <;> cases y <;> simp only [eqA, reduceCtorEq, Option.some.injEq] at h <;> cases hx <;> cases hy <;> (try split at h) <;> (try cases h) <;> simp [Op.equalIn, run_underlying hu]

theorem eqA_guard {cst : Bool} {d : TypeDesc} {x y : AV} {u v : Value} {b : Bool} (hx : Rd e x u) (hy : Rd e y v) (h : eqA cst d x y = some b) (op : BinOp) (t : TypeId) (p q : Operand) (hc : cst = (isCst p || isCst q)) (P : Program) (w : World) :
    (eqGuard op t p q u v).run P w = .ok () w := by
  cases d <;> cases x <;> simp only [eqA, reduceCtorEq] at h <;> cases y <;> simp only [eqA, reduceCtorEq, Option.some.injEq] at h <;> cases hx <;> cases hy <;> (try split at h) <;> (try cases h) <;>
    first
    | (cases op <;> rfl)
    | (rename_i hcs
       rw [hc] at hcs
       cases p <;> cases q <;> simp [isCst] at hcs <;> cases op <;> rfl)

theorem binOp_intA {op : BinOp} {k : IntKind} {a b : Int} {r : AV} (h : intA op k a b = some r) (t : TypeId) (hs : op ≠ .shl) (hr : op ≠ .shr) (P : Program) (w : World) : ∃ v, (binOp op t (.int k a) (.int k b)).run P w = .ok v w ∧ Rd e r v := by
  cases op <;> simp only [intA, reduceCtorEq, Option.some.injEq] at h
  case quo =>
    split at h
    · cases h
    · rename_i hb
      cases h
      exact ⟨_, by simp [binOp, Op.intDiv, hb], .int _ _⟩
  case rem =>
    split at h
    · cases h
    · rename_i hb
      cases h
      exact ⟨_, by simp [binOp, Op.intDiv, hb], .int _ _⟩
  all_goals
    subst h
    exact ⟨_, by simp only [binOp, ne_eq, not_true_eq_false, if_false, Op.intArith, Op.intBits, Op.intCmp, Sem.run_pure]; rfl, by constructor⟩

theorem binA_ok {op : BinOp} {t : TypeId} {x y r : AV} {u v : Value} (hx : Rd e x u) (hy : Rd e y v) (p q : Operand) (h : binA C op t (isCst p || isCst q) x y = some r) :
    ∃ z, ((do eqGuard op t p q u v; binOp op t u v : Sem Value)).run C.P e.w = .ok z e.w ∧ Rd e r z := by
  unfold binA at h
  split at h
  · -- numbers
    rename_i k a k' b
    cases hx; cases hy
    have hg : eqGuard op t p q (.int k a) (.int k' b) = pure () := eqGuard_at_int _ _ _ _ _ _ _
    rw [hg]
    split at h
    · split at h
      case isFalse => cases h
      rename_i h0
      cases h
      have : ¬ b < 0 := by omega
      exact ⟨_, by simp [binOp, Op.shift, this], .int _ _⟩
    · split at h
      case isFalse => cases h
      rename_i h0
      cases h
      have : ¬ b < 0 := by omega
      exact ⟨_, by simp [binOp, Op.shift, this], .int _ _⟩
    · rename_i hs1 hs2
      split at h
      case isFalse => cases h
      rename_i hk
      subst hk
      obtain ⟨z, hz, hr⟩ := binOp_intA (e := e) h t (fun hh => hs1 hh) (fun hh => hs2 hh) C.P e.w
      exact ⟨z, by simp [hz], hr⟩
  · -- strings
    rename_i a b
    cases hx; cases hy
    have hg : eqGuard op t p q (.string a) (.string b) = pure () := eqGuard_at_string _ _ _ _ _ _
    rw [hg]
    split at h
    · split at h
      case isTrue => cases h
      rename_i hn
      cases h
      exact ⟨.string (a ++ b), by
        have h1 : ¬ ((9223372036854775807 : Int) < (a.size : Int) + (b.size : Int)) := by simpa using hn
        simp [binOp, Op.stringOp, h1], .str _⟩
    · cases h
      exact ⟨_, by simp only [Sem.run_bind, Sem.run_pure, Result.andThen_ok, binOp, Op.stringOp, ByteArray.toList_eq], .bool _⟩
    · cases h
      exact ⟨_, by simp only [Sem.run_bind, Sem.run_pure, Result.andThen_ok, binOp, Op.stringOp, ByteArray.toList_eq], .bool _⟩
    · cases h
  · -- structs
    rename_i xs ys
    cases hx with
    | agg _ us hn hr =>
    cases hy with
    | agg _ vs hn' hr' =>
    have ha : CellsRd e xs us.toList := ⟨by simpa using hn, fun i x v hx hv => hr i x v hx (by simpa using hv)⟩
    have hb : CellsRd e ys vs.toList := ⟨by simpa using hn', fun i x v hx hv => hr' i x v hx (by simpa using hv)⟩
    have key : ∀ ds r, flatT C t = some ds → eqDs ds xs ys = some r → C.P.eqGuardType C.P.depth t = false ∧ (Op.equalIn 10000 t (.agg us) (.agg vs)).run C.P e.w = .ok r e.w := by
      intro ds r hds hr
      unfold flatT at hds
      split at hds
      case h_2 => cases hds
      rename_i fields hu
      split at hds
      case isFalse => cases hds
      rename_i hcond
      have hfo : C.P.fieldsOf t = fields := by simp [Program.fieldsOf, hu]
      refine ⟨hcond.2, ?_⟩
      rw [run_equalIn_struct e.w 9999 t us vs (by rw [hu, hfo]) hcond.1, hfo]
      exact flatFrom_ok 9998 us vs xs ys ha hb e.w fields.toList 0 ds r hds (by simpa using hr)
    split at h
    · rename_i ds hds
      simp only [Option.map_eq_some_iff] at h
      obtain ⟨b, hb, rfl⟩ := h
      obtain ⟨h1, h2⟩ := key ds b hds hb
      exact ⟨.bool b, by rw [Sem.run_bind, run_eqGuard_agg e.w _ t p q us vs h1, Result.andThen_ok, run_eql_struct, h2]; rfl, .bool _⟩
    · rename_i ds hds
      simp only [Option.map_eq_some_iff] at h
      obtain ⟨b, hb, rfl⟩ := h
      obtain ⟨h1, h2⟩ := key ds b hds hb
      exact ⟨.bool !b, by rw [Sem.run_bind, run_eqGuard_agg e.w _ t p q us vs h1, Result.andThen_ok, run_neq_struct, h2]; rfl, .bool _⟩
    · cases h
  · -- nil, bools
    rename_i n1 n2 n3
    split at h
    · rename_i d hu
      simp only [Option.map_eq_some_iff] at h
      obtain ⟨b, hb, rfl⟩ := h
      have h1 := eqA_guard hx hy hb .eql t p q rfl C.P e.w
      have h2 := eqA_ok hu hx hy hb e.w 9999
      refine ⟨.bool b, ?_, .bool _⟩
      rw [Sem.run_bind, h1, Result.andThen_ok]
      cases d <;> cases x <;> simp only [eqA, reduceCtorEq] at hb <;> cases y <;> simp only [eqA, reduceCtorEq] at hb <;> cases hx <;> cases hy <;> simp [binOp, Op.equal, Op.maxDepth, h2]
    · rename_i d hu
      simp only [Option.map_eq_some_iff] at h
      obtain ⟨b, hb, rfl⟩ := h
      have h1 := eqA_guard hx hy hb .neq t p q rfl C.P e.w
      have h2 := eqA_ok hu hx hy hb e.w 9999
      refine ⟨.bool !b, ?_, .bool _⟩
      rw [Sem.run_bind, h1, Result.andThen_ok]
      cases d <;> cases x <;> simp only [eqA, reduceCtorEq] at hb <;> cases y <;> simp only [eqA, reduceCtorEq] at hb <;> cases hx <;> cases hy <;> simp [binOp, Op.equal, Op.maxDepth, h2]
    · cases h

theorem unA_ok {op : UnOp} {x r : AV} {u : Value} (hx : Rd e x u) (h : unA op x = some r) : ∃ z, (Op.unary op u).run C.P e.w = .ok z e.w ∧ Rd e r z := by
  unfold unA at h
  split at h
  · cases hx; cases h
    exact ⟨_, by simp only [Op.unary, Op.intArith, Sem.run_pure], .int _ _⟩
  · cases hx; cases h
    exact ⟨_, by simp only [Op.unary, Sem.run_pure], .bool _⟩
  · cases h

theorem convA_ok {src dst : TypeId} {x r : AV} {u : Value} (hx : Rd e x u) (h : convA C src dst x = some r) : ∃ z, (convert src dst u).run C.P e.w = .ok z e.w ∧ Rd e r z := by
  unfold convA at h
  split at h
  · rename_i d k k' n hs hd
    cases hx; cases h
    exact ⟨_, by simp [convert, run_underlying hs, run_underlying hd, Conv.intToInt], .int _ _⟩
  · rename_i d s hs hd
    cases hx; cases h
    exact ⟨_, by cases d <;> simp [convert, run_underlying hs, run_underlying hd] <;> rfl, .str _⟩
  · rename_i k k' n hs hd
    cases hx; cases h
    exact ⟨_, by simp [convert, run_underlying hs, run_underlying hd, Conv.intToString], .str _⟩
  · cases h

end Go.Proofs.YtkddphdhcejdaaaDoor.AI
