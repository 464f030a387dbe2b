/-
  The library's contracts, as the interpreter asks for them.
-/
import Derived.Test.YtkddphdhcejdaaaDoorAiW
import Derived.Lib.LaidTab
import Derived.Lib.AppendIntMem
import Derived.Lib.ConvBytes
import Derived.Lib.ItoaNum
set_option linter.unusedVariables false
namespace Go.Proofs.YtkddphdhcejdaaaDoor.AI
open Go.RowKit
variable {C : Cfg} {B : Nat} {e : E} {hp : Hp}

def PrimSpec (C : Cfg) (B : Nat) (f : FuncId) (F : List AV → Hp → Option (AV × Hp)) : Prop := ∀ args hp r hp' e (vs : Array Value), F args hp = some (r, hp') → Sim B e hp → GlOk C e → CellsRd e args vs.toList →
  CanEnter C.P f ∧ CallsIn Fence.wide 0 C.P f vs e.w (Post B e r hp')

theorem var_of_gl (hg : GlOk C e) {g : Nat} {cs : List AV} (hc : C.gl g = some cs) {name : String} (hn : C.P.globalNamed name = some g) : ∃ vs : Array Value, e.w.var? C.P name = some vs ∧ CellsRd e cs vs.toList := by
  obtain ⟨h1, vs, t, z, h2, h3⟩ := hg g cs hc
  refine ⟨vs, by simp [World.var?, hn, h2], by simpa using h3, fun i x v hx hv => ?_⟩
  cases h1 with
  | elem _ _ vf hcell hr =>
    have hi := (List.getElem?_eq_some_iff.1 hx).1
    have h4 := (hcell i hi).2
    have h5 : vs[i]? = some v := by simpa using hv
    rw [spot_add] at h4
    simp only [Nat.zero_add, World.cell?, h2] at h4
    rw [h5] at h4
    have h6 : v = vf i := by simpa using h4
    rw [h6]
    exact hr i x hx

theorem tab_of_gl (hg : GlOk C e) {g : Nat} {k : IntKind} {zs : List Int} (hc : C.gl g = some (zs.map fun z => .int k z)) {name : String} (hn : C.P.globalNamed name = some g) : Lib.TabIs C.P e.w name k zs := by
  obtain ⟨vs, h1, h2, h3⟩ := var_of_gl hg hc hn
  rw [Lib.TabIs, h1]
  congr 1
  apply Array.ext_getElem?
  intro i
  have hl : vs.size = zs.length := by simpa using h2
  by_cases hi : i < zs.length
  · have := h3 i (.int k zs[i]) vs[i] (by simp [hi]) (by simp [hl, hi])
    rw [Array.getElem?_eq_getElem (by omega)]
    generalize vs[i] = v at this
    cases this
    simp [hi]
  · rw [Array.getElem?_eq_none (by omega)]
    simp [hi]

theorem err_of_gl (hg : GlOk C e) {g : Nat} (hc : C.gl g = some [.errv]) {name : String} (hn : C.P.globalNamed name = some g) : ∃ t v, e.w.var? C.P name = some #[.iface t v] := by
  obtain ⟨vs, h1, h2, h3⟩ := var_of_gl hg hc hn
  have hl : vs.size = 1 := by simpa using h2
  obtain ⟨v, rfl⟩ := Array.size_eq_one_iff.1 hl
  have := h3 0 .errv v rfl rfl
  cases this
  exact ⟨_, _, h1⟩

theorem args1 {x : AV} {vs : Array Value} (h : CellsRd e [x] vs.toList) : ∃ v, vs = #[v] ∧ Rd e x v := by
  obtain ⟨l⟩ := vs
  match l, h with
  | [v], h => exact ⟨v, rfl, h.2 0 x v rfl rfl⟩
  | [], h => simp [CellsRd] at h
  | _ :: _ :: _, h => simp [CellsRd] at h
theorem args2 {x y : AV} {vs : Array Value} (h : CellsRd e [x, y] vs.toList) : ∃ v u, vs = #[v, u] ∧ Rd e x v ∧ Rd e y u := by
  obtain ⟨l⟩ := vs
  match l, h with
  | [v, u], h => exact ⟨v, u, rfl, h.2 0 x v rfl rfl, h.2 1 y u rfl rfl⟩
  | [], h => simp [CellsRd] at h
  | [_], h => simp [CellsRd] at h
  | _ :: _ :: _ :: _, h => simp [CellsRd] at h
theorem args3 {x y z : AV} {vs : Array Value} (h : CellsRd e [x, y, z] vs.toList) : ∃ v u s, vs = #[v, u, s] ∧ Rd e x v ∧ Rd e y u ∧ Rd e z s := by
  obtain ⟨l⟩ := vs
  match l, h with
  | [v, u, s], h => exact ⟨v, u, s, rfl, h.2 0 x v rfl rfl, h.2 1 y u rfl rfl, h.2 2 z s rfl rfl⟩
  | [], h => simp [CellsRd] at h
  | [_], h => simp [CellsRd] at h
  | [_, _], h => simp [CellsRd] at h
  | _ :: _ :: _ :: _ :: _, h => simp [CellsRd] at h

theorem tup2 {x y : AV} {v u : Value} (h1 : Rd e x v) (h2 : Rd e y u) : Rd e (.tup [x, y]) (.tuple #[v, u]) := .tup _ _ rfl (fun i p q hp hq => by
  match i with
  | 0 => simp at hp hq; subst hp hq; exact h1
  | 1 => simp at hp hq; subst hp hq; exact h2
  | i + 2 => simp at hp)

theorem pFormatInt_ok {f : FuncId} (hce : CanEnter C.P f) {g : Nat} (hn : C.P.globalNamed "internal/strconv.uint64pow10" = some g) (hgl : C.gl g = some (Lib.pow10Tab.map fun z => .int .u64 z))
    (hc : ∀ (n : Int) (w : World), -9223372036854775808 ≤ n → n ≤ 9223372036854775807 → Lib.TabIs C.P w "internal/strconv.uint64pow10" .u64 Lib.pow10Tab →
      Calls C.P f #[.int .i64 n, .int .i64 10] w fun e w' => e = .returned (.string ⟨(Lib.itoa n).toArray⟩) ∧ ∃ k os, w' = Go.Sort.grow (w.drewN k) os) : PrimSpec C B f pFormatInt := by
  intro args hp r hp' e vs hx h hg ha
  refine ⟨hce, ?_⟩
  unfold pFormatInt at hx
  split at hx
  case h_2 => cases hx
  rename_i n
  split at hx
  case isFalse => cases hx
  rename_i hr
  cases hx
  obtain ⟨v, u, rfl, h1, h2⟩ := args2 ha
  cases h1; cases h2
  refine prim_of (R := fun v => v = .string ⟨(Lib.itoa n).toArray⟩) ((hc n e.w hr.1 hr.2 (tab_of_gl hg hgl hn)).mono ?_) h (fun e' v _ hv => by rw [hv]; exact .str _)
  rintro en w' ⟨rfl, k, os, rfl⟩
  exact ⟨_, rfl, rfl, Lib.below_grow _ _ (Nat.le_refl _) _ _⟩

theorem pIndexRune_ok {f : FuncId} (hce : CanEnter C.P f)
    (hc : ∀ (s : ByteArray) (r : Int) (w : World), 0 ≤ r → r < 128 → Calls C.P f #[.string s, .int .i32 r] w fun e w' => e = .returned (.int .i64 (Lib.indexByte s.data.toList r.toNat.toUInt8)) ∧ w' = w) : PrimSpec C B f pIndexRune := by
  intro args hp r hp' e vs hx h hg ha
  refine ⟨hce, ?_⟩
  unfold pIndexRune at hx
  split at hx
  case h_2 => cases hx
  rename_i s n
  split at hx
  case isFalse => cases hx
  rename_i hr
  cases hx
  obtain ⟨v, u, rfl, h1, h2⟩ := args2 ha
  cases h1; cases h2
  refine prim_of (R := fun v => v = .int .i64 (Lib.indexByte s.data.toList n.toNat.toUInt8)) ((hc s n e.w hr.1 hr.2).mono ?_) h (fun e' v _ hv => by rw [hv]; exact .int _ _)
  rintro en w' ⟨rfl, rfl⟩
  exact ⟨_, rfl, rfl, .refl _ _⟩

theorem pItoa_ok {f : FuncId} (hce : CanEnter C.P f) {g : Nat} (hn : C.P.globalNamed "internal/strconv.uint64pow10" = some g) (hgl : C.gl g = some (Lib.pow10Tab.map fun z => .int .u64 z))
    (hc : ∀ (n : Int) (w : World), -9223372036854775808 ≤ n → n ≤ 9223372036854775807 → Lib.TabIs C.P w "internal/strconv.uint64pow10" .u64 Lib.pow10Tab →
      Calls C.P f #[.int .i64 n] w fun e w' => e = .returned (.string ⟨(Lib.itoa n).toArray⟩) ∧ ∃ k os, w' = Go.Sort.grow (w.drewN k) os) : PrimSpec C B f pItoa := by
  intro args hp r hp' e vs hx h hg ha
  refine ⟨hce, ?_⟩
  unfold pItoa at hx
  split at hx
  case h_2 => cases hx
  rename_i n
  split at hx
  case isFalse => cases hx
  rename_i hr
  cases hx
  obtain ⟨v, rfl, h1⟩ := args1 ha
  cases h1
  refine prim_of (R := fun v => v = .string ⟨(Lib.itoa n).toArray⟩) ((hc n e.w hr.1 hr.2 (tab_of_gl hg hgl hn)).mono ?_) h (fun e' v _ hv => by rw [hv]; exact .str _)
  rintro en w' ⟨rfl, k, os, rfl⟩
  exact ⟨_, rfl, rfl, Lib.below_grow _ _ (Nat.le_refl _) _ _⟩

theorem below_freeze (B : Nat) (w : World) (a : Addr) (n : Nat) (hB : B ≤ a.block) : Below B w (w.freeze a n) := by
  unfold World.freeze
  split
  · exact .refl _ _
  · refine ⟨rfl, rfl, rfl, by simp, fun k hk => ?_⟩
    show (w.heap.modify a.block _)[k]? = _
    rw [Array.getElem?_modify, if_neg (by omega)]

theorem below_bytesWorld (w : World) (t : TypeId) (s : ByteArray) : Below w.heap.size w (Lib.bytesWorld w t s) := by
  have h1 : Below w.heap.size w (w.drew.alloc (.cells (Lib.bytesCells w t s) t)) := (Below.refl w.heap.size w).drew.alloc (Nat.le_refl _) _
  exact h1.trans (below_freeze _ _ _ _ (Nat.le_refl _))

theorem pParseInt_ok {f : FuncId} (hce : CanEnter C.P f) {g1 g2 : Nat} (hn1 : C.P.globalNamed "strconv.ErrSyntax" = some g1) (hn2 : C.P.globalNamed "strconv.ErrRange" = some g2) (hgl1 : C.gl g1 = some [.errv]) (hgl2 : C.gl g2 = some [.errv]) (tb te : TypeId)
    (hok : ∀ (s : ByteArray), s.size ≤ 9223372036854775806 → ∀ (v : Int), Lib.parseIntB 64 s.data.toList = .ok v → ∀ (w : World), Calls C.P f #[.string s, .int .i64 10, .int .i64 64] w fun e w' => e = .returned (.tuple #[.int .i64 v, .nilIface]) ∧ (w' = w ∨ ∃ t, w' = Lib.bytesWorld w tb t))
    (hsyn : ∀ (s : ByteArray), s.size ≤ 281474976710656 → Lib.parseIntB 64 s.data.toList = Lib.parseIntB 64 [] → ∀ (tp : TypeId) (p : Value) (w : World), w.var? C.P "strconv.ErrSyntax" = some #[.iface tp p] →
      Calls C.P f #[.string s, .int .i64 10, .int .i64 64] w fun e w' => ∃ N, e = .returned (.tuple #[.int .i64 (0), .iface te (.pointer (some ⟨N, 0, none⟩))]) ∧ Below w.heap.size w w')
    (hrng : ∀ (s : ByteArray), s.size ≤ 281474976710656 → Lib.parseIntB 64 s.data.toList = .range → ∀ (tp : TypeId) (p : Value) (w : World), w.var? C.P "strconv.ErrRange" = some #[.iface tp p] →
      Calls C.P f #[.string s, .int .i64 10, .int .i64 64] w fun e w' => ∃ N, e = .returned (.tuple #[.int .i64 (Lib.intSat 64 s.data.toList), .iface te (.pointer (some ⟨N, 0, none⟩))]) ∧ Below w.heap.size w w') : PrimSpec C B f pParseInt := by
  intro args hp r hp' e vs hx h hg ha
  refine ⟨hce, ?_⟩
  unfold pParseInt at hx
  split at hx
  case h_2 => cases hx
  rename_i s
  split at hx
  case isFalse => cases hx
  rename_i hs
  obtain ⟨v, u, t, rfl, h1, h2, h3⟩ := args3 ha
  cases h1; cases h2; cases h3
  split at hx
  · rename_i v hv
    cases hx
    refine prim_of (R := fun u => u = .tuple #[.int .i64 v, .nilIface]) ((hok s (by omega) v hv e.w).mono ?_) h (fun e' u _ hu => by rw [hu]; exact tup2 (.int _ _) .nili)
    rintro en w' ⟨rfl, hw⟩
    refine ⟨_, rfl, rfl, ?_⟩
    rcases hw with rfl | ⟨t, rfl⟩
    · exact .refl _ _
    · exact below_bytesWorld _ _ _
  · rename_i hv
    cases hx
    obtain ⟨tp, p, hvar⟩ := err_of_gl hg hgl2 hn2
    refine prim_of (R := fun u => ∃ q, u = .tuple #[.int .i64 (Lib.intSat 64 s.data.toList), .iface te q]) ((hrng s hs hv tp p e.w hvar).mono ?_) h (fun e' u _ ⟨q, hu⟩ => by rw [hu]; exact tup2 (.int _ _) (.errv _ _))
    rintro en w' ⟨N, rfl, hb⟩
    exact ⟨_, rfl, ⟨_, rfl⟩, hb⟩
  · rename_i hok' hrng'
    cases hx
    have hv : Lib.parseIntB 64 s.data.toList = Lib.parseIntB 64 [] := by
      generalize Lib.parseIntB 64 s.data.toList = z at *
      cases z with
      | ok v => exact absurd rfl (hok' v)
      | range => exact absurd rfl hrng'
      | _ => rfl
    obtain ⟨tp, p, hvar⟩ := err_of_gl hg hgl1 hn1
    refine prim_of (R := fun u => ∃ q, u = .tuple #[.int .i64 0, .iface te q]) ((hsyn s hs hv tp p e.w hvar).mono ?_) h (fun e' u _ ⟨q, hu⟩ => by rw [hu]; exact tup2 (.int _ _) (.errv _ _))
    rintro en w' ⟨N, rfl, hb⟩
    exact ⟨_, rfl, ⟨_, rfl⟩, hb⟩

theorem pRepeat_ok {f : FuncId} (hce : CanEnter C.P f)
    (hc : ∀ (s : ByteArray) (c : Nat) (w : World), 2 ≤ c → c ≤ 9223372036854775807 → s.size * c ≤ 140737488355328 → 0 < s.size → Calls C.P f #[.string s, .int .i64 c] w fun e w' => e = .returned (.string ⟨(Lib.repeatL s.data.toList c).toArray⟩) ∧ Below w.heap.size w w') : PrimSpec C B f pRepeat := by
  intro args hp r hp' e vs hx h hg ha
  refine ⟨hce, ?_⟩
  unfold pRepeat at hx
  split at hx
  case h_2 => cases hx
  rename_i s n
  split at hx
  case isFalse => cases hx
  rename_i hr
  cases hx
  obtain ⟨v, u, rfl, h1, h2⟩ := args2 ha
  cases h1; cases h2
  obtain ⟨c, rfl⟩ : ∃ c : Nat, n = c := ⟨n.toNat, by omega⟩
  have hm : s.size * c ≤ 65536 * 65536 := Nat.mul_le_mul hr.2.2.2 (by omega)
  refine prim_of (R := fun v => v = .string ⟨(Lib.repeatL s.data.toList c).toArray⟩) ((hc s c e.w (by omega) (by omega) (by omega) hr.2.2.1).mono ?_) h (fun e' v _ hv => by rw [hv]; exact .str _)
  rintro en w' ⟨rfl, hb⟩
  exact ⟨_, rfl, rfl, hb⟩

theorem pCount_ok {f : FuncId} (hce : CanEnter C.P f)
    (hc : ∀ (s : ByteArray) (c : UInt8) (w : World), Calls C.P f #[.string s, .string ⟨#[c]⟩] w fun e w' => e = .returned (.int .i64 (Lib.countByte s.data.toList c)) ∧ w' = w) : PrimSpec C B f pCount := by
  intro args hp r hp' e vs hx h hg ha
  refine ⟨hce, ?_⟩
  unfold pCount at hx
  split at hx
  case h_2 => cases hx
  rename_i s t
  split at hx
  case h_2 => cases hx
  rename_i c hct
  cases hx
  obtain ⟨v, u, rfl, h1, h2⟩ := args2 ha
  cases h1; cases h2
  obtain rfl : t = ⟨#[c]⟩ := by
    obtain ⟨⟨l⟩⟩ := t
    simp at hct
    subst hct
    rfl
  refine prim_of (R := fun v => v = .int .i64 (Lib.countByte s.data.toList c)) ((hc s c e.w).mono ?_) h (fun e' v _ hv => by rw [hv]; exact .int _ _)
  rintro en w' ⟨rfl, rfl⟩
  exact ⟨_, rfl, rfl, .refl _ _⟩

theorem pIndexByte_ok {f : FuncId} (hce : CanEnter C.P f)
    (hc : ∀ (s : ByteArray) (c : Int) (w : World), Calls C.P f #[.string s, .int .u8 c] w fun e w' => e = .returned (.int .i64 (Lib.indexByte s.data.toList c.toNat.toUInt8)) ∧ w' = w) : PrimSpec C B f pIndexByte := by
  intro args hp r hp' e vs hx h hg ha
  refine ⟨hce, ?_⟩
  unfold pIndexByte at hx
  split at hx
  case h_2 => cases hx
  rename_i s c
  cases hx
  obtain ⟨v, u, rfl, h1, h2⟩ := args2 ha
  cases h1; cases h2
  refine prim_of (R := fun v => v = .int .i64 (Lib.indexByte s.data.toList c.toNat.toUInt8)) ((hc s c e.w).mono ?_) h (fun e' v _ hv => by rw [hv]; exact .int _ _)
  rintro en w' ⟨rfl, rfl⟩
  exact ⟨_, rfl, rfl, .refl _ _⟩

/-- A Builder's check of its own address. -/
theorem pCopyCheck_ok {f : FuncId} (bt : TypeId) (hce : CanEnter C.P f)
    (hused : ∀ (b : Nat) (w : World), w.cell? ⟨b, 0, none⟩ = some (.pointer (some ⟨b, 0, none⟩)) → Calls C.P f #[.pointer (some ⟨b, 0, none⟩)] w fun e w' => e = .returned (.tuple #[]) ∧ w' = w)
    (hfresh : ∀ (b : Nat) (w : World) (v : Value), w.heap[b]? = some (.cells #[.pointer none, v] bt (0, 0)) → Calls C.P f #[.pointer (some ⟨b, 0, none⟩)] w fun e w' => e = .returned (.tuple #[]) ∧ w' = w.setCell ⟨b, 0, none⟩ (.pointer (some ⟨b, 0, none⟩))) :
    PrimSpec C B f (pCopyCheck bt) := by
  intro args hp r hp' e vs hx h hg ha
  refine ⟨hce, ?_⟩
  unfold pCopyCheck at hx
  split at hx
  case h_2 => cases hx
  rename_i b
  obtain ⟨v, rfl, h1⟩ := args1 ha
  cases h1 with
  | box _ _ k hb =>
  obtain ⟨_, _, cs, us, t, h3, h4, h5, h6⟩ := h.box b k hb
  have hcell : e.w.cell? ⟨k, 0, none⟩ = us[0]? := by simp [World.cell?, h4]
  split at hx
  · rename_i y t' hcs
    rw [h3] at hcs
    cases hcs
    split at hx
    case isFalse => cases hx
    rename_i hbt
    subst hbt
    cases hx
    obtain ⟨l⟩ := us
    match l, h5 with
    | [u0, u1], h5 =>
      have hr0 := h6 0 .nilp u0 rfl rfl
      have hr1 := h6 1 y u1 rfl rfl
      cases hr0
      obtain ⟨e', hw, hs, had⟩ := step_put h b k hb [.box b 0, y] #[.pointer (some ⟨k, 0, none⟩), u1] t _ h4 rfl rfl (fun i x v hx hv => by
        match i with
        | 0 => simp at hx hv; subst hx hv; exact .box _ _ _ hb
        | 1 => simp at hx hv; subst hx hv; exact hr1
        | i + 2 => simp at hx)
      refine callsIn_wide.2 ((hfresh k e.w u1 h4).mono ?_)
      rintro en w' ⟨rfl, rfl⟩
      refine ⟨e', _, ?_, rfl, .tup [] #[] rfl (fun i x v hx => by simp at hx), hs, had⟩
      rw [hw, setCell_put e.w k _ t h4]
      rfl
  · rename_i b' y t' hcs
    rw [h3] at hcs
    cases hcs
    split at hx
    case isFalse => cases hx
    rename_i hbb
    subst hbb
    cases hx
    obtain ⟨l⟩ := us
    match l, h5 with
    | [u0, u1], h5 =>
      have hr0 := h6 0 (.box b' 0) u0 rfl rfl
      cases hr0 with
      | box _ _ k' hb' =>
        rw [hb] at hb'
        cases hb'
        refine callsIn_wide.2 ((hused k e.w (by rw [hcell]; rfl)).mono ?_)
        rintro en w' ⟨rfl, rfl⟩
        exact ⟨e, _, rfl, rfl, .tup [] #[] rfl (fun i x v hx => by simp at hx), h, .refl e⟩
  · cases hx

end Go.Proofs.YtkddphdhcejdaaaDoor.AI
