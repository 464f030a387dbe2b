/-
  The package value: what its functions answer, for every input.
-/
import Derived.Test.YtkddphdhcejdaaaDoorFa
set_option linter.unusedVariables false
namespace Go.Proofs.YtkddphdhcejdaaaDoor
open Go.RowKit Go.Proofs

theorem get_mid {α : Type} (pre post : List α) (x : α) : (pre ++ x :: post)[((pre.length : Int)).toNat]? = some x := by simp
theorem get_mid' {α : Type} {l pre post : List α} {x : α} (h : l = pre ++ x :: post) : l[((pre.length : Int)).toNat]? = some x := by rw [h]; exact get_mid pre post x
theorem mid_len {α : Type} {l pre post : List α} {x : α} (h : l = pre ++ x :: post) : (pre.length : Int) < l.length := by rw [h]; simp; omega
theorem snoc_len {α : Type} (pre : List α) (x : α) : ((pre.length : Int) + 1) = ((pre ++ [x]).length : Int) := by simp
theorem snoc_eq {α : Type} {l pre post : List α} {x : α} (h : l = pre ++ x :: post) : l = (pre ++ [x]) ++ post := by rw [h]; simp

/-! Types -/
def tyL : List UInt8 → Option (List Int)
  | [] => some []
  | b :: bs => if known (tyOf b.toNat) = true then (tyL bs).map (tyOf b.toNat :: ·) else none

theorem known_neg : known (-1) = false := by decide

theorem get_bang {s : ByteArray} {pre bs : List UInt8} {b : UInt8} (h : s.data.toList = pre ++ b :: bs) : s.get! pre.length = b := by
  have h1 : s.data[pre.length]? = some b := by rw [← Array.getElem?_toList, h]; simp
  show s.data[pre.length]! = b
  rw [getElem!_def, h1]

theorem decode_mid {s : ByteArray} {pre bs : List UInt8} {b : UInt8} (h : s.data.toList = pre ++ b :: bs) :
    (b.toNat < 128 → Utf8.decode s pre.length = (b.toNat, 1)) ∧ (128 ≤ b.toNat → 128 ≤ (Utf8.decode s pre.length).1) := by
  have hb := get_bang h
  constructor
  · intro h1
    unfold Utf8.decode
    simp only [Nat.add_zero, hb]
    rw [if_pos h1]
  · intro h1
    unfold Utf8.decode
    simp only [Nat.add_zero, hb]
    rw [if_neg (by omega)]
    have he : 128 ≤ Utf8.runeError := by decide
    split
    · split
      · assumption
      · exact he
    · split
      · split
        · rename_i hc; simp only [Bool.and_eq_true, decide_eq_true_eq] at hc; show 128 ≤ _; have := hc.1; omega
        · exact he
      · split
        · split
          · rename_i hc; simp only [Bool.and_eq_true, decide_eq_true_eq] at hc; show 128 ≤ _; have := hc.1; omega
          · exact he
        · exact he

theorem tyOf_big {c : Nat} (h : 128 ≤ c) : tyOf c = -1 := by unfold tyOf; rw [if_neg (by omega)]

abbrev tyEnv (acc : List Int) : List AI.AV := AI.mkEnv 26 [(4, .own 1 (acc.map I)), (9, .iter 0)]

/-- The element type of a row that was appended to. -/
def elOf : List Int → Option Nat → Option Nat
  | [], el => el
  | _ :: _, _ => some 3

theorem ty_loop (s : ByteArray) (hs : s.size ≤ 100000) : ∀ (bs pre : List UInt8) (acc : List Int) (el : Option Nat), s.data.toList = pre ++ bs → (acc = [] ∨ el = some 3) → acc.length ≤ pre.length →
    (∀ ts, tyL bs = some ts → ∃ el', el' = elOf ts el ∧ AI.LoopE C 11 0 0 2 1 (tyEnv acc) (tyHp acc.length el s pre.length) (.exit 0) (AI.mkEnv 26 [(4, .own 1 ((acc ++ ts).map I))]) (tyHp (acc ++ ts).length el' s s.size)) ∧
    (tyL bs = none → ∃ (acc' : List Int) (el' : Option Nat) (pos' : Nat), AI.LoopE C 11 0 0 2 1 (tyEnv acc) (tyHp acc.length el s pre.length) .ret (AI.mkEnv 26 [(2, .own 2 []), (3, I 20), (4, .own 1 (acc'.map I))]) (tyBad acc'.length el' s pos')) := by
  intro bs
  have hsz : ∀ {l : List UInt8}, s.data.toList = l → s.size = l.length := fun h => by rw [← h]; rfl
  induction bs with
  | nil =>
    intro pre acc el h hel hlen
    have := hsz h
    simp only [List.append_nil] at this
    refine ⟨fun ts ht => ?_, fun ht => by simp [tyL] at ht⟩
    cases ht
    refine ⟨el, rfl, ?_⟩
    rw [List.append_nil, this]
    exact ty_done s pre.length acc el (by omega)
  | cons b bs ih =>
    intro pre acc el h hel hlen
    have hsize := hsz h
    simp only [List.length_append, List.length_cons] at hsize
    have hlt : pre.length < s.size := by omega
    obtain ⟨d1, d2⟩ := decode_mid h
    by_cases hb : b.toNat < 128
    · have hd := d1 hb
      by_cases hk : known (tyOf b.toNat) = true
      · obtain ⟨i1, i2⟩ := ih (pre ++ [b]) (acc ++ [tyOf b.toNat]) (some 3) (by rw [h]; simp) (.inr rfl) (by simp; omega)
        have e1 : (acc ++ [tyOf b.toNat]).length = acc.length + 1 := by simp
        have e2 : (pre ++ [b]).length = pre.length + 1 := by simp
        rw [e1, e2] at i1 i2
        constructor
        · intro ts ht
          simp only [tyL, hk, if_true, Option.map_eq_some_iff] at ht
          obtain ⟨ts', h1, rfl⟩ := ht
          obtain ⟨el', he, h2⟩ := i1 ts' h1
          refine ⟨el', by rw [he]; cases ts' <;> rfl, ?_⟩
          have := ty_step s pre.length 1 b.toNat acc el hel (by omega) hlt hd hk _ _ _ h2
          simpa using this
        · intro ht
          simp only [tyL, hk, if_true, Option.map_eq_none_iff] at ht
          obtain ⟨acc', el', pos', h2⟩ := i2 ht
          exact ⟨acc', el', pos', ty_step s pre.length 1 b.toNat acc el hel (by omega) hlt hd hk _ _ _ h2⟩
      · have hk : known (tyOf b.toNat) = false := by simpa using hk
        refine ⟨fun ts ht => by simp [tyL, hk] at ht, fun _ => ⟨acc, el, _, ty_bad s pre.length 1 b.toNat acc el hlt hd hk⟩⟩
    · have hk : known (tyOf b.toNat) = false := by rw [tyOf_big (by omega)]; exact known_neg
      refine ⟨fun ts ht => by simp [tyL, hk] at ht, fun _ => ⟨acc, el, _, ty_bad s pre.length _ _ acc el hlt (Prod.eta _).symm ?_⟩⟩
      rw [tyOf_big (d2 (by omega))]
      exact known_neg

def typesF (s : ByteArray) : Option (List Int) := match tyL s.data.toList with
  | some ts => if ts.length ≤ 1024 then some ts else none
  | none => none

theorem types_some' {s : ByteArray} {ts : List Int} (hs : s.size ≤ 100000) (h : typesF s = some ts) : AI.CoreE C 11 [.str s] h0 (.tup [.own 0 (ts.map I), I 0]) (h1 ts.length (elOf ts none)) := by
  unfold typesF at h
  split at h
  · rename_i ts' ht
    split at h
    · rename_i hl
      cases h
      obtain ⟨el, he, h1⟩ := (ty_loop s hs s.data.toList [] [] none rfl (.inl rfl) (Nat.le_refl _)).1 _ ht
      subst he
      exact types_ok s _ _ hl h1
    · cases h
  · cases h

theorem types_some {s : ByteArray} {ts : List Int} (hs : s.size ≤ 100000) (h : typesF s = some ts) : ∃ el, AI.CoreE C 11 [.str s] h0 (.tup [.own 0 (ts.map I), I 0]) (h1 ts.length el) := ⟨_, types_some' hs h⟩

theorem types_none {s : ByteArray} (hs : s.size ≤ 100000) (h : typesF s = none) : AI.CoreE C 11 [.str s] h0 (.tup [.own 0 [], I 20]) (h1 0 none) := by
  unfold typesF at h
  have key := ty_loop s hs s.data.toList [] [] none rfl (.inl rfl) (Nat.le_refl _)
  split at h
  · rename_i ts' ht
    split at h
    · cases h
    · rename_i hl
      obtain ⟨el, _, h1⟩ := key.1 _ ht
      exact types_long s _ el (by rw [List.nil_append]; omega) h1
  · rename_i ht
    obtain ⟨acc', el', pos', h1⟩ := key.2 ht
    exact types_bad s acc' el' _ pos' h1

/-! Text -/
def textB (b : ByteArray) (l : List Int) : ByteArray := l.foldl (fun b x => b ++ letter x) b
def allK (l : List Int) : Bool := l.all known

theorem known_iff {x : Int} : known x = true ↔ 1 ≤ x ∧ x ≤ 4 := by simp [known]

theorem tx_loop {l : List Int} (hl : l.length ≤ 1024) : ∀ (post pre : List Int) (b : ByteArray), l = pre ++ post → b.size ≤ pre.length →
    (allK post = true → AI.LoopE C 12 0 1 1 0 (txEnv l pre.length) (bHp b) (.exit 0) (AI.mkEnv 23 [(3, .box 0 0)]) (bHp (textB b post))) ∧
    (allK post = false → ∃ b', AI.LoopE C 12 0 1 1 0 (txEnv l pre.length) (bHp b) .ret (AI.mkEnv 23 [(2, .str ⟨#[]⟩), (3, .box 0 0)]) (bHp b')) := by
  intro post
  induction post with
  | nil =>
    intro pre b h hb
    have : pre = l := by rw [h]; simp
    subst this
    exact ⟨fun _ => tx_done pre b, fun h => by simp [allK] at h⟩
  | cons x post ih =>
    intro pre b h hb
    have hx := get_mid' h
    have hlt := mid_len h
    have hpl : pre.length ≤ 1024 := by omega
    by_cases hk : known x = true
    · obtain ⟨k1, k2⟩ := known_iff.1 hk
      obtain ⟨i1, i2⟩ := ih (pre ++ [x]) (b ++ letter x) (snoc_eq h) (by rw [ByteArray.size_append, letter_size k1 k2, List.length_append]; exact Nat.add_le_add_right hb 1)
      rw [← snoc_len] at i1 i2
      constructor
      · intro ha
        simp only [allK, List.all_cons, hk, Bool.true_and] at ha
        exact tx_step l pre.length x b (by omega) (by omega) (by omega) hlt hx k1 k2 hk _ _ _ (i1 ha)
      · intro ha
        simp only [allK, List.all_cons, hk, Bool.true_and] at ha
        obtain ⟨b', h2⟩ := i2 ha
        exact ⟨b', tx_step l pre.length x b (by omega) (by omega) (by omega) hlt hx k1 k2 hk _ _ _ h2⟩
    · have hk : known x = false := by simpa using hk
      refine ⟨fun ha => by simp [allK, hk] at ha, fun _ => ⟨b, tx_bad l pre.length x h0 b (by omega) hlt hx hk⟩⟩

theorem textB_size : ∀ (l : List Int) (b : ByteArray), allK l = true → (textB b l).size = b.size + l.length
  | [], b, _ => rfl
  | x :: l, b, h => by
    simp only [allK, List.all_cons, Bool.and_eq_true] at h
    obtain ⟨k1, k2⟩ := known_iff.1 h.1
    show (textB (b ++ letter x) l).size = _
    rw [textB_size l _ h.2, ByteArray.size_append, letter_size k1 k2, List.length_cons]
    omega

def textF (l : List Int) : ByteArray := if l.length ≤ 1024 ∧ allK l = true then textB ⟨#[]⟩ l else ⟨#[]⟩

theorem text_core (l : List Int) : AI.CoreE C 12 [.list (l.map I)] h0 (.str (textF l)) h0 := by
  unfold textF
  by_cases hl : l.length ≤ 1024
  · cases l with
    | nil => exact text_nil
    | cons x l =>
      have hx : (x :: l)[((0 : Int)).toNat]? = some x := rfl
      have hlt : (0 : Int) < ((x :: l).length : Int) := by simp
      have hl' : l.length ≤ 1023 := by simpa using hl
      by_cases hk : known x = true
      · obtain ⟨k1, k2⟩ := known_iff.1 hk
        obtain ⟨i1, i2⟩ := tx_loop hl l [x] (letter x) rfl (by rw [letter_size k1 k2]; simp)
        have e1 : ((([x] : List Int).length : Nat) : Int) = 1 := rfl
        rw [e1] at i1 i2
        by_cases ha : allK l = true
        · rw [if_pos ⟨hl, by simpa [allK, hk] using ha⟩]
          have e2 : textB ⟨#[]⟩ (x :: l) = textB (letter x) l := by
            show textB (⟨#[]⟩ ++ letter x) l = _
            rw [show (⟨#[]⟩ : ByteArray) ++ letter x = letter x from ByteArray.empty_append]
          rw [e2]
          have hsz := textB_size l (letter x) ha
          rw [letter_size k1 k2] at hsz
          exact text_ok _ _ (by omega) (by omega) hl (tx_step0 _ x (by omega) hlt hx k1 k2 hk _ _ _ (i1 ha))
        · have ha' : allK l = false := by simpa using ha
          rw [if_neg (fun h => ha (by simpa [allK, hk] using h.2))]
          obtain ⟨b', h2⟩ := i2 ha'
          exact text_bad _ b' hl (tx_step0 _ x (by omega) hlt hx k1 k2 hk _ _ _ h2)
      · have hk : known x = false := by simpa using hk
        rw [if_neg (fun h => by simp [allK, hk] at h)]
        exact text_bad0 _ hl (tx_bad0 _ x hlt hx hk)
  · rw [if_neg (fun h => hl h.1)]
    exact text_long l (by omega)

/-! Zeros -/
def zerosL (l : List Int) : List (Int × Int) := l.map (·, 0)

theorem zr_loop {l : List Int} (hl : l.length ≤ 10000) : ∀ (post pre : List Int) (el : Option Nat), l = pre ++ post → (pre = [] ∨ el = some 36) →
    (allK post = true → ∃ el', AI.LoopE C 13 0 0 2 0 (zrEnv l (zerosL pre) pre.length) (h2 pre.length el) (.exit 0) (AI.mkEnv 29 [(4, .own 1 ((zerosL l).map AI.V))]) (h2 l.length el')) ∧
    (allK post = false → ∃ (z' : List (Int × Int)) (el' : Option Nat) (n' : Nat), AI.LoopE C 13 0 0 2 0 (zrEnv l (zerosL pre) pre.length) (h2 pre.length el) .ret (AI.mkEnv 29 [(2, .own 2 []), (3, I 20), (4, .own 1 (z'.map AI.V))]) (h3 n' el')) := by
  intro post
  have zl : ∀ p : List Int, (zerosL p).length = p.length := fun p => by simp [zerosL]
  induction post with
  | nil =>
    intro pre el h hel
    have : pre = l := by rw [h]; simp
    subst this
    refine ⟨fun _ => ⟨el, ?_⟩, fun h => by simp [allK] at h⟩
    have := zr_done pre (zerosL pre) el
    rwa [zl] at this
  | cons x post ih =>
    intro pre el h hel
    have hx := get_mid' h
    have hlt := mid_len h
    by_cases hk : known x = true
    · obtain ⟨i1, i2⟩ := ih (pre ++ [x]) (some 36) (snoc_eq h) (.inr rfl)
      have e0 : zerosL (pre ++ [x]) = zerosL pre ++ [(x, 0)] := by simp [zerosL]
      have e1 : (pre ++ [x]).length = (zerosL pre).length + 1 := by simp [zl]
      rw [← snoc_len, e0, e1] at i1 i2
      have hel' : zerosL pre = [] ∨ el = some 36 := hel.imp (fun h => by rw [h]; rfl) id
      constructor
      · intro ha
        simp only [allK, List.all_cons, hk, Bool.true_and] at ha
        obtain ⟨el', h2'⟩ := i1 ha
        refine ⟨el', ?_⟩
        have := zr_step l pre.length x (zerosL pre) el hel' (by rw [zl]; omega) (by omega) (by omega) hlt hx hk _ _ _ h2'
        rwa [zl] at this
      · intro ha
        simp only [allK, List.all_cons, hk, Bool.true_and] at ha
        obtain ⟨z', el', n', h2'⟩ := i2 ha
        refine ⟨z', el', n', ?_⟩
        have := zr_step l pre.length x (zerosL pre) el hel' (by rw [zl]; omega) (by omega) (by omega) hlt hx hk _ _ _ h2'
        rwa [zl] at this
    · have hk : known x = false := by simpa using hk
      refine ⟨fun ha => by simp [allK, hk] at ha, fun _ => ⟨zerosL pre, el, (zerosL pre).length, ?_⟩⟩
      have := zr_bad l pre.length x (zerosL pre) el (by omega) hlt hx hk
      rw [zl] at this ⊢
      exact this

theorem zeros_some {l : List Int} (hl : l.length ≤ 10000) (h : allK l = true) : ∃ el, AI.CoreE C 13 [.list (l.map I)] h0 (.tup [.own 0 ((zerosL l).map AI.V), I 0]) (h1 l.length el) := by
  obtain ⟨el, h1⟩ := (zr_loop hl l [] none rfl (.inl rfl)).1 h
  exact ⟨el, zeros_ok l _ el _ h1⟩
theorem zeros_none {l : List Int} (hl : l.length ≤ 10000) (h : allK l = false) : AI.CoreE C 13 [.list (l.map I)] h0 (.tup [.own 0 [], I 20]) (h1 0 none) := by
  obtain ⟨z', el, n', h1⟩ := (zr_loop hl l [] none rfl (.inl rfl)).2 h
  exact zeros_bad l z' el n' h1

/-! Fits -/
def fitsL : List Int → List (Int × Int) → Bool
  | [], [] => true
  | t :: l, v :: vs => decide (v.1 = t) && decide (checkF v.1 v.2 = 0) && fitsL l vs
  | _, _ => false

theorem ft_loop {l : List Int} {v : List (Int × Int)} (hv : v.length ≤ 10000) : ∀ (lp vp : List (Int)) (pl : List Int) (pv pvp : List (Int × Int)), l = pl ++ lp → v = pv ++ pvp → pl.length = pv.length → lp.length = pvp.length →
    (fitsL lp pvp = true → AI.LoopE C 14 0 0 0 0 (ftEnv l v pv.length) h0 (.exit 0) (AI.mkEnv 32 []) h0) ∧
    (fitsL lp pvp = false → AI.LoopE C 14 0 0 0 0 (ftEnv l v pv.length) h0 .ret (AI.mkEnv 32 [(4, .bool false)]) h0) := by
  intro lp vp
  induction lp with
  | nil =>
    intro pl pv pvp h1 h2 h3 h4
    obtain rfl : pvp = [] := List.length_eq_zero_iff.1 h4.symm
    have : pv = v := by rw [h2]; simp
    subst this
    exact ⟨fun _ => ft_done l pv, fun h => by simp [fitsL] at h⟩
  | cons t lp ih =>
    intro pl pv pvp h1 h2 h3 h4
    cases pvp with
    | nil => simp at h4
    | cons x pvp =>
      obtain ⟨a, n⟩ := x
      have hx := get_mid' h2
      have hlt := mid_len h2
      have ht : l[((pv.length : Int)).toNat]? = some t := by rw [← h3]; exact get_mid' h1
      have hvb : (v.length : Int) ≤ 10000 := by omega
      by_cases hc : a = t ∧ checkF a n = 0
      · obtain ⟨rfl, hc⟩ := hc
        obtain ⟨i1, i2⟩ := ih (pl ++ [a]) (pv ++ [(a, n)]) pvp (snoc_eq h1) (snoc_eq h2) (by simp [h3]) (by simpa using h4)
        rw [← snoc_len] at i1 i2
        simp only [fitsL, hc, decide_true, Bool.true_and]
        exact ⟨fun h => ft_step l v pv.length a n (by omega) (by omega) hlt hx ht hc _ _ _ (i1 h), fun h => ft_step l v pv.length a n (by omega) (by omega) hlt hx ht hc _ _ _ (i2 h)⟩
      · have hf : fitsL (t :: lp) ((a, n) :: pvp) = false := by
          simp only [fitsL, Bool.and_eq_false_iff, decide_eq_false_iff_not]
          by_cases ha : a = t
          · exact .inl (.inr fun h => hc ⟨ha, h⟩)
          · exact .inl (.inl ha)
        refine ⟨fun h => (by rw [hf] at h; cases h), fun _ => ft_bad l v pv.length a n t (by omega) hlt hx ht ?_⟩
        by_cases ha : a = t
        · exact .inr fun h => hc ⟨ha, h⟩
        · exact .inl ha

theorem fitsL_len : ∀ (l : List Int) (v : List (Int × Int)), l.length ≠ v.length → fitsL l v = false
  | [], [], h => absurd rfl h
  | [], _ :: _, _ => rfl
  | _ :: _, [], _ => rfl
  | t :: l, v :: vs, h => by
    rw [fitsL, fitsL_len l vs (by simpa using h), Bool.and_false]

theorem fits_core (l : List Int) (v : List (Int × Int)) (hv : v.length ≤ 10000) : AI.CoreE C 14 [.list (l.map I), .list (v.map AI.V)] h0 (.bool (fitsL l v)) h0 := by
  by_cases hl : l.length = v.length
  · obtain ⟨i1, i2⟩ := ft_loop hv l [] [] [] v rfl rfl rfl hl
    cases hf : fitsL l v with
    | true => exact fits_ok l v hl (i1 hf)
    | false => exact fits_bad l v hl (i2 hf)
  · rw [fitsL_len l v hl]
    exact fits_len l v hl

/-! Of -/
theorem of_loop {v : List (Int × Int)} (hv : v.length ≤ 10000) : ∀ (post pre : List (Int × Int)) (el : Option Nat), v = pre ++ post → (pre = [] ∨ el = some 3) →
    ∃ el', AI.LoopE C 16 0 0 2 0 (ofEnv v (pre.map (·.1)) pre.length) (h2 pre.length el) (.exit 0) (AI.mkEnv 19 [(3, .own 1 ((v.map (·.1)).map I))]) (h2 v.length el') := by
  intro post
  have ml : ∀ p : List (Int × Int), (p.map (·.1)).length = p.length := fun p => by simp
  induction post with
  | nil =>
    intro pre el h hel
    have : pre = v := by rw [h]; simp
    subst this
    have := of_done pre (pre.map (·.1)) el
    rw [ml] at this
    exact ⟨el, this⟩
  | cons x post ih =>
    obtain ⟨a, n⟩ := x
    intro pre el h hel
    have hx := get_mid' h
    have hlt := mid_len h
    obtain ⟨el', i1⟩ := ih (pre ++ [(a, n)]) (some 3) (snoc_eq h) (.inr rfl)
    have e0 : (pre ++ [(a, n)]).map (·.1) = pre.map (·.1) ++ [a] := by simp
    have e1 : (pre ++ [(a, n)]).length = (pre.map (·.1)).length + 1 := by simp
    rw [← snoc_len, e0, e1] at i1
    refine ⟨el', ?_⟩
    have := of_step v (pre.map (·.1)) pre.length a n el (hel.imp (fun h => by rw [h]; rfl) id) (by rw [ml]; omega) (by omega) (by omega) hlt hx _ _ _ i1
    rwa [ml] at this

theorem of_core {v : List (Int × Int)} (hv : v.length ≤ 10000) : ∃ el, AI.CoreE C 16 [.list (v.map AI.V)] h0 (.own 0 ((v.map (·.1)).map I)) (h1 v.length el) := by
  obtain ⟨el, h1⟩ := of_loop hv v [] none rfl (.inl rfl)
  exact ⟨el, of_ok v _ el _ h1⟩

/-! Ints -/
theorem in_loop {a b : List Int} (ha : a.length ≤ 10000) : ∀ (ap pa pb bp : List Int), a = pa ++ ap → b = pb ++ bp → pa.length = pb.length → ap.length = bp.length →
    (ap = bp → AI.LoopE C 15 0 0 0 0 (inEnv a b pa.length) h0 (.exit 0) (AI.mkEnv 26 []) h0) ∧
    (ap ≠ bp → AI.LoopE C 15 0 0 0 0 (inEnv a b pa.length) h0 .ret (AI.mkEnv 26 [(4, .bool false)]) h0) := by
  intro ap
  induction ap with
  | nil =>
    intro pa pb bp h1 h2 h3 h4
    obtain rfl : bp = [] := List.length_eq_zero_iff.1 h4.symm
    have : pa = a := by rw [h1]; simp
    subst this
    exact ⟨fun _ => in_done pa b, fun h => absurd rfl h⟩
  | cons x ap ih =>
    intro pa pb bp h1 h2 h3 h4
    cases bp with
    | nil => simp at h4
    | cons y bp =>
      have hx := get_mid' h1
      have hlt := mid_len h1
      have hy : b[((pa.length : Int)).toNat]? = some y := by rw [h3]; exact get_mid' h2
      by_cases hxy : x = y
      · subst hxy
        obtain ⟨i1, i2⟩ := ih (pa ++ [x]) (pb ++ [x]) bp (snoc_eq h1) (snoc_eq h2) (by simp [h3]) (by simpa using h4)
        rw [← snoc_len] at i1 i2
        exact ⟨fun h => in_step a b pa.length x (by omega) (by omega) hlt hx hy _ _ _ (i1 (by simpa using h)), fun h => in_step a b pa.length x (by omega) (by omega) hlt hx hy _ _ _ (i2 (fun h' => h (by rw [h'])))⟩
      · exact ⟨fun h => absurd (List.cons.inj h).1 hxy, fun _ => in_bad a b pa.length x y (by omega) hlt hx hy hxy⟩

theorem ints_core (a b : List Int) (ha : a.length ≤ 10000) : AI.CoreE C 15 [.list (a.map I), .list (b.map I)] h0 (.bool (decide (a = b))) h0 := by
  by_cases hl : a.length = b.length
  · obtain ⟨i1, i2⟩ := in_loop ha a [] [] b rfl rfl rfl hl
    by_cases h : a = b
    · rw [decide_eq_true h]
      exact ints_ok a b hl (i1 h)
    · rw [decide_eq_false h]
      exact ints_bad a b hl (i2 h)
  · rw [decide_eq_false (fun h => hl (by rw [h]))]
    exact ints_len a b hl

end Go.Proofs.YtkddphdhcejdaaaDoor
