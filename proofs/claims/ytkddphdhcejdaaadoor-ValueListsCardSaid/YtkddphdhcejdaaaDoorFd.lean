/-
  The law ValueLists: for every input the interpreter answers true.
-/
import Derived.Test.YtkddphdhcejdaaaDoorFc
set_option linter.unusedVariables false
namespace Go.Proofs.YtkddphdhcejdaaaDoor
open Go.RowKit Go.Proofs

theorem letter_ty {x : Int} (h : known x = true) : ∃ b : UInt8, letter x = ⟨#[b]⟩ ∧ tyOf b.toNat = x := by
  obtain ⟨h1, h2⟩ := known_iff.1 h
  obtain rfl | rfl | rfl | rfl : x = 1 ∨ x = 2 ∨ x = 3 ∨ x = 4 := by omega
  · exact ⟨73, rfl, rfl⟩
  · exact ⟨82, rfl, rfl⟩
  · exact ⟨70, rfl, rfl⟩
  · exact ⟨80, rfl, rfl⟩

theorem ty_letter {b : UInt8} (h : known (tyOf b.toNat) = true) : letter (tyOf b.toNat) = ⟨#[b]⟩ := by
  have hb : tyOf b.toNat = if b.toNat < 128 then Lib.indexByte [32, 73, 82, 70, 80] b else -1 := by
    unfold tyOf
    rw [show b.toNat.toUInt8 = b by simp]
    rfl
  rw [hb] at h ⊢
  split at h
  case isFalse => rw [known_neg] at h; cases h
  simp only [Lib.indexByte] at h ⊢
  by_cases h0 : (32 : UInt8) = b
  · subst h0; exact absurd h (by decide)
  by_cases h1 : (73 : UInt8) = b
  · subst h1; rfl
  by_cases h2 : (82 : UInt8) = b
  · subst h2; rfl
  by_cases h3 : (70 : UInt8) = b
  · subst h3; rfl
  by_cases h4 : (80 : UInt8) = b
  · subst h4; rfl
  exfalso
  simp [h0, h1, h2, h3, h4] at h
  exact absurd h (by decide)

theorem textB_list : ∀ (l : List Int) (b : ByteArray), (textB b l).data.toList = b.data.toList ++ l.flatMap fun x => (letter x).data.toList
  | [], b => by simp [textB]
  | x :: l, b => by
    show (textB (b ++ letter x) l).data.toList = _
    rw [textB_list l]
    simp

theorem tyL_text : ∀ l : List Int, allK l = true → tyL (l.flatMap fun x => (letter x).data.toList) = some l
  | [], _ => rfl
  | x :: l, h => by
    simp only [allK, List.all_cons, Bool.and_eq_true] at h
    obtain ⟨b, h1, h2⟩ := letter_ty h.1
    rw [List.flatMap_cons, h1]
    show tyL (b :: (l.flatMap fun x => (letter x).data.toList)) = _
    rw [tyL, h2, if_pos h.1, tyL_text l h.2]
    rfl

theorem text_tyL : ∀ (bs : List UInt8) (ts : List Int), tyL bs = some ts → (ts.flatMap fun x => (letter x).data.toList) = bs ∧ allK ts = true
  | [], ts, h => by cases h; exact ⟨rfl, rfl⟩
  | b :: bs, ts, h => by
    simp only [tyL] at h
    split at h
    case isFalse => cases h
    rename_i hk
    simp only [Option.map_eq_some_iff] at h
    obtain ⟨ts', h1, rfl⟩ := h
    obtain ⟨h2, h3⟩ := text_tyL bs ts' h1
    refine ⟨?_, by simp only [allK, List.all_cons, hk, Bool.true_and]; exact h3⟩
    rw [List.flatMap_cons, h2, ty_letter hk]
    rfl

theorem ba_ext {a b : ByteArray} (h : a.data.toList = b.data.toList) : a = b := by
  obtain ⟨⟨a⟩⟩ := a
  obtain ⟨⟨b⟩⟩ := b
  simp at h
  rw [h]

/-- What is read is written as it was. -/
theorem text_types {s : ByteArray} {ts : List Int} (h : typesF s = some ts) : textF ts = s := by
  unfold typesF at h
  split at h
  case h_2 => cases h
  rename_i ts' ht
  split at h
  case isFalse => cases h
  rename_i hl
  cases h
  obtain ⟨h1, h2⟩ := text_tyL _ _ ht
  unfold textF
  rw [if_pos ⟨hl, h2⟩]
  apply ba_ext
  rw [textB_list, h1]
  rfl

/-- What is written is read as it was. -/
theorem types_text {l : List Int} (hl : l.length ≤ 1024) (h : allK l = true) : typesF (textF l) = some l := by
  unfold typesF textF
  rw [if_pos ⟨hl, h⟩, textB_list]
  show (match tyL (l.flatMap fun x => (letter x).data.toList) with
    | some ts => if ts.length ≤ 1024 then some ts else none
    | none => none) = _
  rw [tyL_text l h]
  simp only [if_pos hl]

theorem checkF_zero {t : Int} (h : known t = true) : checkF t 0 = 0 := by simp [checkF, h]

theorem fitsL_zeros : ∀ l : List Int, allK l = true → fitsL l (zerosL l) = true
  | [], _ => rfl
  | t :: l, h => by
    simp only [allK, List.all_cons, Bool.and_eq_true] at h
    show fitsL (t :: l) ((t, 0) :: zerosL l) = true
    rw [fitsL, fitsL_zeros l h.2, checkF_zero h.1]
    simp

theorem vl_loop {l : List Int} {z : List (Int × Int)} (hz : z.length ≤ 2000) (hk : ∀ v ∈ z, known v.1 = true ∧ v.2 = 0) (n1 n2 n3 : Nat) (e1 e2 e3 : Option Nat) : ∀ post pre : List (Int × Int), z = pre ++ post →
    AI.LoopE C 3 0 0 3 0 (vlEnv l z pre.length) (vlHp n1 n2 n3 e1 e2 e3) (.exit 0) (AI.mkEnv 116 [(0, .list (l.map I)), (5, .bool true)]) (vlHp n1 n2 n3 e1 e2 e3)
  | [], pre, h => by
    have : pre = z := by rw [h]; simp
    subst this
    exact vl_done l pre n1 n2 n3 e1 e2 e3
  | (t, n) :: post, pre, h => by
    obtain ⟨k1, k2⟩ := hk (t, n) (by rw [h]; simp)
    dsimp only at k1 k2
    subst k2
    have i1 := vl_loop (l := l) hz hk n1 n2 n3 e1 e2 e3 post (pre ++ [(t, 0)]) (snoc_eq h)
    rw [← snoc_len] at i1
    refine vl_step l z n1 n2 n3 e1 e2 e3 pre.length t (by omega) (by omega) (mid_len h) (get_mid' h) ?_ _ _ _ i1
    simp [nilF, k1]

theorem valueLists_core (l : List Int) (s : ByteArray) : AI.CoreE C 3 [.list (l.map I), .str s] h0 (.bool true) h0 := by
  by_cases hs : 2000 < s.size
  · exact vl_great_s l s hs
  by_cases hl : 2000 < l.length
  · exact vl_great_l l s (by omega) hl
  have hs : s.size ≤ 2000 := by omega
  have hl : l.length ≤ 2000 := by omega
  -- the text's types
  have hT : (AI.CoreE C 11 [.str s] h0 (.tup [.own 0 [], I 20]) (h1 0 none)) ∨ ∃ (ts : List Int) (e1 : Option Nat), AI.CoreE C 11 [.str s] h0 (.tup [.own 0 (ts.map I), I 0]) (h1 ts.length e1) ∧ AI.CoreE C 12 [.list (ts.map I)] h0 (.str s) h0 := by
    cases ht : typesF s with
    | none => exact .inl (types_none (by omega) ht)
    | some ts =>
      obtain ⟨e1, h1⟩ := types_some (by omega) ht
      have := text_core ts
      rw [text_types ht] at this
      exact .inr ⟨ts, e1, h1, this⟩
  have hX := text_core l
  by_cases ha : allK l = true
  · obtain ⟨e2, hZ⟩ := zeros_some (by omega) ha
    have zl : (zerosL l).length = l.length := by simp [zerosL]
    have hF := fits_core l (zerosL l) (by omega)
    rw [fitsL_zeros l ha] at hF
    obtain ⟨e3, hO⟩ := of_core (v := zerosL l) (by omega)
    have hof : (zerosL l).map (·.1) = l := by simp [zerosL, Function.comp_def]
    rw [hof] at hO
    have hI := ints_core l l (by omega)
    rw [decide_eq_true rfl] at hI
    have hkz : ∀ v ∈ zerosL l, known v.1 = true ∧ v.2 = 0 := fun v hv => by
      obtain ⟨x, hx, rfl⟩ := List.mem_map.1 hv
      exact ⟨List.all_eq_true.1 ha x hx, rfl⟩
    by_cases hlong : 1024 < l.length
    · have hX' : textF l = ⟨#[]⟩ := by unfold textF; rw [if_neg (by omega)]
      rw [hX'] at hX
      rcases hT with hT | ⟨ts, e1, hT, hU⟩
      · exact vl_long0 l (zerosL l) s e2 e3 hs hl hlong (by omega) hT hZ hF hO hI (vl_loop (by omega) hkz _ _ _ _ _ _ _ [] rfl) hX
      · exact vl_long1 l ts (zerosL l) s e1 e2 e3 hs hl hlong (by omega) hT hU hZ hF hO hI (vl_loop (by omega) hkz _ _ _ _ _ _ _ [] rfl) hX
    · have hl' : l.length ≤ 1024 := by omega
      have hsz : (textF l).size = l.length := by
        unfold textF
        rw [if_pos ⟨hl', ha⟩, textB_size l _ ha]
        show 0 + _ = _
        omega
      obtain ⟨e4, hY⟩ := types_some (s := textF l) (by omega) (types_text hl' ha)
      rcases hT with hT | ⟨ts, e1, hT, hU⟩
      · exact vl_short0 l (zerosL l) s (textF l) e2 e3 e4 hs hl' hsz (by omega) hT hZ hF hO hI (vl_loop (by omega) hkz _ _ _ _ _ _ _ [] rfl) hX hY
      · exact vl_short1 l ts (zerosL l) s (textF l) e1 e2 e3 e4 hs hl' hsz (by omega) hT hU hZ hF hO hI (vl_loop (by omega) hkz _ _ _ _ _ _ _ [] rfl) hX hY
  · have ha' : allK l = false := by simpa using ha
    have hZ := zeros_none (by omega) ha'
    have hX' : textF l = ⟨#[]⟩ := by unfold textF; rw [if_neg (fun h => ha h.2)]
    rw [hX'] at hX
    rcases hT with hT | ⟨ts, e1, hT, hU⟩
    · exact vl_zbad0 l s hs hl hT hZ hX
    · exact vl_zbad1 l ts s e1 hs hl hT hU hZ hX

end Go.Proofs.YtkddphdhcejdaaaDoor
