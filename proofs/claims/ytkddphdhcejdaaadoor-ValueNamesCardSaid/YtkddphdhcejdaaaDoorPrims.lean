/-
  The library's contracts are what the interpreter takes them for.
-/
import Derived.Test.YtkddphdhcejdaaaDoorIdx
import Derived.Test.YtkddphdhcejdaaaDoorShelf

set_option linter.unusedVariables false
namespace Go.Proofs.YtkddphdhcejdaaaDoor
open Go.RowKit Go.Proofs

set_option maxHeartbeats 1000000 in
set_option maxRecDepth 100000 in
theorem copyCheck_used (b : Nat) (w : World) (h0 : w.cell? ⟨b, 0, none⟩ = some (.pointer (some ⟨b, 0, none⟩))) :
    Calls Tryd.prog 102 #[.pointer (some ⟨b, 0, none⟩)] w fun e w' => e = .returned (.tuple #[]) ∧ w' = w := by
  obtain ⟨j, hj, _⟩ := Option.map_eq_some_iff.1 (show (Tryd.prog.info? 108).map (·.size) = some 2 by kernel_rfl)
  go_enter Tryd.func102, Tryd.ntmps102
  go_wp2
  rw [Lib.run_neq_ptr_same w _ Tryd.underlying105 hj]
  go_wp2
  go_end0
  exact ⟨rfl, rfl⟩
set_option maxHeartbeats 1000000 in
set_option maxRecDepth 100000 in
theorem copyCheck_fresh (b : Nat) (w : World) (v : Value) (hb : w.heap[b]? = some (.cells #[.pointer none, v] 108 (0, 0))) :
    Calls Tryd.prog 102 #[.pointer (some ⟨b, 0, none⟩)] w fun e w' => e = .returned (.tuple #[]) ∧ w' = w.setCell ⟨b, 0, none⟩ (.pointer (some ⟨b, 0, none⟩)) := by
  have h0 : w.cell? ⟨b, 0, none⟩ = some (.pointer none) := by simp [World.cell?, hb]
  have hsh : w.shape? b = some (108, 2) := by simp [World.shape?, hb]
  have hfz : w.frozen? ⟨b, 0, none⟩ = false := by simp [World.frozen?, hb]
  obtain ⟨j, hj, hjs⟩ := Option.map_eq_some_iff.1 (show (Tryd.prog.info? 108).map (·.size) = some 2 by kernel_rfl)
  clear hb
  go_enter Tryd.func102, Tryd.ntmps102
  go_wp2
  rw [Lib.run_to_unsafe w ⟨b, 0, none⟩ Tryd.underlying105 Tryd.underlying190 hj (by rw [hjs]; decide) hsh (Nat.zero_lt_succ 1)]
  simp only [Result.andThen]
  rw [Oper.upon_value]
  go_wp2
  rw [run_callFunc_extern Tryd.func126 (by kernel_rfl) (by kernel_rfl) (by kernel_rfl) (e := Extern.AbiNoEscape.same) (by kernel_rfl)]
  rw [Lib.run_noEscape]
  simp only [Result.andThen]
  rw [Oper.upon_value]
  go_wp2
  rw [Lib.run_from_unsafe w ⟨b, 0, none⟩ Tryd.underlying190 Tryd.underlying105 hj hsh (by kernel_rfl)]
  simp only [Result.andThen]
  rw [Oper.upon_value]
  go_wp2
  go_end0
  exact ⟨rfl, rfl⟩

theorem prim0_ok (B : Nat) : AI.PrimOk C0 B := by
  intro f F hF
  have hF' : (if f = 52 then none else prim f) = some F := hF
  split at hF'
  · cases hF'
  rename_i hne
  unfold prim at hF'
  split at hF' <;> try (cases hF')
  · exact AI.pCount_ok ⟨Tryd.f28, Tryd.func28, rfl, by kernel_rfl⟩ (fun s c w => Tryd.strings_Count_one s c w)
  · exact absurd rfl hne
  · exact AI.pFormatInt_ok ⟨Tryd.f59, Tryd.func59, rfl, by kernel_rfl⟩ (show Tryd.prog.globalNamed "internal/strconv.uint64pow10" = some 2 by kernel_rfl) rfl (fun n w h0 h1 ht => Tryd.strconv_FormatInt_10 n h0 h1 w ht)
  · exact AI.pParseInt_ok ⟨Tryd.f61, Tryd.func61, rfl, by kernel_rfl⟩ (show Tryd.prog.globalNamed "strconv.ErrSyntax" = some 3 by kernel_rfl) (show Tryd.prog.globalNamed "strconv.ErrRange" = some 4 by kernel_rfl) rfl rfl 5 200 (fun s h v hv w => Tryd.strconv_ParseInt_10_at64_ok s h v hv w) (fun s h hv tp p w hw => (Tryd.strconv_ParseInt_10_at64_syntax_var s h hv tp p w hw).mono fun e w h => ⟨h.choose, h.choose_spec.1, h.choose_spec.2.2.2⟩) (fun s h hv tp p w hw => (Tryd.strconv_ParseInt_10_at64_range_var s h hv tp p w hw).mono fun e w h => ⟨h.choose, h.choose_spec.1, h.choose_spec.2.2.2⟩)
  · exact AI.pItoa_ok ⟨Tryd.f67, Tryd.func67, rfl, by kernel_rfl⟩ (show Tryd.prog.globalNamed "internal/strconv.uint64pow10" = some 2 by kernel_rfl) rfl (fun n w h0 h1 ht => Tryd.strconv_Itoa n h0 h1 w ht)
  · exact AI.pIndexByte_ok ⟨Tryd.f98, Tryd.func98, rfl, by kernel_rfl⟩ (fun s c w => Tryd.strings_IndexByte s c w)
  · exact AI.pCopyCheck_ok 108 ⟨Tryd.f102, Tryd.func102, rfl, by kernel_rfl⟩ (fun b w h => copyCheck_used b w h) (fun b w v h => copyCheck_fresh b w v h)
  · exact AI.pIndexByte_ok ⟨Tryd.f125, Tryd.func125, rfl, by kernel_rfl⟩ (fun s c w => Tryd.stringslite_IndexByte s c w)

theorem glData : AI.GlData C := by
  intro g cs n t l hg
  have hg' : gl g = some cs := hg
  unfold gl at hg'
  split at hg' <;> cases hg' <;> rfl

/-! strings.IndexRune at the letters -/
theorem indexByte_big (l : List UInt8) (b : UInt8) (hb : 128 ≤ b.toNat) (hl : ∀ x, x ∈ l → x.toNat < 128) : Lib.indexByte l b = -1 := by
  induction l with
  | nil => rfl
  | cons x l ih =>
    have hx : (x == b) = false := by
      have := hl x (by simp)
      simp only [beq_eq_false_iff_ne, ne_eq]
      rintro rfl
      omega
    rw [Lib.indexByte, ih (fun y hy => hl y (by simp [hy])), hx]
    rfl

theorem byte_of (n : Nat) (h : n < 256) : (UInt8.ofNat n).toNat = n := by simp; omega

theorem idx_core (r : Int) (h : 128 ≤ r) : AI.CoreE C0 52 [.str ⟨#[32, 73, 82, 70, 80]⟩, .int .i32 r] ⟨[], [], [], 0, 0, 0⟩ (.int .i64 (-1)) ⟨[], [], [], 0, 0, 0⟩ := by
  by_cases h1 : r = 65533
  · subst h1; exact Idx.err
  by_cases h2 : (55296 ≤ r ∧ r ≤ 57343) ∨ 1114111 < r
  · exact Idx.bad r h h1 h2
  have hv : Utf8.valid r = true := by
    unfold Utf8.valid
    simp
    omega
  have ix : ∀ (b : UInt8) (l : List UInt8), 128 ≤ b.toNat → (∀ x, x ∈ l → x.toNat < 128) → Lib.indexByte l ((b.toNat : Int)).toNat.toUInt8 = -1 := fun b l hb hl => by
    rw [show ((b.toNat : Int)).toNat.toUInt8 = b by simp]
    exact indexByte_big l b hb hl
  have e : Utf8.encode r = (let c := r.toNat
    if c < 0x80 then ⟨#[UInt8.ofNat c]⟩
    else if c < 0x800 then ⟨#[UInt8.ofNat (0xC0 + c / 64), UInt8.ofNat (0x80 + c % 64)]⟩
    else if c < 0x10000 then ⟨#[UInt8.ofNat (0xE0 + c / 4096), UInt8.ofNat (0x80 + c / 64 % 64), UInt8.ofNat (0x80 + c % 64)]⟩
    else ⟨#[UInt8.ofNat (0xF0 + c / 262144), UInt8.ofNat (0x80 + c / 4096 % 64), UInt8.ofNat (0x80 + c / 64 % 64), UInt8.ofNat (0x80 + c % 64)]⟩) := by
    unfold Utf8.encode
    simp only [hv, if_true]
  have hlast : 128 ≤ (UInt8.ofNat (0x80 + r.toNat % 64)).toNat := by rw [byte_of _ (by omega)]; omega
  simp only at e
  rw [if_neg (by omega)] at e
  by_cases h3 : r.toNat < 0x800
  · rw [if_pos h3] at e
    exact Idx.two r _ h h1 (by omega) (by omega) (by rw [e]; rfl) (by rw [e]; rfl) hlast (ix _ _ hlast (by decide))
  rw [if_neg h3] at e
  by_cases h4 : r.toNat < 0x10000
  · rw [if_pos h4] at e
    exact Idx.three r _ h h1 (by omega) (by omega) (by rw [e]; rfl) (by rw [e]; rfl) hlast (ix _ _ hlast (by decide))
  · rw [if_neg h4] at e
    exact Idx.four r _ h h1 (by omega) (by omega) (by rw [e]; rfl) (by rw [e]; rfl) hlast (ix _ _ hlast (by decide))

theorem idx_spec (B : Nat) : AI.PrimSpec C B 52 (AI.pIndexRuneL [32, 73, 82, 70, 80]) := by
  have hce : AI.CanEnter C.P 52 := ⟨Tryd.f52, Tryd.func52, rfl, by kernel_rfl⟩
  intro args hp r hp' e vs hx h hg ha
  unfold AI.pIndexRuneL at hx
  split at hx
  case h_2 => cases hx
  rename_i s n
  split at hx
  · rename_i hr
    exact AI.pIndexRune_ok (C := C) (B := B) hce (fun s r w h0 h1 => Tryd.strings_IndexRune_ascii s r w h0 h1) [.str s, .int .i32 n] hp r hp' e vs (by unfold AI.pIndexRune; simp only; rw [if_pos hr]; exact hx) h hg ha
  · split at hx
    case isFalse => cases hx
    rename_i hr
    cases hx
    obtain ⟨hs, hn, h1, h2, h3⟩ := hr
    obtain rfl : s = ⟨#[32, 73, 82, 70, 80]⟩ := by
      obtain ⟨⟨l⟩⟩ := s
      simp at hs
      rw [hs]
    obtain ⟨k, hk⟩ := idx_core n hn
    have hk := hk k (Nat.le_refl _)
    have hcall := AI.call_plain (C := C0) (g := 52) (args := [.str ⟨#[32, 73, 82, 70, 80]⟩, .int .i32 n]) (hp := hp) rfl rfl rfl rfl rfl ⟨h1, h2, h3⟩ hk rfl
    exact (AI.ai_ok (C := C0) mixed (fun g cs n t l hg => glData g cs n t l hg) (prim0_ok B) (k + 1)).call _ _ _ _ _ e vs hcall h hg ha

theorem prim_ok (B : Nat) : AI.PrimOk C B := by
  intro f F hF
  by_cases hf : f = 52
  · subst hf
    obtain rfl : AI.pIndexRuneL [32, 73, 82, 70, 80] = F := Option.some.inj hF
    exact idx_spec B
  · exact prim0_ok B f F (by show (if f = 52 then none else prim f) = some F; rw [if_neg hf]; exact hF)

end Go.Proofs.YtkddphdhcejdaaaDoor
