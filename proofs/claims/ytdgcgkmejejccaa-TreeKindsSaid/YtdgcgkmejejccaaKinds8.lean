/-
  The walk of TreeKinds.
-/
import Derived.Test.YtdgcgkmejejccaaKnown8
import Derived.Test.YtdgcgkmejejccaaCmp
set_option linter.unusedSimpArgs false
namespace Go.Proofs.Ytdgcgkmejejccaa
open Go.RowKit Go.Shr
theorem cmpL_longer (p : List UInt8) (x : UInt8) : cmpL p (p ++ [x]) = -1 := by
  unfold cmpL
  have : Op.bytesLess p (p ++ [x]) = true := by
    induction p with
    | nil => rfl
    | cons a p ih => simp [Op.bytesLess, ih]
  rw [this]; rfl
set_option maxHeartbeats 2000000 in
theorem law_kinds (a b : Int) (s t : ByteArray) (w : World) (_ : (Lit.int .i64 a).wf = true) (_ : (Lit.int .i64 b).wf = true) (_ : s.size ≤ maxLen) (_ : t.size ≤ maxLen) :
    Calls Try.prog 9 #[.int .i64 a, .int .i64 b, .string s, .string t] w fun e w' => e = .returned (.bool true) ∧ Below w.heap.size w w' := by
  go_enter Try.func9, Try.ntmps9
  go_wp2_with fail
  refine (known8 _).mono ?_
  rintro e w1 ⟨rfl, hb1⟩
  have HB1 := Lib.hid hb1; clear hb1
  by_cases hs : 50 < s.size
  · go_wp2_with fail
    go_ret
    exact ⟨rfl, HB1.out⟩
  by_cases ht : 50 < t.size
  · go_wp2_with fail
    go_ret
    exact ⟨rfl, HB1.out⟩
  have h3 : ∀ x : ByteArray, cmpV 4 ⟨0, s⟩ ⟨0, s ++ ⟨#[120]⟩⟩ = -1 := fun _ => by
    unfold cmpV
    rw [if_pos rfl]
    have : (s ++ (⟨#[120]⟩ : ByteArray)).toList = s.toList ++ [120] := by simp [ByteArray.toList_eq]
    show cmpL s.toList (s ++ (⟨#[120]⟩ : ByteArray)).toList = -1
    rw [this]; exact cmpL_longer _ _
  have H3 := Lib.hid h3; clear h3
  have hI : (a < b ∧ Hid (cmpV 3 ⟨a, ⟨#[]⟩⟩ ⟨b, ⟨#[]⟩⟩ = -1)) ∨ (b < a ∧ Hid (cmpV 3 ⟨a, ⟨#[]⟩⟩ ⟨b, ⟨#[]⟩⟩ = 1)) ∨ (a = b ∧ Hid (cmpV 3 ⟨a, ⟨#[]⟩⟩ ⟨b, ⟨#[]⟩⟩ = 0)) := by
    rcases Int.lt_trichotomy a b with h | h | h
    · exact .inl ⟨h, by unfold cmpV cmpI; dsimp only; rw [if_neg (by decide), if_pos h]; exact Lib.hid rfl⟩
    · exact .inr (.inr ⟨h, by unfold cmpV cmpI; dsimp only; rw [if_neg (by decide), if_neg (by omega), if_neg (by omega)]; exact Lib.hid rfl⟩)
    · exact .inr (.inl ⟨h, by unfold cmpV cmpI; dsimp only; rw [if_neg (by decide), if_neg (by omega), if_pos h]; exact Lib.hid rfl⟩)
  have hS : (Op.bytesLess s.toList t.toList = true ∧ Hid (cmpV 4 ⟨0, s⟩ ⟨0, t⟩ = -1)) ∨ (Op.bytesLess s.toList t.toList = false ∧ (!(s.toList == t.toList)) = true ∧ Hid (cmpV 4 ⟨0, s⟩ ⟨0, t⟩ = 1)) ∨ (Op.bytesLess s.toList t.toList = false ∧ (!(s.toList == t.toList)) = false ∧ Hid (cmpV 4 ⟨0, s⟩ ⟨0, t⟩ = 0)) := by
    cases h : Op.bytesLess s.toList t.toList with
    | true => exact .inl ⟨rfl, by unfold cmpV cmpL; dsimp only; rw [if_pos rfl, h, if_pos rfl]; exact Lib.hid rfl⟩
    | false =>
      cases h2 : (s.toList == t.toList) with
      | true => exact .inr (.inr ⟨rfl, rfl, by unfold cmpV cmpL; dsimp only; rw [if_pos rfl, h, h2, if_neg (by decide), if_pos rfl]; exact Lib.hid rfl⟩)
      | false => exact .inr (.inl ⟨rfl, rfl, by unfold cmpV cmpL; dsimp only; rw [if_pos rfl, h, h2, if_neg (by decide), if_neg (by decide)]; exact Lib.hid rfl⟩)
  rcases hI with ⟨hab, HC⟩ | ⟨hab, HC⟩ | ⟨rfl, HC⟩ <;> rcases hS with ⟨hl, HD⟩ | ⟨hl, he, HD⟩ | ⟨hl, he, HD⟩
  all_goals
    go_wp2_with fail
    (with_reducible refine (compare_v 3 ⟨_, ⟨#[]⟩⟩ ⟨_, ⟨#[]⟩⟩ _).mono ?_)
    rintro e w2 ⟨rfl, hb2⟩
    have HB2 := Lib.hid (bt HB1.out hb2)
    clear hb2
    rw [HC.out]
    go_wp2_with fail
    (with_reducible refine (compare_v 4 ⟨0, s⟩ ⟨0, t⟩ _).mono ?_)
    rintro e w3 ⟨rfl, hb3⟩
    have HB3 := Lib.hid (bt HB2.out hb3)
    clear hb3
    rw [HD.out]
    go_wp2_with fail
    (with_reducible refine (compare_v 4 ⟨0, s⟩ ⟨0, s ++ ⟨#[120]⟩⟩ _).mono ?_)
    rintro e w4 ⟨rfl, hb4⟩
    have HB4 := Lib.hid (bt HB3.out hb4)
    clear hb4
    rw [H3.out s]
    go_wp2_with fail
    go_ret
    exact ⟨rfl, HB4.out⟩
end Go.Proofs.Ytdgcgkmejejccaa
