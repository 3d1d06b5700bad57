import Derived.Test.YtjbkjfefjhbolaakRecords16
import Derived.Test.YtjbkjfefjhbolaakSameP
set_option linter.all false
open List renaming getElem_of_mem → zLP
namespace Go.Proofs.Ytjbkjfefjhbolaa
open Go.RowKit Go.Shr
def aL : List Fl := [⟨⟨#[109]⟩, 0, 0, 1⟩, ⟨⟨#[97]⟩, 0, 1, 0⟩]
def aSh : Sh := .mk ⟨#[109]⟩ 0 0 [.mk ⟨#[97]⟩ 0 1 []]
theorem zJK : Sch aL aSh := ⟨by simp [aL, aSh, flat, yR], by simp [aSh, zR, yG], rfl, by simp [aSh, Sh.size, zC]⟩
theorem zLy : Nms aL := by
 refine ⟨fun f hf => ?_, by decide⟩
 simp only [aL, List.mem_cons, List.not_mem_nil, or_false] at hf
 rcases hf with rfl | rfl
 ·exact ⟨109, rfl, by decide, by decide⟩
 ·exact ⟨97, rfl, by decide, by decide⟩
theorem zLF : Wy aL (zBR aSh) := Wy.mk' zJK (by decide) zLy
theorem zKD : ∀ x ∈ aL, x.rep = 0 ∨ x.rep = 1 ∨ x.rep = 2 := by simp [aL]
theorem zFo : zG aL aL.length = [1] := by decide
theorem zHH : yM aL aSh [] = 0 := by
 unfold yM
 rw [if_neg (by decide)]
 simp only [List.map_nil, zAd]
 rw [if_neg (by decide), if_neg]
 rw [zFo]
 simp [zBk, zS]
theorem zKn : xL aL aSh [] = [⟨[], [], []⟩] := by
 rw [xL, if_pos zHH]
 simp [zG0, zFo, clC, zS, zV]
theorem zJB : jA aL aSh [⟨[], [], []⟩] 0 [] := ⟨zHH, zKn, rfl⟩
theorem xE.one {w : World} {b : Nat} {t : TypeId} (h : Rw w b #[.slice none 0 0, .slice none 0 0, .slice none 0 0] t) : xE w (some ⟨b, 0, none⟩) 1 1 [⟨[], [], []⟩] [.slice none 0 0, .slice none 0 0, .slice none 0 0] :=
 ⟨Rw.sl h 1 3 rfl (by decide), ⟨none, 0, none, 0, none, 0, [], rfl, ⟨Sl.nil _ _ _ _, Sl.nil _ _ _ _, Sl.nil _ _ _ _⟩, rfl⟩⟩
set_option maxHeartbeats 400000 in
theorem zJ6 (w : World) : Calls Try.prog 10 #[] w fun e w' => e = .returned (.bool true) ∧ Below w.heap.size w w' := by
 go_enter Try.func10, Try.ntmps10
 go_wp2_with fail
 have r1 := Rw.new w #[.string ⟨#[109]⟩, .int .i64 0, .int .i64 0, .int .i64 1, .string ⟨#[97]⟩, .int .i64 0, .int .i64 1, .int .i64 0] 62
 have hb1 := ba (b0 w) (.cells #[.string ⟨#[109]⟩, .int .i64 0, .int .i64 0, .int .i64 1, .string ⟨#[97]⟩, .int .i64 0, .int .i64 1, .int .i64 0] 62)
 have hz1 : (w.alloc (.cells #[.string ⟨#[109]⟩, .int .i64 0, .int .i64 0, .int .i64 1, .string ⟨#[97]⟩, .int .i64 0, .int .i64 1, .int .i64 0] 62)).heap.size = w.heap.size + 1 := by simp
 generalize w.alloc (.cells #[.string ⟨#[109]⟩, .int .i64 0, .int .i64 0, .int .i64 1, .string ⟨#[97]⟩, .int .i64 0, .int .i64 1, .int .i64 0] 62) = w1 at r1 hb1 hz1 ⊢
 have r2 : Rw (w1.alloc (.cells #[.slice none 0 0, .slice none 0 0, .slice none 0 0] 42)) (w.heap.size + 1) #[.slice none 0 0, .slice none 0 0, .slice none 0 0] 42 := Rw.new' hz1
 have hb2 := ba (b0 w1) (.cells #[.slice none 0 0, .slice none 0 0, .slice none 0 0] 42)
 generalize w1.alloc (.cells #[.slice none 0 0, .slice none 0 0, .slice none 0 0] 42) = w2 at r2 hb2 ⊢
 have hS := Rw.sl (r1.below hb2) 2 4 rfl (by decide)
 have HB := zH (bt hb1 hb2); have HR1 := zH (r1.below hb2)
 refine (zBr zJK zLF zKD rfl (some ⟨w.heap.size, 0, none⟩) (some ⟨w.heap.size + 1, 0, none⟩) 2 1 1 [⟨[], [], []⟩] _ 0 w2 hS (xE.one r2) (by simp) (by simp)).mono ?_
 rintro e w3 ⟨x, a, c, ys, er, rfl, hsl, hrow, hb3, _, hq⟩
 obtain ⟨rfl, hg, hu⟩ | ⟨_, _, hno⟩ := hq (by simp [zFo])
 ·obtain rfl : [] = x := hu [] zJB
  have HB3 := zH (bt HB.out hb3); have HR3 := zH (HR1.out.below hb3)
  clear hsl hrow hb3 hq hu hg hS HB HR1 r1 r2 hb1 hb2 hz1
  go_wp2_with fail
  have r4 := Rw.new w3 #[.slice none 0 0, .slice none 0 0, .slice none 0 0] 42
  have hb4 := ba (b0 w3) (.cells #[.slice none 0 0, .slice none 0 0, .slice none 0 0] 42)
  generalize w3.alloc (.cells #[.slice none 0 0, .slice none 0 0, .slice none 0 0] 42) = w4 at r4 hb4 ⊢
  refine (zBr zJK zLF zKD rfl (some ⟨w.heap.size, 0, none⟩) (some ⟨w3.heap.size, 0, none⟩) 2 1 1 [⟨[], [], []⟩] _ (-1) w4 (Rw.sl (HR3.out.below hb4) 2 4 rfl (by decide)) (xE.one r4) (by simp) (by simp)).mono ?_
  rintro e w5 ⟨x, a', c', ys', er, rfl, _, _, hb5, hq, _⟩
  obtain ⟨rfl, rfl⟩ := hq (.inl (by decide))
  have HB5 := zH (bt (bt HB3.out hb4) hb5)
  clear hb4 hb5 hq r4 HR3 HB3
  go_wp2_with fail
  go_ret
  exact ⟨rfl, HB5.out⟩
 ·exact absurd zJB (hno [])
theorem jA.dlen {l : List Fl} {sh : Sh} {L : List Cl} {n : Int} {x : List Tr} (h : jA l sh L n x) : ∀ X ∈ L, X.d.length ≤ 1000000 := by
 intro X hX
 obtain ⟨k, hk, rfl⟩ := zLP hX
 have hm : zBk (zG l l.length) sh x = false := by
  have h1 := h.1
  unfold yM at h1
  by_cases hmc : zBk (zG l l.length) sh x = true
  ·rw [if_pos hmc] at h1
   split at h1
   ·omega
   ·split at h1
    ·rename_i hne
     exact absurd h1 hne
    ·omega
  ·exact Bool.eq_false_iff.2 hmc
 have hkl : k < (zG l l.length).length := by rw [← h.len]; exact hk
 rw [h.col k hk]
 have h2 := List.any_eq_false.1 hm _ (List.getElem_mem (l := zG l l.length) (n := k) hkl)
 have he : (zG l l.length).getD k 0 = (zG l l.length)[k] := by simp [List.getD, hkl]
 rw [he]
 simp at h2
 simp [clC]
 omega
theorem jA.slen {l : List Fl} {sh : Sh} {L : List Cl} {n : Int} {x : List Tr} (hS : Sch l sh) (h : jA l sh L n x) : ∀ X ∈ L, ∀ v ∈ X.v, v.s.size ≤ maxLen := by
 intro X hX v hv
 obtain ⟨k, hk, rfl⟩ := zLP hX
 have := h.short hS k hk v hv
 unfold maxLen; omega
theorem zLI {w w' : World} {x : List Tr} {ys : List Value} (h : zZ (fun b => b < w.heap.size) w x ys) (hb : Below w.heap.size w w') : zZ (fun b => b < w'.heap.size) w' x ys :=
 h.go (Chg.ofBelow hb) (fun k hk _ => ⟨Nat.not_le_of_lt hk, Nat.lt_of_lt_of_le hk hb.size⟩)
theorem zIa {l : List Fl} {sh : Sh} {x : List Tr} (h : yM l sh x = 0) : jA l sh (xL l sh x) x.length x := ⟨h, rfl, rfl⟩
end Go.Proofs.Ytjbkjfefjhbolaa
