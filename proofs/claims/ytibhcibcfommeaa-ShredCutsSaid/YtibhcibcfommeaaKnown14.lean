/-
 The walk of chapter 14's example, and of what its statements share.
-/
import Derived.Test.YtibhcibcfommeaaCols14
set_option linter.unusedSimpArgs false
namespace Go.Proofs.Ytibhcibcfommeaa
open Go.RowKit Go.Shr
theorem Rw.sl {w : World} {b : Nat} {cur : Array Value} {t : TypeId} (h : Rw w b cur t) (n size : Nat) (hn : cur.size = n * size) (hm : n ≤ maxLen) : Sl (fun b => b < w.heap.size) w size (some ⟨b, 0, none⟩) n n cur.toList :=
 ⟨by simpa using hn, Nat.le_refl _, hm, .inr ⟨b, 0, rfl, h.lt, fun j u hj => by rw [Nat.zero_add, h.cell]; simpa using hj⟩⟩
def knownL : List Fl := [⟨⟨#[109]⟩, 0, 0, 1⟩, ⟨⟨#[97]⟩, 1, 1, 0⟩]
def knownSh : Sh := .mk ⟨#[109]⟩ 0 0 [.mk ⟨#[97]⟩ 1 1 []]
def knownT : Tr := .mk 0 ByteArray.empty [[]]
theorem known_sch : Sch knownL knownSh := ⟨by simp [knownL, knownSh, flat, flatL], by simp [knownSh, GoodS, GoodL], rfl, by simp [knownSh, Sh.size, shSizes]⟩
theorem known_nms : Nms knownL := by
 refine ⟨fun f hf => ?_, by decide⟩
 simp only [knownL, List.mem_cons, List.not_mem_nil, or_false] at hf
 rcases hf with rfl | rfl
 ·exact ⟨109, rfl, by decide, by decide⟩
 ·exact ⟨97, rfl, by decide, by decide⟩
theorem known_wy : Wy knownL (wayAt knownSh) := Wy.mk' known_sch (by decide) known_nms
theorem known_rep : ∀ x ∈ knownL, x.rep = 0 ∨ x.rep = 1 ∨ x.rep = 2 := by simp [knownL]
theorem kidsOf_two {p : Int} : kidsOf [p, 0] 0 = (if p = 0 then [0] else []) ++ [1] := by
 have h := kidsOf_snoc [p] 0 0
 have h2 := kidsOf_snoc [] p 0
 simp only [List.nil_append, kidsOf_nil] at h2
 rw [show [p, 0] = [p] ++ [0] from rfl, h, h2]
 simp
theorem knownL_par : par knownL = [-1, 0] := by simp [par, knownL, parF, parS, popS, nextS]
theorem known_fit : fitT knownL (KF knownL) knownT 0 = 0 := by
 have hk : KF knownL 0 = [1] := by unfold KF; rw [knownL_par, kidsOf_two]; rfl
 have he : ByteArray.empty.toList = [] := by rw [ByteArray.toList_eq]; rfl
 rw [knownT, fitT_eq, hk]; simp [Tr.n, Tr.s, Tr.kids, he, flAt, knownL, fitK, fitX, repT]
theorem known_leafs : leafs knownL knownL.length = [1] := by decide
theorem known_rows : rowsC 1 knownSh [knownT] = [⟨0, 0, none⟩] := by simp [rowsC, knownSh, knownT, valC, Tr.kids, kidC, fldC, fldX, noneC, Sh.size, shSizes]
theorem known_colsE : colsE knownL knownSh [knownT] = 0 := by
 unfold colsE
 rw [if_neg (by decide)]
 simp only [List.map_cons, List.map_nil, known_fit, firstE, if_true]
 rw [if_neg (by decide), if_neg]
 rw [known_leafs]
 simp [manyC, known_rows]
theorem fls_known : fls knownL = #[Value.string ⟨#[109]⟩, .int .i64 0, .int .i64 0, .int .i64 1, .string ⟨#[97]⟩, .int .i64 1, .int .i64 1, .int .i64 0].toList := rfl
/-- The cells of one column, at its place. -/
theorem CT.get0 {B : Nat} {w : World} {bc m : Nat} {C : Nat → List Cel} {cur : Array Value} {aa : Nat → Option Addr} {cc : Nat → Nat} (h : CT B w bc m C cur aa cc) {k : Nat} (hk : k < m) {n : Nat} (hn : n < (C k).length) :
  ∃ g, aa (k * 3) = some ⟨g, 0, none⟩ ∧ B ≤ g ∧ g < w.heap.size ∧ ∀ (i : Nat) (hi : i < (C k).length), w.cell? ⟨g, i, none⟩ = some (.int .i64 ((C k)[i].r : Int)) := by
 obtain ⟨g, h1, h2, h3, h4, _⟩ := (OW.own0 h.ow hk).pos (by omega)
 exact ⟨g, h1, h2, h3, fun i hi => h4 i _ (by simp [celR, hi])⟩
theorem CT.get1 {B : Nat} {w : World} {bc m : Nat} {C : Nat → List Cel} {cur : Array Value} {aa : Nat → Option Addr} {cc : Nat → Nat} (h : CT B w bc m C cur aa cc) {k : Nat} (hk : k < m) {n : Nat} (hn : n < (C k).length) :
  ∃ g, aa (k * 3 + 1) = some ⟨g, 0, none⟩ ∧ B ≤ g ∧ g < w.heap.size ∧ ∀ (i : Nat) (hi : i < (C k).length), w.cell? ⟨g, i, none⟩ = some (.int .i64 ((C k)[i].d : Int)) := by
 obtain ⟨g, h1, h2, h3, h4, _⟩ := (OW.own1 h.ow hk).pos (by omega)
 exact ⟨g, h1, h2, h3, fun i hi => h4 i _ (by simp [celD, hi])⟩
set_option maxHeartbeats 400000 in
theorem known14 (w : World) : Calls Try.prog 12 #[] w fun e w' => e = .returned (.bool true) ∧ Below w.heap.size w w' := by
 go_enter Try.func12, Try.ntmps12
 go_wp2_with fail
 have r1 := Rw.new w #[.string ⟨#[109]⟩, .int .i64 0, .int .i64 0, .int .i64 1, .string ⟨#[97]⟩, .int .i64 1, .int .i64 1, .int .i64 0] 51
 have hb1 := ba (b0 w) (.cells #[.string ⟨#[109]⟩, .int .i64 0, .int .i64 0, .int .i64 1, .string ⟨#[97]⟩, .int .i64 1, .int .i64 1, .int .i64 0] 51)
 have hz1 : (w.alloc (.cells #[.string ⟨#[109]⟩, .int .i64 0, .int .i64 0, .int .i64 1, .string ⟨#[97]⟩, .int .i64 1, .int .i64 1, .int .i64 0] 51)).heap.size = w.heap.size + 1 := by simp
 generalize w.alloc (.cells #[.string ⟨#[109]⟩, .int .i64 0, .int .i64 0, .int .i64 1, .string ⟨#[97]⟩, .int .i64 1, .int .i64 1, .int .i64 0] 51) = w1 at r1 hb1 hz1 ⊢
 have r2 : Rw (w1.alloc (.cells #[.slice none 0 0] 24)) (w.heap.size + 1) #[.slice none 0 0] 24 := Rw.new' hz1
 have hb2 := ba (b0 w1) (.cells #[.slice none 0 0] 24)
 have hz2 : (w1.alloc (.cells #[.slice none 0 0] 24)).heap.size = w.heap.size + 1 + 1 := by simp [hz1]
 generalize w1.alloc (.cells #[.slice none 0 0] 24) = w2 at r2 hb2 hz2 ⊢
 have r3 : Rw (w2.alloc (.cells #[.int .i64 0, .string ⟨#[]⟩, .slice (some ⟨w.heap.size + 1, 0, none⟩) 1 1] 29)) (w.heap.size + 1 + 1) #[.int .i64 0, .string ⟨#[]⟩, .slice (some ⟨w.heap.size + 1, 0, none⟩) 1 1] 29 := Rw.new' hz2
 have hb3 := ba (b0 w2) (.cells #[.int .i64 0, .string ⟨#[]⟩, .slice (some ⟨w.heap.size + 1, 0, none⟩) 1 1] 29)
 generalize w2.alloc (.cells #[.int .i64 0, .string ⟨#[]⟩, .slice (some ⟨w.heap.size + 1, 0, none⟩) 1 1] 29) = w3 at r3 hb3 ⊢
 have hS := Rw.sl ((r1.below hb2).below hb3) 2 4 rfl (by decide)
 rw [← fls_known] at hS
 have hT : TrAt w3 knownT [.int .i64 0, .string ⟨#[]⟩, .slice (some ⟨w.heap.size + 1, 0, none⟩) 1 1] := by
  simp only [knownT, TrAt]
  refine ⟨_, 1, 1, [.slice none 0 0], rfl, by decide, Rw.sl (r2.below hb3) 1 1 rfl (by decide), ?_⟩
  simp only [KidAt, RowAt]
  exact ⟨none, 0, 0, [], [], rfl, rfl, Sl.nil _ _ _ _, rfl, rfl⟩
 have hR : RowAt w3 [knownT] [.int .i64 0, .string ⟨#[]⟩, .slice (some ⟨w.heap.size + 1, 0, none⟩) 1 1] := by
  simp only [RowAt]
  exact ⟨_, _, _, [], rfl, hT, rfl⟩
 have hc := Cols_v known_sch known_wy known_rep [knownT] (some ⟨w.heap.size, 0, none⟩) (some ⟨w.heap.size + 1 + 1, 0, none⟩) 2 1 _ w3 hS (Rw.sl r3 1 3 rfl (by decide)) (RowAt.g _ _ hR)
 refine hc.mono ?_
 rintro e w4 ⟨hb4, ⟨hne, _⟩ | ⟨_, B, bc, cur, aa, cc, rfl, hbc, hct⟩⟩
 ·exact absurd known_colsE hne
 rw [known_leafs] at hct ⊢
 have HB4 := Lib.hid (bt (bt (bt hb1 hb2) hb3) hb4)
 have hlen : (rowsC (([1] : List Nat).getD 0 0) knownSh [knownT]) = [⟨0, 0, none⟩] := known_rows
 have e0 := hct.cell0 (k := 0) (by decide); have e1 := hct.cell1 (k := 0) (by decide); have e2 := hct.cell2 (k := 0) (by decide)
 obtain ⟨g0, ha0, _, _, hg0⟩ := hct.get0 (k := 0) (by decide) (n := 0) (by rw [hlen]; decide)
 obtain ⟨g1, ha1, _, _, hg1⟩ := hct.get1 (k := 0) (by decide) (n := 0) (by rw [hlen]; decide)
 have d0 := hg0 0 (by rw [hlen]; decide)
 have d1 := hg1 0 (by rw [hlen]; decide)
 rw [ha0] at e0
 rw [ha1] at e1
 simp only [hlen, List.length_singleton, List.getElem_cons_zero, celV, List.filterMap_cons, List.filterMap_nil, List.length_nil] at e0 e1 e2 d0 d1
 clear hc hS hT hR r1 r2 r3 hb1 hb2 hb3 hb4 hct hlen hg0 hg1 ha0 ha1 hz1 hz2
 replace e0 : w4.cell? ⟨bc, 0, none⟩ = some (.slice (some ⟨g0, 0, none⟩) 1 (cc 0)) := e0
 replace e1 : w4.cell? ⟨bc, 1, none⟩ = some (.slice (some ⟨g1, 0, none⟩) 1 (cc 1)) := e1
 replace e2 : w4.cell? ⟨bc, 2, none⟩ = some (.slice (aa 2) 0 (cc 2)) := e2
 replace d0 : w4.cell? ⟨g0, 0, none⟩ = some (.int .i64 0) := d0
 replace d1 : w4.cell? ⟨g1, 0, none⟩ = some (.int .i64 0) := d1
 go_wp2_with fail
 go_ret
 exact ⟨rfl, HB4.out⟩
end Go.Proofs.Ytibhcibcfommeaa
