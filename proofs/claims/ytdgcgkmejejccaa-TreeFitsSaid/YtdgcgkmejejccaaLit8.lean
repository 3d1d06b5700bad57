/-
  Trees that are written out: in memory; what is wrong with them. 
-/
import Derived.Test.YtdgcgkmejejccaaWithin8
set_option linter.unusedSimpArgs false
namespace Go.Proofs.Ytdgcgkmejejccaa
open Go.RowKit Go.Shr
theorem TrAt.grp {w : World} {n : Int} {s : ByteArray} {b : Nat} {cur : Array Value} {t : TypeId} {ks : List (List Tr)} (m : Nat) (hs : s.size ≤ maxLen) (hr : Rw w b cur t) (hm : cur.size = m * 1) (hm2 : m ≤ maxLen) (hk : KidAt w ks cur.toList) : TrAt w (.mk n s ks) [.int .i64 n, .string s, .slice (some ⟨b, 0, none⟩) m m] := by
  simp only [TrAt]
  exact ⟨_, m, m, _, rfl, hs, Rw.sl hr m 1 hm hm2, hk⟩
theorem TrAt.leaf' {w : World} {n : Int} {s : ByteArray} (hs : s.size ≤ maxLen) : TrAt w (.mk n s []) [.int .i64 n, .string s, .slice none 0 0] := by
  simp only [TrAt, KidAt]
  exact ⟨none, 0, 0, [], rfl, hs, Sl.nil _ _ _ _, rfl⟩
theorem KidAt.row {w : World} {b : Nat} {cur : Array Value} {t : TypeId} {l : List Tr} {r : List (List Tr)} {xr : List Value} (m : Nat) (hm : m = l.length) (hr : Rw w b cur t) (hc : cur.size = m * 3) (hm2 : m ≤ maxLen) (hl : RowAt w l cur.toList) (hk : KidAt w r xr) : KidAt w (l :: r) (.slice (some ⟨b, 0, none⟩) m m :: xr) := by
  simp only [KidAt]
  exact ⟨_, m, m, _, xr, rfl, hm, Rw.sl hr m 3 hc hm2, hl, hk⟩
theorem KidAt.no {w : World} {r : List (List Tr)} {xr : List Value} (hk : KidAt w r xr) : KidAt w ([] :: r) (.slice none 0 0 :: xr) := by
  simp only [KidAt, RowAt]
  exact ⟨none, 0, 0, [], xr, rfl, rfl, Sl.nil _ _ _ _, rfl, hk⟩
theorem KidAt.end' {w : World} : KidAt w [] [] := by simp only [KidAt]
theorem RowAt.end' {w : World} : RowAt w [] [] := by simp only [RowAt]
theorem RowAt.one {w : World} {t : Tr} {c0 c1 c2 : Value} {r : List Tr} {yr : List Value} (h : TrAt w t [c0, c1, c2]) (hr : RowAt w r yr) : RowAt w (t :: r) (c0 :: c1 :: c2 :: yr) := by
  simp only [RowAt]
  exact ⟨c0, c1, c2, yr, rfl, h, hr⟩
theorem fitX_one (l : List Fl) (K : Int → List Int) (t : Tr) (i : Int) : fitX l K [t] i = fitT l K t i := by
  simp only [fitX]; split <;> simp_all
theorem oneL_leaf (kind : Int) (t : Tr) (hk : kind ≠ 0) : fitT (oneL 0 kind) (KF (oneL 0 kind)) (.mk 0 ⟨#[]⟩ [[t]]) 0 = leafT kind t := by
  rw [oneL_fit, fitA, fitX_one, fitT_eq]
  have h1 : (flAt (oneL 0 kind) 1).kind = kind := rfl
  have h2 : (flAt (oneL 0 kind) 1).rep = 0 := rfl
  rw [h1, h2, if_pos hk]
  simp [repT]
theorem fit1 (k : Int) (h1 : 1 ≤ k) (h4 : k ≤ 4) (t : Tr) (W : World) (b : Nat) (a : Option Addr) (hS : Sl (fun b => b < W.heap.size) W 4 (some ⟨b, 0, none⟩) 2 2 (fls (oneL 0 k))) (hT : TrAt W (.mk 0 ⟨#[]⟩ [[t]]) [.int .i64 0, .string ⟨#[]⟩, .slice a 1 1]) :
    Calls Try.prog 14 #[.slice (some ⟨b, 0, none⟩) 2 2, .agg #[.int .i64 0, .string ⟨#[]⟩, .slice a 1 1]] W fun e w' => e = .returned (.int .i64 (leafT k t)) ∧ Below W.heap.size W w' := by
  have h := Fits_v (oneL 0 k) (oneL_wf 0 k (by omega) h4) (.mk 0 ⟨#[]⟩ [[t]]) (some ⟨b, 0, none⟩) 2 2 a 1 W hS hT
  rw [oneL_leaf k t (by omega)] at h
  exact h
theorem leafT_eq (k n : Int) (s : ByteArray) (ks : List (List Tr)) : leafT k (.mk n s ks) = if 0 < ks.length ∨ (k = 4 ∧ n ≠ 0) ∨ (k ≠ 4 ∧ s.toList ≠ []) then 13
    else if k = 1 then (if n < 0 ∨ 1 < n then 14 else 0) else if k = 2 then (if n < -2147483648 ∨ 2147483647 < n then 14 else 0) else if k = 3 then 0 else if 100 < s.size then 5 else 0 := rfl
end Go.Proofs.Ytdgcgkmejejccaa
