/-
  The walks of Path.
-/
import Derived.Test.YtgpffcgkfgiodaaWay7P
import Derived.Test.YtgpffcgkfgiodaaMake8
import Derived.Deep.CutRange
set_option linter.unusedSimpArgs false
namespace Go.Proofs.Ytgpffcgkfgiodaa
open Go.RowKit Go.Shr
theorem ret_st {a b : ByteArray} (h : a = b) : Ending.returned (.string a) = .returned (.string b) := by rw [h]
set_option maxHeartbeats 400000 in
theorem path_v (sa : Option Addr) (sc : Nat) (l : List Fl) (i : Nat) (w : World) (hs : Sl (fun b => b < w.heap.size) w 4 sa l.length sc (fls l)) (hn : l.length ≤ 20) (hkid : ∀ x ∈ l, x.kids ≤ 1000) (hnm : ∀ x ∈ l, x.name.size ≤ 20) (hi0 : 0 < i) (hi : i < l.length) :
    Calls Try.prog 31 #[.slice sa l.length sc, .int .i64 i] w fun e w' => e = .returned (.string (ownS l i)) ∧ Below w.heap.size w w' := by
  have hpl := par_length l
  have HPL := Lib.hid hpl; clear hpl
  have HS := Lib.hid hs; have HK := Lib.hid hkid; have HNM := Lib.hid hnm; clear hs hkid hnm
  go_enter Try.func31, Try.ntmps31
  go_wp2_with fail
  refine (par_v sa l.length sc l w HS.out (by omega) HK.out).mono ?_
  rintro e w1 ⟨aP, cP, rfl, ho, hb⟩
  have hown := ho
  have HS1 := Lib.hid (slb HS.out hb)
  have HB := Lib.hid hb
  obtain ⟨bp, rfl, _, _, hpc, _⟩ := hown.pos (by omega)
  obtain ⟨bs, off, rfl, _, hsc⟩ := HS1.out.pos (by omega)
  obtain ⟨f0, _, _, _⟩ := fls_get l i hi
  replace f0 := hsc _ _ f0
  have p0 := hpc _ _ (ints_get (par l) i (by rw [HPL.out]; exact hi))
  have hpb := par_bd l i (by rw [HPL.out]; exact hi)
  have hki : i < (par l).length := by rw [HPL.out]; exact hi
  have HOW : Hid (ownS l i = joinS (fun k => (l.getD k Fl.none).name) (upI (par l) (par l)[i]) l[i].name) := Lib.hid (by
    unfold ownS; rw [List.getD_eq_getElem?_getD, List.getElem?_eq_getElem (by rw [HPL.out]; exact hi), List.getD_eq_getElem?_getD, List.getElem?_eq_getElem hi]; rfl)
  have hsz := HNM.out l[i] (List.getElem_mem hi)
  generalize (par l)[i] = p at *
  generalize l[i].name = nm at *
  have HSC := Lib.hid hsc; have HPC := Lib.hid hpc
  clear hsc hpc hown ho hb hki
  go_wp2_with fail
  go_loop [6, 7] (fun o v => ∃ (z : Int) (out : ByteArray), o = .string out ∧ v = .int .i64 z ∧ -1 ≤ z ∧ z < 20 ∧ z < (l.length : Int) ∧ (out.size : Int) ≤ 21 * (20 - z) ∧ Hid (ownS l i = joinS (fun k => (l.getD k Fl.none).name) (upI (par l) z) out)) (fun _ v => (intOf v).toNat)
  case atStart => exact ⟨_, _, rfl, rfl, by omega, by omega, by omega, by omega, HOW⟩
  case round =>
    obtain ⟨z, out, rfl, rfl, h1, h2, h3, h4, HO⟩ := hrel
    by_cases hz : 0 < z
    · obtain ⟨k, rfl⟩ : ∃ k : Nat, z = k := ⟨z.toNat, by omega⟩
      have hk : k < l.length := by omega
      have hkk : k < (par l).length := by rw [HPL.out]; exact hk
      obtain ⟨g0, _, _, _⟩ := fls_get l k hk
      replace g0 := HSC.out _ _ g0
      have q0 := HPC.out _ _ (ints_get (par l) k (by rw [HPL.out]; exact hk))
      have hqb := par_bd l k (by rw [HPL.out]; exact hk)
      have hgs := HNM.out l[k] (List.getElem_mem hk)
      have HO2 : Hid (ownS l i = joinS (fun k => (l.getD k Fl.none).name) (upI (par l) (par l)[k]) (l[k].name ++ ⟨#[46]⟩ ++ out)) := Lib.hid (by
        rw [HO.out, upI_nat _ (by omega), up_eq (fun j hj => par_bd l j hj) (by rw [HPL.out]; exact hk) (by omega), joinS, List.getD_eq_getElem?_getD, List.getElem?_eq_getElem hk]; rfl)
      generalize (par l)[k] = q at *
      generalize l[k].name = gm at *
      clear HO
      go_wp2_with fail
      go_round
      case rel => exact ⟨q, _, rfl, rfl, by omega, by omega, by omega, by simp only [ByteArray.size_append']; have : (ByteArray.mk #[46]).size = 1 := rfl; omega, HO2⟩
      case measure => simp [intOf]; omega
    · have HE : Hid (ownS l i = out) := Lib.hid (by rw [HO.out, upI_le _ (by omega)]; rfl)
      clear HO
      go_wp2_with fail
      go_ret
      exact ⟨ret_st HE.out.symm, HB.out⟩
set_option maxHeartbeats 400000 in
theorem rpath_v (sa : Option Addr) (sc : Nat) (l : List Fl) (i : Nat) (w : World) (hs : Sl (fun b => b < w.heap.size) w 4 sa l.length sc (fls l)) (hn : l.length ≤ 20) (hkid : ∀ x ∈ l, x.kids ≤ 1000) (hnm : ∀ x ∈ l, x.name.size ≤ 20) (hi0 : 0 < i) (hi : i < l.length) :
    Calls Try.prog 15 #[.slice sa l.length sc, .int .i64 i] w fun e w' => e = .returned (.string (ownS l i)) ∧ Below w.heap.size w w' := by
  have hpl := par_length l
  have HPL := Lib.hid hpl; clear hpl
  have HS := Lib.hid hs; have HK := Lib.hid hkid; have HNM := Lib.hid hnm; clear hs hkid hnm
  go_enter Try.func15, Try.ntmps15
  go_wp2_with fail
  refine (refpar_v sa l.length sc l w HS.out (by omega) HK.out).mono ?_
  rintro e w1 ⟨aP, cP, rfl, ho, hb⟩
  have hown := ho.own
  have HS1 := Lib.hid (slb HS.out hb)
  have HB := Lib.hid hb
  obtain ⟨bp, rfl, _, _, hpc, _⟩ := hown.pos (by omega)
  obtain ⟨bs, off, rfl, _, hsc⟩ := HS1.out.pos (by omega)
  obtain ⟨f0, _, _, _⟩ := fls_get l i hi
  replace f0 := hsc _ _ f0
  have p0 := hpc _ _ (ints_get (par l) i (by rw [HPL.out]; exact hi))
  have hpb := par_bd l i (by rw [HPL.out]; exact hi)
  have hki : i < (par l).length := by rw [HPL.out]; exact hi
  have HOW : Hid (ownS l i = joinS (fun k => (l.getD k Fl.none).name) (upI (par l) (par l)[i]) l[i].name) := Lib.hid (by
    unfold ownS; rw [List.getD_eq_getElem?_getD, List.getElem?_eq_getElem (by rw [HPL.out]; exact hi), List.getD_eq_getElem?_getD, List.getElem?_eq_getElem hi]; rfl)
  have hsz := HNM.out l[i] (List.getElem_mem hi)
  generalize (par l)[i] = p at *
  generalize l[i].name = nm at *
  have HSC := Lib.hid hsc; have HPC := Lib.hid hpc
  clear hsc hpc hown ho hb hki
  go_wp2_with fail
  go_loop [6, 7] (fun o v => ∃ (z : Int) (out : ByteArray), o = .string out ∧ v = .int .i64 z ∧ -1 ≤ z ∧ z < 20 ∧ z < (l.length : Int) ∧ (out.size : Int) ≤ 21 * (20 - z) ∧ Hid (ownS l i = joinS (fun k => (l.getD k Fl.none).name) (upI (par l) z) out)) (fun _ v => (intOf v).toNat)
  case atStart => exact ⟨_, _, rfl, rfl, by omega, by omega, by omega, by omega, HOW⟩
  case round =>
    obtain ⟨z, out, rfl, rfl, h1, h2, h3, h4, HO⟩ := hrel
    by_cases hz : 0 < z
    · obtain ⟨k, rfl⟩ : ∃ k : Nat, z = k := ⟨z.toNat, by omega⟩
      have hk : k < l.length := by omega
      have hkk : k < (par l).length := by rw [HPL.out]; exact hk
      obtain ⟨g0, _, _, _⟩ := fls_get l k hk
      replace g0 := HSC.out _ _ g0
      have q0 := HPC.out _ _ (ints_get (par l) k (by rw [HPL.out]; exact hk))
      have hqb := par_bd l k (by rw [HPL.out]; exact hk)
      have hgs := HNM.out l[k] (List.getElem_mem hk)
      have HO2 : Hid (ownS l i = joinS (fun k => (l.getD k Fl.none).name) (upI (par l) (par l)[k]) (l[k].name ++ ⟨#[46]⟩ ++ out)) := Lib.hid (by
        rw [HO.out, upI_nat _ (by omega), up_eq (fun j hj => par_bd l j hj) (by rw [HPL.out]; exact hk) (by omega), joinS, List.getD_eq_getElem?_getD, List.getElem?_eq_getElem hk]; rfl)
      generalize (par l)[k] = q at *
      generalize l[k].name = gm at *
      clear HO
      go_wp2_with fail
      go_round
      case rel => exact ⟨q, _, rfl, rfl, by omega, by omega, by omega, by simp only [ByteArray.size_append']; have : (ByteArray.mk #[46]).size = 1 := rfl; omega, HO2⟩
      case measure => simp [intOf]; omega
    · have HE : Hid (ownS l i = out) := Lib.hid (by rw [HO.out, upI_le _ (by omega)]; rfl)
      clear HO
      go_wp2_with fail
      go_ret
      exact ⟨ret_st HE.out.symm, HB.out⟩
end Go.Proofs.Ytgpffcgkfgiodaa
