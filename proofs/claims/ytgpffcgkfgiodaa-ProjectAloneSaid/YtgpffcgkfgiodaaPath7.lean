/-
  The walks of inside, in, and of the closure of Resolve. The walks of Path.
-/
import Derived.Test.YtgpffcgkfgiodaaWay7P
import Derived.Test.YtgpffcgkfgiodaaMake8
import Derived.Deep.CutRange
set_option linter.unusedSimpArgs false
namespace Go.Proofs.Ytgpffcgkfgiodaa
open Go.RowKit Go.Shr
set_option maxHeartbeats 400000 in
theorem in_v (pa : Option Addr) (pc : Nat) (l : List Fl) (i o : Nat) (w : World) (hp : Sl (fun b => b < w.heap.size) w 1 pa l.length pc (ints (par l))) (hi : i < l.length) (hn : l.length ≤ 1000) (ho : o ≤ 1000) :
    Calls Try.prog 36 #[.slice pa l.length pc, .int .i64 i, .int .i64 o] w fun e w' => e = .returned (.bool (decide (o ∈ Go.Shr.chain (par l) i))) ∧ w = w' := by
  have HPL := Lib.hid (par_length l)
  obtain ⟨bp, off, rfl, _, hpc⟩ := hp.pos (by omega)
  have HPC := Lib.hid hpc; clear hpc hp
  go_enter Try.func36, Try.ntmps36
  go_wp2_with fail
  go_loop [7] (fun v => ∃ z : Int, v = .int .i64 z ∧ -1 ≤ z ∧ z < (l.length : Int) ∧ Hid (decide (o ∈ Go.Shr.chain (par l) i) = decide (o ∈ chainI (par l) z))) (fun v => (intOf v + 1).toNat)
  case atStart => exact ⟨_, rfl, by omega, by omega, Lib.hid (by rw [chainI_nat])⟩
  case round =>
    obtain ⟨z, rfl, h1, h2, HC⟩ := hrel
    by_cases hz : z < 0
    · have HE : Hid (decide (o ∈ Go.Shr.chain (par l) i) = false) := Lib.hid (by rw [HC.out, chainI_neg _ hz]; simp)
      clear HC
      go_wp2_with fail
      go_ret
      exact ⟨ret_bo HE.out.symm, rfl⟩
    · obtain ⟨k, rfl⟩ : ∃ k : Nat, z = k := ⟨z.toNat, by omega⟩
      have hk : k < l.length := by omega
      have hki : k < (par l).length := by rw [HPL.out]; exact hk
      have q0 := HPC.out _ _ (ints_get (par l) k (by rw [HPL.out]; exact hk))
      have hqb := par_bd l k (by rw [HPL.out]; exact hk)
      have HC2 : Hid (decide (o ∈ Go.Shr.chain (par l) i) = decide (o = k ∨ o ∈ chainI (par l) (par l)[k])) := Lib.hid (by
        rw [HC.out, chainI_nat, chain_eq (fun j hj => par_bd l j hj) (by rw [HPL.out]; exact hk)]; simp only [List.mem_cons])
      generalize (par l)[k] = q at *
      clear HC hki
      by_cases hko : k = o
      · have HE : Hid (decide (o ∈ Go.Shr.chain (par l) i) = true) := Lib.hid (by rw [HC2.out]; simp [hko])
        have hb : ((k : Int) == (o : Int)) = true := beq_iff_eq.2 (by omega)
        clear HC2 hko
        go_wp2_with fail
        go_ret
        exact ⟨ret_bo HE.out.symm, rfl⟩
      · have hb : ((k : Int) == (o : Int)) = false := beq_eq_false_iff_ne.2 (by omega)
        have HE : Hid (decide (o ∈ Go.Shr.chain (par l) i) = decide (o ∈ chainI (par l) q)) := Lib.hid (by rw [HC2.out]; congr 1; simp [Ne.symm hko])
        clear HC2 hko
        go_wp2_with fail
        go_round
        case rel => exact ⟨q, rfl, by omega, by omega, HE⟩
        case measure => simp [intOf]; omega
theorem iter_below (w : World) (s : ByteArray) (pos : Nat) : Below w.heap.size w (w.iter s pos) := (Below.refl _ _).alloc (Nat.le_refl _) _
set_option maxHeartbeats 400000 in
theorem inside_v (s p : ByteArray) (w : World) (ha : ∀ c ∈ s.data.toList, c.toNat < 128) (hs : s.size ≤ maxLen) (hp : p.size ≤ maxLen) :
    Calls Try.prog 32 #[.string s, .string p] w fun e w' => e = .returned (.bool (insideB s.data.toList p.data.toList)) ∧ Below w.heap.size w w' := by
  unfold maxLen at hs hp
  have hsl : s.data.toList.length = s.size := by simp
  have hpl : p.data.toList.length = p.size := by simp
  have HA : Hid (∀ (k : Nat) (h : k < s.size), s[k].toNat < 128) := Lib.hid (fun k h => ha _ (by have e : s[k] = s.data[k] := rfl; rw [e]; exact Array.getElem_mem_toList _))
  have HL := Lib.hid hsl; have HPL := Lib.hid hpl
  clear ha hsl hpl
  go_enter Try.func32, Try.ntmps32
  go_wp2_with fail
  go_loopw [] (fun w' => ∃ k : Nat, w' = w.iter s k ∧ k ≤ s.size ∧ k ≤ p.size) (fun w' => s.size - w'.iterPos w.heap.size)
  case atStart => exact ⟨0, rfl, by omega, by omega⟩
  case round =>
    obtain ⟨k, rfl, h1, h2⟩ := hrel
    by_cases hk : k < s.size
    · have hnx : ∀ ty, (Instr.next (.pointer (some ⟨w.heap.size, 0, none⟩)) true ty).run Try.prog (w.iter s k) = _ := fun ty => run_next_ascii w s k ty hk (HA.out k hk)
      by_cases hkp : k = p.size
      · have hb : ((k : Int) == (p.size : Int)) = true := beq_iff_eq.2 (by omega)
        have HI : Hid (insideB s.data.toList p.data.toList = ((s[k] == 46) && ((s.extract 0 k).toList == p.toList))) := Lib.hid (by
          unfold insideB
          rw [HL.out, HPL.out, if_pos (by omega), ← hkp, ByteArray.toList_eq, ByteArray.toList_eq]
          have e1 : s.data.toList.getD k 0 = s[k] := by rw [List.getD_eq_getElem?_getD, List.getElem?_eq_getElem (by rw [HL.out]; exact hk)]; rfl
          have e2 : (s.extract 0 k).data.toList = s.data.toList.take k := by simp [ByteArray.data_extract]
          rw [e1, e2])
        clear hkp
        by_cases h46 : s[k].toNat = 46
        · have hb4 : ((s[k].toNat : Int) == 46) = true := beq_iff_eq.2 (by omega)
          have HE : Hid (insideB s.data.toList p.data.toList = ((s.extract 0 k).toList == p.toList)) := Lib.hid (by
            rw [HI.out, show (s[k] == 46) = true from beq_iff_eq.2 (UInt8.toNat.inj h46), Bool.true_and])
          clear HI h46
          have hks : (k : Int) ≤ (s.size : Int) := by omega
          go_wp2_with fail
          go_ret
          exact ⟨ret_bo HE.out.symm, iter_below _ _ _⟩
        · have hb4 : ((s[k].toNat : Int) == 46) = false := beq_eq_false_iff_ne.2 (by omega)
          have HE : Hid (insideB s.data.toList p.data.toList = false) := Lib.hid (by
            rw [HI.out, show (s[k] == 46) = false from beq_eq_false_iff_ne.2 (fun e => h46 (by rw [e]; rfl)), Bool.false_and])
          clear HI h46
          go_wp2_with fail
          go_ret
          exact ⟨ret_bo HE.out.symm, iter_below _ _ _⟩
      · have hb : ((k : Int) == (p.size : Int)) = false := beq_eq_false_iff_ne.2 (by omega)
        have hlt : k < p.size := by omega
        clear hkp
        go_wp2_with fail
        go_roundw
        case rel => exact ⟨k + 1, rfl, by omega, by omega⟩
        case measure => simp; omega
    · have hnx : ∀ ty, (Instr.next (.pointer (some ⟨w.heap.size, 0, none⟩)) true ty).run Try.prog (w.iter s k) = _ := fun ty => run_next_end w s k ty hk
      have HE : Hid (insideB s.data.toList p.data.toList = (s.toList == p.toList)) := Lib.hid (by
        unfold insideB; rw [HL.out, HPL.out, if_neg (by omega), ByteArray.toList_eq, ByteArray.toList_eq])
      go_wp2_with fail
      go_ret
      exact ⟨ret_bo HE.out.symm, iter_below _ _ _⟩
/-- Yes and no as cells. -/
def bls (f : Nat → Bool) (n : Nat) : List Value := (List.range n).map fun k => .bool (f k)
theorem bls_len (f : Nat → Bool) (n : Nat) : (bls f n).length = n := by simp [bls]
theorem bls_get (f : Nat → Bool) {n k : Nat} (h : k < n) : (bls f n)[k]? = some (.bool (f k)) := by simp [bls, h]
theorem bls_set (f : Nat → Bool) {n k : Nat} : (bls f n).set k (.bool true) = bls (fun x => f x || x == k) n := by
  refine List.ext_getElem (by simp [bls]) fun i h1 h2 => ?_
  rw [List.getElem_set]
  simp only [bls, List.getElem_map, List.getElem_range]
  by_cases h : k = i
  · subst h; simp
  · rw [if_neg h]
    have : (i == k) = false := beq_eq_false_iff_ne.2 (Ne.symm h)
    simp [this]
theorem bls_congr {f g : Nat → Bool} {n : Nat} (h : ∀ k, k < n → f k = g k) : bls f n = bls g n := by
  unfold bls
  exact List.map_congr_left fun k hk => by rw [h k (List.mem_range.1 hk)]
theorem bls_one (f : Nat → Bool) (n : Nat) : ∀ u ∈ bls f n, u.oneCell' = true := by
  intro u hu
  simp only [bls, List.mem_map] at hu
  obtain ⟨d, _, rfl⟩ := hu
  rfl
/-- What the closure leaves. -/
def AllQ (B gk kc : Nat) (l : List Fl) (f : Nat → Bool) (i : Nat) (w : World) (e : Ending) (w' : World) : Prop :=
  e = .returned (.tuple #[]) ∧ Own B w' 4 1 (some ⟨gk, 0, none⟩) l.length kc (bls (fun x => f x || decide (x ∈ Go.Shr.chain (par l) i)) l.length) ∧ Chg (fun b => b = gk) w w'
set_option maxHeartbeats 400000 in
theorem all_v (B gk kc bp bk : Nat) (pa : Option Addr) (pc : Nat) (l : List Fl) (f : Nat → Bool) (i : Nat) (w : World) (hi : i < l.length) (hn : l.length ≤ 1000)
    (hp : Sl (fun b => b < w.heap.size ∧ b ≠ gk) w 1 pa l.length pc (ints (par l))) (rp : Rw w bp #[.slice pa l.length pc] 22) (rk : Rw w bk #[.slice (some ⟨gk, 0, none⟩) l.length kc] 32)
    (hpg : bp ≠ gk) (hkg : bk ≠ gk) (ho : Own B w 4 1 (some ⟨gk, 0, none⟩) l.length kc (bls f l.length)) :
    Calls Try.prog 30 #[.int .i64 i, .pointer (some ⟨bp, 0, none⟩), .pointer (some ⟨bk, 0, none⟩)] w (AllQ B gk kc l f i w) := by
  have HPL := Lib.hid (par_length l)
  have HP := Lib.hid hp; have HRP := Lib.hid rp; have HRK := Lib.hid rk; have HO := Lib.hid ho
  clear hp rp rk ho
  go_enter Try.func30, Try.ntmps30
  go_wp2_with fail
  go_loopw [4] (fun v wr => ∃ (z : Int) (g : Nat → Bool), v = .int .i64 z ∧ -1 ≤ z ∧ z < (l.length : Int) ∧ Hid (∀ x, (g x || decide (x ∈ chainI (par l) z)) = (f x || decide (x ∈ Go.Shr.chain (par l) i))) ∧ Hid (Own B wr 4 1 (some ⟨gk, 0, none⟩) l.length kc (bls g l.length)) ∧ Hid (Chg (fun b => b = gk) w wr)) (fun v _ => (intOf v + 1).toNat)
  case atStart => exact ⟨_, f, rfl, by omega, by omega, Lib.hid (fun x => by rw [chainI_nat]), HO, Lib.hid (Chg.refl _ _)⟩
  case round =>
    obtain ⟨z, g, rfl, h1, h2, HX, HOW, HC⟩ := hrel
    by_cases hz : z < 0
    · have HE : Hid (g = fun x => f x || decide (x ∈ Go.Shr.chain (par l) i)) := Lib.hid (by
        funext x; rw [← HX.out x, chainI_neg _ hz]; simp)
      clear HX
      go_wp2_with fail
      refine bodyPost_end (v := .tuple #[]) (by simp [results, Try.results30, go_sem]) rfl ?_
      exact ⟨rfl, HE.out ▸ HOW.out, HC.out⟩
    · obtain ⟨k, rfl⟩ : ∃ k : Nat, z = k := ⟨z.toNat, by omega⟩
      have hk : k < l.length := by omega
      have hki : k < (par l).length := by rw [HPL.out]; exact hk
      have hp1 := Sl.go (ok' := fun b => b < wr.heap.size ∧ b ≠ gk) HC.out (fun k hk hb => ⟨hb.2, Nat.lt_of_lt_of_le hk HC.out.size, hb.2⟩) HP.out (by decide)
      have rp1 := HRP.out.chg HC.out hpg
      have rk1 := HRK.out.chg HC.out hkg
      have cp : wr.cell? ⟨bp, 0, none⟩ = some (.slice pa l.length pc) := rp1.cell 0
      have ck : wr.cell? ⟨bk, 0, none⟩ = some (.slice (some ⟨gk, 0, none⟩) l.length kc) := rk1.cell 0
      obtain ⟨b1, off, rfl, ⟨hb1, hb2⟩, hpc⟩ := hp1.pos (by omega)
      have q0 := hpc _ _ (ints_get (par l) k hki)
      have hqb := par_bd l k hki
      obtain ⟨g', hgg, hg1, hg2, hg3, hg4⟩ := HOW.out.pos (by omega)
      injection hgg with hgg; injection hgg with hgg; subst hgg
      have cb0 := hg3 _ _ (bls_get g hk)
      have fz := hg4 k
      have HX2 : Hid (∀ x, (g x || x == k || decide (x ∈ chainI (par l) (par l)[k])) = (f x || decide (x ∈ Go.Shr.chain (par l) i))) := Lib.hid (fun x => by
        rw [← HX.out x, chainI_nat, chain_eq (fun j hj => par_bd l j hj) hki, Bool.or_assoc]
        congr 1
        rw [Bool.eq_iff_iff]; simp)
      have HO2 := Lib.hid (HOW.out.stored rfl k (.bool true))
      rw [bls_set] at HO2
      have HC2 := Lib.hid (HC.out.setCell (p := ⟨gk, k, none⟩) (.inr rfl) (.bool true))
      generalize (par l)[k] = q at *
      clear HX hg3 hg4 hpc rp1 rk1 hp1
      have hne : b1 ≠ gk := hb2
      go_wp2_with fail
      go_roundw
      case rel => exact ⟨q, _, rfl, by omega, by omega, HX2, HO2, HC2⟩
      case measure => simp [intOf]; omega
end Go.Proofs.Ytgpffcgkfgiodaa
namespace Go.Proofs.Ytgpffcgkfgiodaa
open Go.RowKit Go.Shr
theorem ret_st {a b : ByteArray} (h : a = b) : Ending.returned (.string a) = .returned (.string b) := by rw [h]
set_option maxHeartbeats 400000 in
theorem path_v (sa : Option Addr) (sc : Nat) (l : List Fl) (i : Nat) (w : World) (hs : Sl (fun b => b < w.heap.size) w 4 sa l.length sc (fls l)) (hn : l.length ≤ 20) (hkid : ∀ x ∈ l, x.kids ≤ 1000) (hnm : ∀ x ∈ l, x.name.size ≤ 20) (hi0 : 0 < i) (hi : i < l.length) :
    Calls Try.prog 31 #[.slice sa l.length sc, .int .i64 i] w fun e w' => e = .returned (.string (ownS l i)) ∧ Below w.heap.size w w' := by
  have hpl := par_length l
  have HPL := Lib.hid hpl; clear hpl
  have HS := Lib.hid hs; have HK := Lib.hid hkid; have HNM := Lib.hid hnm; clear hs hkid hnm
  go_enter Try.func31, Try.ntmps31
  go_wp2_with fail
  refine (par_v sa l.length sc l w HS.out (by omega) HK.out).mono ?_
  rintro e w1 ⟨aP, cP, rfl, ho, hb⟩
  have hown := ho
  have HS1 := Lib.hid (slb HS.out hb)
  have HB := Lib.hid hb
  obtain ⟨bp, rfl, _, _, hpc, _⟩ := hown.pos (by omega)
  obtain ⟨bs, off, rfl, _, hsc⟩ := HS1.out.pos (by omega)
  obtain ⟨f0, _, _, _⟩ := fls_get l i hi
  replace f0 := hsc _ _ f0
  have p0 := hpc _ _ (ints_get (par l) i (by rw [HPL.out]; exact hi))
  have hpb := par_bd l i (by rw [HPL.out]; exact hi)
  have hki : i < (par l).length := by rw [HPL.out]; exact hi
  have HOW : Hid (ownS l i = joinS (fun k => (l.getD k Fl.none).name) (upI (par l) (par l)[i]) l[i].name) := Lib.hid (by
    unfold ownS; rw [List.getD_eq_getElem?_getD, List.getElem?_eq_getElem (by rw [HPL.out]; exact hi), List.getD_eq_getElem?_getD, List.getElem?_eq_getElem hi]; rfl)
  have hsz := HNM.out l[i] (List.getElem_mem hi)
  generalize (par l)[i] = p at *
  generalize l[i].name = nm at *
  have HSC := Lib.hid hsc; have HPC := Lib.hid hpc
  clear hsc hpc hown ho hb hki
  go_wp2_with fail
  go_loop [6, 7] (fun o v => ∃ (z : Int) (out : ByteArray), o = .string out ∧ v = .int .i64 z ∧ -1 ≤ z ∧ z < 20 ∧ z < (l.length : Int) ∧ (out.size : Int) ≤ 21 * (20 - z) ∧ Hid (ownS l i = joinS (fun k => (l.getD k Fl.none).name) (upI (par l) z) out)) (fun _ v => (intOf v).toNat)
  case atStart => exact ⟨_, _, rfl, rfl, by omega, by omega, by omega, by omega, HOW⟩
  case round =>
    obtain ⟨z, out, rfl, rfl, h1, h2, h3, h4, HO⟩ := hrel
    by_cases hz : 0 < z
    · obtain ⟨k, rfl⟩ : ∃ k : Nat, z = k := ⟨z.toNat, by omega⟩
      have hk : k < l.length := by omega
      have hkk : k < (par l).length := by rw [HPL.out]; exact hk
      obtain ⟨g0, _, _, _⟩ := fls_get l k hk
      replace g0 := HSC.out _ _ g0
      have q0 := HPC.out _ _ (ints_get (par l) k (by rw [HPL.out]; exact hk))
      have hqb := par_bd l k (by rw [HPL.out]; exact hk)
      have hgs := HNM.out l[k] (List.getElem_mem hk)
      have HO2 : Hid (ownS l i = joinS (fun k => (l.getD k Fl.none).name) (upI (par l) (par l)[k]) (l[k].name ++ ⟨#[46]⟩ ++ out)) := Lib.hid (by
        rw [HO.out, upI_nat _ (by omega), up_eq (fun j hj => par_bd l j hj) (by rw [HPL.out]; exact hk) (by omega), joinS, List.getD_eq_getElem?_getD, List.getElem?_eq_getElem hk]; rfl)
      generalize (par l)[k] = q at *
      generalize l[k].name = gm at *
      clear HO
      go_wp2_with fail
      go_round
      case rel => exact ⟨q, _, rfl, rfl, by omega, by omega, by omega, by simp only [ByteArray.size_append']; have : (ByteArray.mk #[46]).size = 1 := rfl; omega, HO2⟩
      case measure => simp [intOf]; omega
    · have HE : Hid (ownS l i = out) := Lib.hid (by rw [HO.out, upI_le _ (by omega)]; rfl)
      clear HO
      go_wp2_with fail
      go_ret
      exact ⟨ret_st HE.out.symm, HB.out⟩
set_option maxHeartbeats 400000 in
theorem rpath_v (sa : Option Addr) (sc : Nat) (l : List Fl) (i : Nat) (w : World) (hs : Sl (fun b => b < w.heap.size) w 4 sa l.length sc (fls l)) (hn : l.length ≤ 20) (hkid : ∀ x ∈ l, x.kids ≤ 1000) (hnm : ∀ x ∈ l, x.name.size ≤ 20) (hi0 : 0 < i) (hi : i < l.length) :
    Calls Try.prog 15 #[.slice sa l.length sc, .int .i64 i] w fun e w' => e = .returned (.string (ownS l i)) ∧ Below w.heap.size w w' := by
  have hpl := par_length l
  have HPL := Lib.hid hpl; clear hpl
  have HS := Lib.hid hs; have HK := Lib.hid hkid; have HNM := Lib.hid hnm; clear hs hkid hnm
  go_enter Try.func15, Try.ntmps15
  go_wp2_with fail
  refine (refpar_v sa l.length sc l w HS.out (by omega) HK.out).mono ?_
  rintro e w1 ⟨aP, cP, rfl, ho, hb⟩
  have hown := ho.own
  have HS1 := Lib.hid (slb HS.out hb)
  have HB := Lib.hid hb
  obtain ⟨bp, rfl, _, _, hpc, _⟩ := hown.pos (by omega)
  obtain ⟨bs, off, rfl, _, hsc⟩ := HS1.out.pos (by omega)
  obtain ⟨f0, _, _, _⟩ := fls_get l i hi
  replace f0 := hsc _ _ f0
  have p0 := hpc _ _ (ints_get (par l) i (by rw [HPL.out]; exact hi))
  have hpb := par_bd l i (by rw [HPL.out]; exact hi)
  have hki : i < (par l).length := by rw [HPL.out]; exact hi
  have HOW : Hid (ownS l i = joinS (fun k => (l.getD k Fl.none).name) (upI (par l) (par l)[i]) l[i].name) := Lib.hid (by
    unfold ownS; rw [List.getD_eq_getElem?_getD, List.getElem?_eq_getElem (by rw [HPL.out]; exact hi), List.getD_eq_getElem?_getD, List.getElem?_eq_getElem hi]; rfl)
  have hsz := HNM.out l[i] (List.getElem_mem hi)
  generalize (par l)[i] = p at *
  generalize l[i].name = nm at *
  have HSC := Lib.hid hsc; have HPC := Lib.hid hpc
  clear hsc hpc hown ho hb hki
  go_wp2_with fail
  go_loop [6, 7] (fun o v => ∃ (z : Int) (out : ByteArray), o = .string out ∧ v = .int .i64 z ∧ -1 ≤ z ∧ z < 20 ∧ z < (l.length : Int) ∧ (out.size : Int) ≤ 21 * (20 - z) ∧ Hid (ownS l i = joinS (fun k => (l.getD k Fl.none).name) (upI (par l) z) out)) (fun _ v => (intOf v).toNat)
  case atStart => exact ⟨_, _, rfl, rfl, by omega, by omega, by omega, by omega, HOW⟩
  case round =>
    obtain ⟨z, out, rfl, rfl, h1, h2, h3, h4, HO⟩ := hrel
    by_cases hz : 0 < z
    · obtain ⟨k, rfl⟩ : ∃ k : Nat, z = k := ⟨z.toNat, by omega⟩
      have hk : k < l.length := by omega
      have hkk : k < (par l).length := by rw [HPL.out]; exact hk
      obtain ⟨g0, _, _, _⟩ := fls_get l k hk
      replace g0 := HSC.out _ _ g0
      have q0 := HPC.out _ _ (ints_get (par l) k (by rw [HPL.out]; exact hk))
      have hqb := par_bd l k (by rw [HPL.out]; exact hk)
      have hgs := HNM.out l[k] (List.getElem_mem hk)
      have HO2 : Hid (ownS l i = joinS (fun k => (l.getD k Fl.none).name) (upI (par l) (par l)[k]) (l[k].name ++ ⟨#[46]⟩ ++ out)) := Lib.hid (by
        rw [HO.out, upI_nat _ (by omega), up_eq (fun j hj => par_bd l j hj) (by rw [HPL.out]; exact hk) (by omega), joinS, List.getD_eq_getElem?_getD, List.getElem?_eq_getElem hk]; rfl)
      generalize (par l)[k] = q at *
      generalize l[k].name = gm at *
      clear HO
      go_wp2_with fail
      go_round
      case rel => exact ⟨q, _, rfl, rfl, by omega, by omega, by omega, by simp only [ByteArray.size_append']; have : (ByteArray.mk #[46]).size = 1 := rfl; omega, HO2⟩
      case measure => simp [intOf]; omega
    · have HE : Hid (ownS l i = out) := Lib.hid (by rw [HO.out, upI_le _ (by omega)]; rfl)
      clear HO
      go_wp2_with fail
      go_ret
      exact ⟨ret_st HE.out.symm, HB.out⟩
end Go.Proofs.Ytgpffcgkfgiodaa
