import Derived.Test.YtjbkjfefjhbolaakLeafP
set_option linter.all false
open List renaming getElem?_eq_getElem → zLP, getD_eq_getElem?_getD → zLQ, getElem?_cons_succ → zLR, mem_cons → zLS, mem_singleton → zLT, map_map → zLU, mem_map → zLV, getElem?_map → zLW
namespace Go.Proofs.Ytjbkjfefjhbolaa
open Go.RowKit Go.Shr
theorem zEd {sh : Sh} {k : Nat} (h : k + 1 < sh.size) : ∃ y f, (zAf [] sh)[k + 1]? = some (y ++ [zAL f.name]) ∧ (flat sh)[k + 1]? = some f := by
 obtain ⟨nm, rp, kd, ks⟩ := sh
 simp only [Sh.size] at h
 have hk : k < zC ks := by omega
 have e1 : (zAx [] ks)[k]? = some ((zAx [] ks)[k]'(by rw [xP]; exact hk)) := zLP _
 have e2 : (qD 0 1 ks)[k]? = some ((qD 0 1 ks)[k]'(by rw [qA]; exact hk)) := zLP _
 have e3 : (yR ks)[k]? = some ((yR ks)[k]'(by rw [yZ]; exact hk)) := zLP _
 rcases zBA ks 0 1 [] k _ _ _ e1 e2 e3 with ⟨_, a2⟩ | ⟨q, _, _, y, _, a4⟩
 ·exact ⟨[], _, by simp only [zAf, zLR]; rw [e1, a2], by simp only [flat, zLR]; exact e3⟩
 ·exact ⟨y, _, by simp only [zAf, zLR]; rw [e1, a4], by simp only [flat, zLR]; exact e3⟩
theorem zGq {sh : Sh} (h : ((flat sh).map fun f => zAL f.name).Nodup) : (zAf [] sh).Nodup := by
 have hl := zCs sh []
 have hf := xX sh
 rw [List.nodup_iff_pairwise_ne, List.pairwise_iff_getElem]
 intro i j hi hj hij e
 obtain ⟨j, rfl⟩ : ∃ q, j = q + 1 := ⟨j - 1, by omega⟩
 obtain ⟨y, f, h1, h2⟩ := zEd (sh := sh) (k := j) (by omega)
 rw [zLP hj] at h1
 injection h1 with h1
 rw [h1] at e
 cases i with
 | zero =>
  have : (zAf [] sh)[0]'hi = [] := by obtain ⟨nm, rp, kd, ks⟩ := sh; rfl
  rw [this] at e; simp at e
 | succ i =>
  obtain ⟨y2, f2, h3, h4⟩ := zEd (sh := sh) (k := i) (by omega)
  rw [zLP hi] at h3
  injection h3 with h3
  rw [h3] at e
  have e2 : zAL f2.name = zAL f.name := by
   have := congrArg List.getLast? e
   simpa using this
  have a1 : ((flat sh).map fun f => zAL f.name)[i + 1]? = some (zAL f.name) := by rw [zLW, h4, ← e2]; rfl
  have a2 : ((flat sh).map fun f => zAL f.name)[j + 1]? = some (zAL f.name) := by rw [zLW, h2]; rfl
  have := (List.getElem?_inj (by rw [List.length_map]; omega) h).1 (a1.trans a2.symm)
  omega
theorem zGS : ∀ m, m < 13 → ((109 : UInt8) :: (List.range m).map fun i => UInt8.ofNat (97 + i)).Nodup ∧ ((109 : UInt8) :: (List.range m).map (fun i => UInt8.ofNat (97 + i)) ++ [122]).Nodup := by decide +kernel
theorem zHq : ∀ i, i < 12 → (UInt8.ofNat (97 + i)).toNat < 128 ∧ UInt8.ofNat (97 + i) ≠ 46 := by decide +kernel
def Nms (l : List Fl) : Prop := (∀ f ∈ l, ∃ c : UInt8, f.name.data.toList = [c] ∧ c.toNat < 128 ∧ c ≠ 46) ∧ (l.map fun f => zAL f.name).Nodup
theorem zIW (ns : List Int) : Nms (qT ns) := by
 have hm : min ns.length 12 < 13 := by omega
 have hmap : (qT ns).map (fun f => zAL f.name) = ((qT ns).map Fl.name).map zAL := by rw [zLU]; rfl
 have h9 : zAL ⟨#[109]⟩ = 109 := rfl
 have hz : zAL ⟨#[122]⟩ = 122 := rfl
 have hn : ∀ i, zAL (zBM i) = UInt8.ofNat (97 + i) := fun i => rfl
 have key : ∀ f ∈ qT ns, f.name = ⟨#[109]⟩ ∨ f.name = ⟨#[122]⟩ ∨ ∃ i, i < 12 ∧ f.name = zBM i := by
  intro f hf
  have h1 : f.name ∈ (qT ns).map Fl.name := zLV.2 ⟨f, hf, rfl⟩
  rcases zBW ns with h | h
  ·rw [h] at h1
   rcases zLS.1 h1 with h1 | h1
   ·exact .inl h1
   ·obtain ⟨i, hi, he⟩ := zLV.1 h1
    have := List.mem_range.1 hi
    exact .inr (.inr ⟨i, by omega, he.symm⟩)
  ·rw [h] at h1
   rcases List.mem_append.1 h1 with h1 | h1
   ·rcases zLS.1 h1 with h1 | h1
    ·exact .inl h1
    ·obtain ⟨i, hi, he⟩ := zLV.1 h1
     have := List.mem_range.1 hi
     exact .inr (.inr ⟨i, by omega, he.symm⟩)
   ·exact .inr (.inl (zLT.1 h1))
 refine ⟨fun f hf => ?_, ?_⟩
 ·rcases key f hf with h | h | ⟨i, hi, h⟩
  ·exact ⟨109, by rw [h], by decide, by decide⟩
  ·exact ⟨122, by rw [h], by decide, by decide⟩
  ·exact ⟨UInt8.ofNat (97 + i), by rw [h]; rfl, (zHq i hi).1, (zHq i hi).2⟩
 ·rw [hmap]
  have := zGS _ hm
  rcases zBW ns with h | h
  ·rw [h, List.map_cons, zLU]
   exact this.1
  ·rw [h, List.map_append, List.map_cons, zLU]
   exact this.2
theorem Wy.mk' {l : List Fl} {sh : Sh} (h : Sch l sh) (hs : l.length ≤ 20) (hn : Nms l) : Wy l (zBR sh) :=
 Wy.of h hs hn.1 (zGq (by rw [← h.flat]; exact hn.2))
theorem zJ2 (ns : List Int) : Wy (qT ns) (zBR (jQ ns)) := Wy.mk' (zCf ns) (by have := (zDN ns).2; omega) (zIW ns)
theorem Wy.wlen {l : List Fl} {W : Nat → List UInt8} (h : Wy l W) : ∀ (i : Nat), i < l.length → (W i).length ≤ i := by
 intro i
 induction i using Nat.strongRecOn with
 | _ i ih =>
  intro hi
  by_cases h0 : i = 0
  ·subst h0; rw [h.root]; simp
  ·obtain ⟨k, _, hki, hw⟩ := h.step i hi (by omega)
   have := ih k hki (by omega)
   rw [hw, List.length_append, List.length_singleton]; omega
theorem Wy.asc {l : List Fl} {W : Nat → List UInt8} (h : Wy l W) : ∀ (i : Nat), i < l.length → ∀ c ∈ W i, c.toNat < 128 := by
 intro i
 induction i using Nat.strongRecOn with
 | _ i ih =>
  intro hi c hc
  by_cases h0 : i = 0
  ·subst h0; rw [h.root] at hc; cases hc
  ·obtain ⟨k, _, hki, hw⟩ := h.step i hi (by omega)
   rw [hw] at hc
   rcases List.mem_append.1 hc with hc | hc
   ·exact ih k hki (by omega) c hc
   ·rw [zLT.1 hc]
    obtain ⟨d, h1, h2, _⟩ := h.name i hi
    unfold zAL; rw [h1]; exact h2
theorem zEF : ∀ (l : List UInt8) (c : UInt8), c ∈ yU l → c ∈ l ∨ c = 46
 | [], c, h => by simp [yU] at h
 | [x], c, h => by simp [yU] at h; exact .inl (by simp [h])
 | x :: y :: r, c, h => by
  simp only [yU, zLS] at h
  rcases h with h | h | h
  ·exact .inl (by simp [h])
  ·exact .inr h
  ·rcases zEF (y :: r) c h with h | h
   ·exact .inl (List.mem_cons_of_mem _ h)
   ·exact .inr h
theorem Wy.own_asc {l : List Fl} {W : Nat → List UInt8} (h : Wy l W) (i : Nat) (h0 : 0 < i) (hi : i < l.length) : ∀ c ∈ (zBT l i).data.toList, c.toNat < 128 := by
 rw [h.own h0 hi]
 intro c hc
 rcases zEF _ c hc with hc | hc
 ·exact h.asc i hi c hc
 ·rw [hc]; decide
theorem Wy.own_size {l : List Fl} {W : Nat → List UInt8} (h : Wy l W) (i : Nat) (h0 : 0 < i) (hi : i < l.length) : (zBT l i).size ≤ 40 := by
 have h1 := zAn _ (h.ne h0 hi)
 have h2 := h.wlen i hi
 have h3 := h.len
 have h4 : (zBT l i).data.toList.length = (zBT l i).size := by simp
 rw [h.own h0 hi] at h4
 omega
theorem Wy.name_size {l : List Fl} {W : Nat → List UInt8} (h : Wy l W) : ∀ x ∈ l, x.name.size ≤ 20 := by
 intro x hx
 obtain ⟨i, hi, rfl⟩ := List.getElem_of_mem hx
 obtain ⟨c, h1, _⟩ := h.name i hi
 have : l[i].name.data.toList.length = l[i].name.size := by simp
 rw [h1] at this
 simp at this; omega
theorem zAt (w : World) (s : ByteArray) (pos : Nat) : Below w.heap.size w (w.iter s pos) := (Below.refl _ _).alloc (Nat.le_refl _) _
set_option maxHeartbeats 400000 in
theorem zI4 (s p : ByteArray) (w : World) (ha : ∀ c ∈ s.data.toList, c.toNat < 128) (hs : s.size ≤ maxLen) (hp : p.size ≤ maxLen) (hp0 : 0 < p.size) :
  Calls Try.prog 69 #[.string s, .string p] w fun e w' => e = .returned (.bool (wY s.data.toList p.data.toList)) ∧ Below w.heap.size w w' := by
 unfold maxLen at hs hp
 have hsl : s.data.toList.length = s.size := by simp
 have hpl : p.data.toList.length = p.size := by simp
 have HA : Hid (∀ (k : Nat) (h : k < s.size), s[k].toNat < 128) := zH (fun k h => ha _ (by have e : s[k] = s.data[k] := rfl; rw [e]; exact Array.getElem_mem_toList _))
 have HL := zH hsl; have HPL := zH hpl
 clear ha hsl hpl
 go_enter Try.func69, Try.ntmps69
 go_wp2_with fail
 go_loopw [] (fun w' => ∃ k : Nat, w' = w.iter s k ∧ k ≤ s.size ∧ k ≤ p.size) (fun w' => s.size - w'.iterPos w.heap.size)
 case atStart => exact ⟨0, rfl, by omega, by omega⟩
 case round =>
  obtain ⟨k, rfl, h1, h2⟩ := hrel
  by_cases hk : k < s.size
  ·have hnx : ∀ ty, (Instr.next (.pointer (some ⟨w.heap.size, 0, none⟩)) true ty).run Try.prog (w.iter s k) = _ := fun ty => run_next_ascii w s k ty hk (HA.out k hk)
   by_cases hkp : k = p.size
   ·have hb : ((k : Int) == (p.size : Int)) = true := beq_iff_eq.2 (by omega)
    have HI : Hid (wY s.data.toList p.data.toList = ((s[k] == 46) && ((s.extract 0 k).toList == p.toList))) := zH (by
     unfold wY
     rw [HL.out, HPL.out, if_pos (by omega), ← hkp, ByteArray.toList_eq, ByteArray.toList_eq]
     have e1 : s.data.toList.getD k 0 = s[k] := by rw [zLQ, zLP (by rw [HL.out]; exact hk)]; rfl
     have e2 : (s.extract 0 k).data.toList = s.data.toList.take k := by simp [ByteArray.data_extract]
     rw [e1, e2])
    clear hkp
    by_cases h46 : s[k].toNat = 46
    ·have hb4 : ((s[k].toNat : Int) == 46) = true := beq_iff_eq.2 (by omega)
     have HE : Hid (wY s.data.toList p.data.toList = ((s.extract 0 k).toList == p.toList)) := zH (by
      rw [HI.out, show (s[k] == 46) = true from beq_iff_eq.2 (UInt8.toNat.inj h46), Bool.true_and])
     clear HI h46
     have hks : (k : Int) ≤ (s.size : Int) := by omega
     go_wp2_with fail
     go_ret
     exact ⟨zAc HE.out.symm, zAt _ _ _⟩
    ·have hb4 : ((s[k].toNat : Int) == 46) = false := beq_eq_false_iff_ne.2 (by omega)
     have HE : Hid (wY s.data.toList p.data.toList = false) := zH (by
      rw [HI.out, show (s[k] == 46) = false from beq_eq_false_iff_ne.2 (fun e => h46 (by rw [e]; rfl)), Bool.false_and])
     clear HI h46
     go_wp2_with fail
     go_ret
     exact ⟨zAc HE.out.symm, zAt _ _ _⟩
   ·have hb : ((k : Int) == (p.size : Int)) = false := beq_eq_false_iff_ne.2 (by omega)
    have hlt : k < p.size := by omega
    clear hkp
    go_wp2_with fail
    go_roundw
    case rel => exact ⟨k + 1, rfl, by omega, by omega⟩
    case measure => simp; omega
  ·have hnx : ∀ ty, (Instr.next (.pointer (some ⟨w.heap.size, 0, none⟩)) true ty).run Try.prog (w.iter s k) = _ := fun ty => run_next_end w s k ty hk
   have HE : Hid (wY s.data.toList p.data.toList = (s.toList == p.toList)) := zH (by
    unfold wY; rw [HL.out, HPL.out, if_neg (by omega), ByteArray.toList_eq, ByteArray.toList_eq])
   have HZ : Hid (p.toList.isEmpty = false) := zH (by rw [List.isEmpty_eq_false_iff, ByteArray.toList_eq]; intro h; have h2 : p.data.toList.length = 0 := (congrArg List.length h).trans rfl; have h3 := HPL.out; omega)
   go_wp2_with fail
   all_goals
    go_ret
    first | exact ⟨zAc HE.out.symm, zAt _ _ _⟩ | exact ⟨zAc (by rw [HE.out]; exact (beq_iff_eq.2 (by assumption)).symm), zAt _ _ _⟩ | exact ⟨zAc (by rw [HE.out, HZ.out, Bool.or_false]), zAt _ _ _⟩
theorem zKS {a b : ByteArray} (h : a = b) : Ending.returned (.string a) = .returned (.string b) := by rw [h]
set_option maxHeartbeats 400000 in
theorem zJr (sa : Option Addr) (sc : Nat) (l : List Fl) (i : Nat) (w : World) (hs : Sl (fun b => b < w.heap.size) w 4 sa l.length sc (fls l)) (hn : l.length ≤ 20) (hkid : ∀ x ∈ l, x.kids ≤ 1000) (hnm : ∀ x ∈ l, x.name.size ≤ 20) (hi0 : 0 < i) (hi : i < l.length) :
  Calls Try.prog 70 #[.slice sa l.length sc, .int .i64 i] w fun e w' => e = .returned (.string (zBT l i)) ∧ Below w.heap.size w w' := by
 have hpl := zW l
 have HPL := zH hpl; clear hpl
 have HS := zH hs; have HK := zH hkid; have HNM := zH hnm; clear hs hkid hnm
 go_enter Try.func70, Try.ntmps70
 go_wp2_with fail
 refine (zGJ sa l.length sc l w HS.out (by omega) HK.out).mono ?_
 rintro e w1 ⟨aP, cP, rfl, ho, hb⟩
 have hown := ho
 have HS1 := zH (slb HS.out hb)
 have HB := zH hb
 obtain ⟨bp, rfl, _, _, hpc, _⟩ := hown.pos (by omega)
 obtain ⟨bs, off, rfl, _, hsc⟩ := HS1.out.pos (by omega)
 obtain ⟨f0, _, _, _⟩ := yB l i hi
 replace f0 := hsc _ _ f0
 have p0 := hpc _ _ (zO (par l) i (by rw [HPL.out]; exact hi))
 have hpb := yI l i (by rw [HPL.out]; exact hi)
 have hki : i < (par l).length := by rw [HPL.out]; exact hi
 have HOW : Hid (zBT l i = zCU (fun k => (l.getD k Fl.none).name) (upI (par l) (par l)[i]) l[i].name) := zH (by
  unfold zBT; rw [zLQ, zLP (by rw [HPL.out]; exact hi), zLQ, zLP hi]; rfl)
 have hsz := HNM.out l[i] (List.getElem_mem hi)
 generalize (par l)[i] = p at *
 generalize l[i].name = nm at *
 have HSC := zH hsc; have HPC := zH hpc
 clear hsc hpc hown ho hb hki
 go_wp2_with fail
 go_loop [6, 7] (fun o v => ∃ (z : Int) (out : ByteArray), o = .string out ∧ v = .int .i64 z ∧ -1 ≤ z ∧ z < 20 ∧ z < (l.length : Int) ∧ (out.size : Int) ≤ 21 * (20 - z) ∧ Hid (zBT l i = zCU (fun k => (l.getD k Fl.none).name) (upI (par l) z) out)) (fun _ v => (intOf v).toNat)
 case atStart => exact ⟨_, _, rfl, rfl, by omega, by omega, by omega, by omega, HOW⟩
 case round =>
  obtain ⟨z, out, rfl, rfl, h1, h2, h3, h4, HO⟩ := hrel
  by_cases hz : 0 < z
  ·obtain ⟨k, rfl⟩ : ∃ k : Nat, z = k := ⟨z.toNat, by omega⟩
   have hk : k < l.length := by omega
   have hkk : k < (par l).length := by rw [HPL.out]; exact hk
   obtain ⟨g0, _, _, _⟩ := yB l k hk
   replace g0 := HSC.out _ _ g0
   have q0 := HPC.out _ _ (zO (par l) k (by rw [HPL.out]; exact hk))
   have hqb := yI l k (by rw [HPL.out]; exact hk)
   have hgs := HNM.out l[k] (List.getElem_mem hk)
   have HO2 : Hid (zBT l i = zCU (fun k => (l.getD k Fl.none).name) (upI (par l) (par l)[k]) (l[k].name ++ ⟨#[46]⟩ ++ out)) := zH (by
    rw [HO.out, zE5 _ (by omega), zKs (fun j hj => yI l j hj) (by rw [HPL.out]; exact hk) (by omega), zCU, zLQ, zLP hk]; rfl)
   generalize (par l)[k] = q at *
   generalize l[k].name = gm at *
   clear HO
   go_wp2_with fail
   go_round
   case rel => exact ⟨q, _, rfl, rfl, by omega, by omega, by omega, by simp only [ByteArray.size_append']; have : (ByteArray.mk #[46]).size = 1 := rfl; omega, HO2⟩
   case measure => simp [intOf]; omega
  ·have HE : Hid (zBT l i = out) := zH (by rw [HO.out, zFr _ (by omega)]; rfl)
   clear HO
   go_wp2_with fail
   go_ret
   exact ⟨zKS HE.out.symm, HB.out⟩
end Go.Proofs.Ytjbkjfefjhbolaa
