/-
  The walks of cursor.New, Get. The walks of wire's reader: fail, take. The walks of wire's reader: truth, number.
-/
import Derived.Test.YtofhlopedflkiaaDecP
import Derived.Test.YtofhlopedflkiaaClone
import Derived.Test.YtofhlopedflkiaaBase2
import Derived.Test.YtofhlopedflkiaaEnc9
import Derived.Test.YtofhlopedflkiaaGet
set_option linter.unusedSimpArgs false
namespace Go.Shr
open Go.RowKit
theorem or_add8 {acc k y : Nat} (ha : acc < 256 ^ k) (hk : k < 8) (hy : y < 256) : bits .or .u64 (acc : Int) (((y * 256 ^ k : Nat)) : Int) = ((acc + y * 256 ^ k : Nat) : Int) := by
  have e : (256 : Nat) ^ k = 2 ^ (8 * k) := by rw [Nat.pow_mul]
  have hlt : acc < 2 ^ (8 * k) := e ▸ ha
  have hp : (256 : Nat) ^ k ≤ 256 ^ 7 := Nat.pow_le_pow_right (by decide) (by omega)
  have hy2 : y * 256 ^ k < 18446744073709551616 := by
    have := Nat.mul_le_mul (show y ≤ 255 by omega) hp
    omega
  rw [bits_or_u64_nat _ _ (by omega) hy2]
  congr 1
  rw [Nat.or_comm, Nat.mul_comm, e, ← Nat.two_pow_add_eq_or_of_lt hlt y]
  omega
theorem or_lt8 {acc k y : Nat} (ha : acc < 256 ^ k) (hy : y < 256) : acc + y * 256 ^ k < 256 ^ (k + 1) := by
  have := Nat.mul_le_mul_right (256 ^ k) (show y ≤ 255 by omega)
  rw [Nat.pow_succ]; omega
theorem shl_wrap8 (x k : Nat) (h : x * 256 ^ k < 18446744073709551616) : IntKind.u64.wrap ((x : Int) * 2 ^ (8 * k)) = ((x * 256 ^ k : Nat) : Int) := by
  have e1 : (2 : Int) ^ (8 * k) = ((256 ^ k : Nat) : Int) := by rw [Int.pow_mul]; simp
  rw [e1, show (x : Int) * ((256 ^ k : Nat) : Int) = ((x * 256 ^ k : Nat) : Int) by simp, IntKind.wrap_u64]
  omega
end Go.Shr
namespace Go.Proofs.Ytofhlopedflkiaa
open Go.RowKit Go.Shr
theorem ofLe_snoc : ∀ (l : List UInt8) (x : UInt8), ofLe (l ++ [x]) = ofLe l + x.toNat * 256 ^ l.length
  | [], x => by simp [ofLe]
  | b :: l, x => by
    simp only [List.cons_append, ofLe, ofLe_snoc l x, List.length_cons, Nat.pow_succ]
    have e : 256 * (x.toNat * 256 ^ l.length) = x.toNat * (256 ^ l.length * 256) := by rw [← Nat.mul_assoc, Nat.mul_comm 256 x.toNat, Nat.mul_assoc, Nat.mul_comm 256]
    rw [Nat.mul_add, e]; omega
theorem ofLe_lt : ∀ (l : List UInt8), ofLe l < 256 ^ l.length
  | [] => by simp [ofLe]
  | b :: l => by
    have := ofLe_lt l
    have hb := b.toNat_lt
    simp only [ofLe, List.length_cons, Nat.pow_succ]; omega
theorem hmf9 : ∀ (fn : Fn) (first cap : Array Value) (w : World), (Instr.makeFunc fn first cap).run Try.prog w = .ok (.func fn first cap) w := fun _ _ _ _ => rfl
theorem info_s8 : (Try.prog.info? 5).map (fun i => (i.zero, i.size, i.bytes)) = some (some (.int .u8 0), 1, 1) := by kernel_rfl
/-- What taking yields. -/
def takeB (n : Nat) (bs : List UInt8) : List UInt8 := if bs.length < n then [] else bs.take n
theorem takeB_len (n : Nat) (bs : List UInt8) : (takeB n bs).length ≤ n := by unfold takeB; split <;> simp <;> omega
set_option maxHeartbeats 400000 in
theorem cfail_v (C : Nat) (a : Option Addr) (n cap : Nat) (w : World) (hr : Rw w C #[.slice a n cap, .int .i64 0] 110) :
    Calls Try.prog 69 #[.pointer (some ⟨C, 0, none⟩), .int .i64 8] w fun e w' => (∃ v, e = .returned v) ∧ Chg (fun k => k = C) w w' := by
  have q0 : w.cell? ⟨C, 0, none⟩ = some (.slice a n cap) := hr.cell 0
  have q1 : w.cell? ⟨C, 1, none⟩ = some (.int .i64 0) := hr.cell 1
  have qf := hr.frozen
  have ql := hr.lt
  have h2 := hr.set 1 (.int .i64 8)
  have p0 : (w.setCell ⟨C, 1, none⟩ (.int .i64 8)).cell? ⟨C, 0, none⟩ = some (.slice a n cap) := h2.cell 0
  have p1 : (w.setCell ⟨C, 1, none⟩ (.int .i64 8)).cell? ⟨C, 1, none⟩ = some (.int .i64 8) := h2.cell 1
  clear h2 hr
  go_enter Try.func69, Try.ntmps69
  go_wp2_with fail
  refine bodyPost_end (v := .tuple #[]) (by simp [results, Try.results69, go_sem]) rfl ?_
  exact ⟨⟨_, rfl⟩, ((Chg.refl (fun k => k = C) w).setCell (p := ⟨C, 1, none⟩) (.inr rfl) _).setCell (p := ⟨C, 0, none⟩) (.inr rfl) _⟩
set_option maxHeartbeats 1000000 in
theorem ctake_v (C : Nat) (a : Option Addr) (cap : Nat) (bs : List UInt8) (n : Nat) (hn : n ≤ 8) (w : World) (hr : Rw w C #[.slice a bs.length cap, .int .i64 0] 110) (hs : Sl (fun b => b < w.heap.size ∧ b ≠ C) w 1 a bs.length cap (u8s bs)) :
    Calls Try.prog 68 #[.pointer (some ⟨C, 0, none⟩), .int .i64 n] w fun e w' => ∃ a' cap', e = .returned (.slice a' (takeB n bs).length cap') ∧ Sl (fun b => b < w'.heap.size) w' 1 a' (takeB n bs).length cap' (u8s (takeB n bs)) ∧ Chg (fun k => k = C) w w' := by
  obtain ⟨i0, hi0, hz0, hz1, hz2⟩ := info_parts info_s8
  have q0 : w.cell? ⟨C, 0, none⟩ = some (.slice a bs.length cap) := hr.cell 0
  have q1 : w.cell? ⟨C, 1, none⟩ = some (.int .i64 0) := hr.cell 1
  have qf := hr.frozen
  have ql := hr.lt
  have hmx := Nat.le_trans hs.le hs.max
  unfold maxLen at hmx
  have HS := Lib.hid hs; clear hs
  by_cases hlt : bs.length < n
  · have HT : Hid (takeB n bs = []) := Lib.hid (by rw [takeB, if_pos hlt])
    have hlt' : (bs.length : Int) < (n : Int) := by omega
    have HR := Lib.hid hr
    go_enter Try.func68, Try.ntmps68
    go_wp2_with fail
    refine (cfail_v C a bs.length cap w HR.out).mono ?_
    rintro e w1 ⟨⟨v, rfl⟩, hc⟩
    have HC := Lib.hid hc
    clear hc
    go_wp2_with fail
    go_ret
    rw [HT.out]
    exact ⟨none, 0, rfl, Sl.nil _ _ _ _, HC.out⟩
  · have hlt' : ¬ (bs.length : Int) < (n : Int) := by omega
    have HT : Hid (takeB n bs = bs.take n) := Lib.hid (by rw [takeB, if_neg hlt])
    obtain ⟨a1, hr1, hs1⟩ := Sl.upto (P := Try.prog) (t := 30) Try.underlying30 hi0 hz1 HS.out .i64 (n : Int) (by omega) (by omega)
    obtain ⟨a2, hr2, hs2⟩ := Sl.from (P := Try.prog) (t := 30) Try.underlying30 hi0 hz1 HS.out .i64 (n : Int) (by omega) (by omega)
    have HS1 := Lib.hid hs1
    clear hs1 hs2 hlt hr
    go_enter Try.func68, Try.ntmps68
    go_wp2_with fail
    have hl : (bs.take n).length = n := by simp; omega
    have h1 := HS1.out
    rw [Int.toNat_natCast, Nat.mul_one] at h1
    have hc : Chg (fun k => k = C) w (w.setCell ⟨C, 0, none⟩ (.slice a2 (bs.length - n) (cap - n))) := (Chg.refl (fun k => k = C) w).setCell (p := ⟨C, 0, none⟩) (.inr rfl) _
    go_ret
    rw [HT.out, hl]
    refine ⟨a1, cap, rfl, ?_, hc⟩
    have h3 : u8s (bs.take n) = (u8s bs).take n := by simp [u8s]
    rw [h3]
    exact Sl.go hc (fun k hk h => ⟨h.2, by simpa using hk⟩) h1 (by decide)
theorem cnew_v (a : Option Addr) (cap : Nat) (bs : List UInt8) (w : World) (hn : bs.length ≤ 10000000000000) (hs : Sl (fun b => b < w.heap.size) w 1 a bs.length cap (u8s bs)) :
    Calls Try.prog 66 #[.slice a bs.length cap] w fun e w' => ∃ C a' cap', e = .returned (.pointer (some ⟨C, 0, none⟩)) ∧ Rw w' C #[.slice a' bs.length cap', .int .i64 0] 110 ∧ Sl (fun b => b < w'.heap.size ∧ b ≠ C) w' 1 a' bs.length cap' (u8s bs) ∧ w.heap.size ≤ C ∧ Below w.heap.size w w' := by
  have HS := Lib.hid hs; clear hs
  go_enter Try.func66, Try.ntmps66
  go_wp2_with fail
  refine (clone_u8 _ a bs.length cap _ w HS.out (u8s_one _) (by omega)).mono ?_
  rintro e w1 ⟨a1, c1, rfl, ho, hb⟩
  have HO := Lib.hid ho.sl; have HB := Lib.hid hb
  clear ho hb
  go_wp2_with fail
  go_ret
  exact ⟨w1.heap.size, a1, c1, rfl, Rw.new w1 _ _, (HO.out.alloc _).mono (fun k hk h => ⟨by simp; omega, by omega⟩) (by decide), HB.out.size, ba HB.out _⟩
set_option maxHeartbeats 1000000 in
theorem cget_v (C : Nat) (a : Option Addr) (cap : Nat) (bs : List UInt8) (n : Nat) (hn : n ≤ 8) (w : World) (hr : Rw w C #[.slice a bs.length cap, .int .i64 0] 110) (hs : Sl (fun b => b < w.heap.size ∧ b ≠ C) w 1 a bs.length cap (u8s bs)) :
    Calls Try.prog 67 #[.pointer (some ⟨C, 0, none⟩), .int .i64 n] w fun e w' => e = .returned (.int .u64 (ofLe (takeB n bs) : Int)) ∧ Chg (fun k => k = C) w w' := by
  have hmf' := hmf9
  have HR := Lib.hid hr; have HS := Lib.hid hs; clear hr hs
  have hn8 : ¬ (8 : Int) < (n : Int) := by omega
  go_enter Try.func67, Try.ntmps67
  go_wp2_with fail
  refine (ctake_v C a cap bs n hn w HR.out HS.out).mono ?_
  rintro e w1 ⟨a1, c1, rfl, hs1, hc⟩
  have HS1 := Lib.hid hs1; have HC := Lib.hid hc
  have hdl := takeB_len n bs
  generalize hD : takeB n bs = ds at *
  have HD := Lib.hid hD
  clear hs1 hc hmf' hn8 hD
  go_wp2_with fail
  go_loop [6, 17] (fun v i => ∃ (k : Nat), v = .int .u64 (ofLe (ds.take k) : Int) ∧ i = .int .i64 k ∧ k ≤ ds.length) (fun _ i => ds.length - (intOf i).toNat)
  case atStart => exact ⟨0, by simp [ofLe], rfl, Nat.zero_le _⟩
  case round =>
    obtain ⟨k, rfl, rfl, hk⟩ := hrel
    by_cases hlt : k < ds.length
    · obtain ⟨b, off, rfl, _, hc⟩ := HS1.out.pos (by omega)
      have hcell := hc k _ (u8s_get ds k hlt)
      have hacc := ofLe_lt (ds.take k)
      have hkl : (ds.take k).length = k := by simp; omega
      rw [hkl] at hacc
      have HX : Hid (ofLe (ds.take (k + 1)) = ofLe (ds.take k) + ds[k].toNat * 256 ^ k) := Lib.hid (by rw [List.take_succ_eq_append_getElem hlt, ofLe_snoc, hkl])
      have hx := ds[k].toNat_lt
      generalize ds[k] = x at *
      clear hc hkl
      have hS : x.toNat * 256 ^ k < 18446744073709551616 := by
        have h8 : (256 : Nat) ^ k ≤ 256 ^ 7 := Nat.pow_le_pow_right (by decide) (by omega)
        have := Nat.mul_le_mul (show x.toNat ≤ 255 by omega) h8
        omega
      have ho := or_add8 (y := x.toNat) hacc (by omega) (by omega)
      have hw := shl_wrap8 x.toNat k hS
      clear hS hacc
      generalize hSd : x.toNat * 256 ^ k = S at *
      generalize ofLe (ds.take k) = acc at *
      go_wp2_with fail
      go_round
      case rel => exact ⟨k + 1, by rw [HX.out]; congr 1, by go_num, by omega⟩
      case measure => simp [intOf]; omega
    · obtain rfl : k = ds.length := by omega
      rw [List.take_length]
      go_wp2_with fail
      go_ret
      rw [HD.out]
      exact ⟨rfl, HC.out⟩
end Go.Proofs.Ytofhlopedflkiaa
namespace Go.Proofs.Ytofhlopedflkiaa
open Go.RowKit Go.Shr
/-- A reader: the schema, the bytes that are left, the error; all that it reads lies ahead of it. -/
structure RdS (R : Nat) (sa : Option Addr) (scap bk : Nat) (l : List Fl) (w : World) (bs : List UInt8) (e : Nat) : Prop where
  row : ∃ ba bcap, Rw w R #[.slice sa l.length scap, .slice (some ⟨bk, 0, none⟩) l.length l.length, .slice ba bs.length bcap, .int .i64 (e : Int)] 69 ∧ Sl (fun b => b < R) w 1 ba bs.length bcap (u8s bs)
  shp : Shp R w sa scap bk l
  small : bs.length ≤ 10000000000000
theorem RdS.lt {R : Nat} {sa : Option Addr} {scap bk : Nat} {l : List Fl} {w : World} {bs : List UInt8} {e : Nat} (h : RdS R sa scap bk l w bs e) : R < w.heap.size := by
  obtain ⟨_, _, h1, _⟩ := h.row; exact h1.lt
theorem RdS.below {R : Nat} {sa : Option Addr} {scap bk : Nat} {l : List Fl} {w w' : World} {bs : List UInt8} {e : Nat} (h : RdS R sa scap bk l w bs e) (hb : Below w.heap.size w w') : RdS R sa scap bk l w' bs e := by
  have hlt := h.lt
  obtain ⟨ba, bcap, h1, h2⟩ := h.row
  exact ⟨⟨ba, bcap, h1.below hb, h2.chg (Chg.ofBelow hb) (fun k hk => by omega)⟩, h.shp.keep (hb.mono (by omega)), h.small⟩
set_option maxHeartbeats 400000 in
theorem fail_v (R : Nat) (sa : Option Addr) (scap bk : Nat) (l : List Fl) (bs : List UInt8) (e x : Nat) (w : World) (h : RdS R sa scap bk l w bs e) :
    Calls Try.prog 32 #[.pointer (some ⟨R, 0, none⟩), .int .i64 (x : Int)] w fun en w' => (∃ v, en = .returned v) ∧ RdS R sa scap bk l w' bs (if e = 0 then x else e) ∧ Chg (fun k => k = R) w w' := by
  obtain ⟨ba, bcap, h1, h2⟩ := h.row
  have q3 : w.cell? ⟨R, 3, none⟩ = some (.int .i64 (e : Int)) := h1.cell 3
  have qf := h1.frozen
  have ql := h1.lt
  have H := Lib.hid h; have H1 := Lib.hid h1; have H2 := Lib.hid h2
  clear h h1 h2
  by_cases he : e = 0
  · subst he
    go_enter Try.func32, Try.ntmps32
    go_wp2_with fail
    refine bodyPost_end (v := .tuple #[]) (by simp [results, Try.results32, go_sem]) rfl ?_
    have hc : Chg (fun k => k = R) w (w.setCell ⟨R, 3, none⟩ (.int .i64 (x : Int))) := (Chg.refl (fun k => k = R) w).setCell (p := ⟨R, 3, none⟩) (.inr rfl) _
    exact ⟨⟨_, rfl⟩, ⟨⟨ba, bcap, H1.out.set 3 _, H2.out.chg hc (fun k hk => by omega)⟩, H.out.shp.keep (hc.below (by omega) (fun i hi h => by omega)), H.out.small⟩, hc⟩
  · have heb : ((e : Int) == 0) = false := beq_eq_false_iff_ne.2 (by omega)
    have HE := Lib.hid he
    clear he
    go_enter Try.func32, Try.ntmps32
    go_wp2_with fail
    refine bodyPost_end (v := .tuple #[]) (by simp [results, Try.results32, go_sem]) rfl ?_
    try rw [if_neg HE.out]
    exact ⟨⟨_, rfl⟩, H.out, Chg.refl _ _⟩
theorem RdS.set {R : Nat} {sa : Option Addr} {scap bk : Nat} {l : List Fl} {w w' : World} {bs bs' : List UInt8} {e e' : Nat} (h : RdS R sa scap bk l w bs e) (hc : Chg (fun k => k = R) w w') {ba : Option Addr} {bcap : Nat}
    (hr : Rw w' R #[.slice sa l.length scap, .slice (some ⟨bk, 0, none⟩) l.length l.length, .slice ba bs'.length bcap, .int .i64 (e' : Int)] 69) (hs : Sl (fun b => b < R) w' 1 ba bs'.length bcap (u8s bs')) (hl : bs'.length ≤ bs.length) : RdS R sa scap bk l w' bs' e' :=
  ⟨⟨ba, bcap, hr, hs⟩, h.shp.keep (hc.below (by have := h.lt; omega) (fun i hi h => by omega)), by have := h.small; omega⟩
/-- What taking bytes yields. -/
def takeS (n : Nat) (bs : List UInt8) (e : Nat) : List UInt8 × List UInt8 × Nat := if e ≠ 0 then ([], bs, e) else if bs.length < n then ([], bs, 8) else (bs.take n, bs.drop n, 0)
set_option maxHeartbeats 1000000 in
set_option maxRecDepth 100000 in
theorem take_v (R : Nat) (sa : Option Addr) (scap bk : Nat) (l : List Fl) (bs : List UInt8) (e n : Nat) (w : World) (h : RdS R sa scap bk l w bs e) (hn : n ≤ 10000000000000) :
    Calls Try.prog 47 #[.pointer (some ⟨R, 0, none⟩), .int .i64 (n : Int)] w fun en w' => ∃ a' cap', en = .returned (.slice a' (takeS n bs e).1.length cap') ∧ Sl (fun b => b < R) w' 1 a' (takeS n bs e).1.length cap' (u8s (takeS n bs e).1) ∧ RdS R sa scap bk l w' (takeS n bs e).2.1 (takeS n bs e).2.2 ∧ Chg (fun k => k = R) w w' := by
  obtain ⟨i0, hi0, hz0, hz1, hz2⟩ := info_parts info_u8
  obtain ⟨ba, bcap, h1, h2⟩ := h.row
  have q2 : w.cell? ⟨R, 2, none⟩ = some (.slice ba bs.length bcap) := h1.cell 2
  have q3 : w.cell? ⟨R, 3, none⟩ = some (.int .i64 (e : Int)) := h1.cell 3
  have qf := h1.frozen
  have ql := h1.lt
  have hmx := Nat.le_trans h2.le h2.max
  unfold maxLen at hmx
  have H := Lib.hid h; have H1 := Lib.hid h1; have H2 := Lib.hid h2
  by_cases hlt : bs.length < n
  · have hlt' : (bs.length : Int) < (n : Int) := by omega
    have HT : Hid (takeS n bs e = ([], bs, if e = 0 then 8 else e)) := Lib.hid (by
      unfold takeS
      by_cases he : e = 0
      · rw [if_neg (fun h => h he), if_pos hlt, if_pos he]
      · rw [if_pos he, if_neg he])
    clear h h1 h2 hlt
    go_enter Try.func47, Try.ntmps47
    go_wp2_with fail
    refine (fail_v R sa scap bk l bs e 8 w H.out).mono ?_
    rintro en w1 ⟨⟨v, rfl⟩, hr1, hc1⟩
    have he8 : (if e = 0 then 8 else e) ≠ 0 := by split <;> omega
    generalize (if e = 0 then 8 else e) = e1 at *
    have HR1 := Lib.hid hr1; have HC1 := Lib.hid hc1
    obtain ⟨ba1, bcap1, r1, _⟩ := hr1.row
    have p3 : w1.cell? ⟨R, 3, none⟩ = some (.int .i64 (e1 : Int)) := r1.cell 3
    have he8b : ((e1 : Int) != 0) = true := by simp; omega
    have he8c : ((e1 : Int) == 0) = false := beq_eq_false_iff_ne.2 (by omega)
    clear hr1 hc1 r1 q2 q3 qf
    go_wp2_with fail
    go_ret
    rw [HT.out]
    exact ⟨none, 0, rfl, Sl.nil _ _ _ _, HR1.out, HC1.out⟩
  · have hlt' : ¬ (bs.length : Int) < (n : Int) := by omega
    by_cases he : e = 0
    · have HT : Hid (takeS n bs e = (bs.take n, bs.drop n, 0)) := Lib.hid (by unfold takeS; rw [if_neg (fun h => h he), if_neg hlt])
      obtain ⟨a1, hr1, hs1⟩ := Sl.upto (P := Try.prog) (t := 30) Try.underlying30 hi0 hz1 h2 .i64 (n : Int) (by omega) (by omega)
      obtain ⟨a2, hr2, hs2⟩ := Sl.from (P := Try.prog) (t := 30) Try.underlying30 hi0 hz1 h2 .i64 (n : Int) (by omega) (by omega)
      have hnl : n ≤ bs.length := by omega
      rw [Int.toNat_natCast] at hr1 hs1 hr2 hs2
      rw [Nat.mul_one] at hs1 hs2
      have HS1 := Lib.hid hs1; have HS2 := Lib.hid hs2
      clear h h1 h2 hs1 hs2 hlt
      subst he
      go_enter Try.func47, Try.ntmps47
      go_wp2_with fail
      have hl : (bs.take n).length = n := by simp; omega
      have hl2 : (bs.drop n).length = bs.length - n := by simp
      have hc : Chg (fun k => k = R) w (w.setCell ⟨R, 2, none⟩ (.slice a2 (bs.length - n) (bcap - n))) := (Chg.refl (fun k => k = R) w).setCell (p := ⟨R, 2, none⟩) (.inr rfl) _
      go_ret
      rw [HT.out]
      dsimp only
      rw [hl]
      have h3 : u8s (bs.take n) = (u8s bs).take n := by simp [u8s]
      have h4 : u8s (bs.drop n) = (u8s bs).drop n := by simp [u8s]
      refine ⟨a1, bcap, rfl, by rw [h3]; exact HS1.out.chg hc (fun k hk => by omega), H.out.set hc (ba := a2) (bcap := bcap - n) ?_ ?_ (by omega), hc⟩
      · rw [hl2]; exact H1.out.set 2 _
      · rw [hl2, h4]; exact HS2.out.chg hc (fun k hk => by omega)
    · have HT : Hid (takeS n bs e = ([], bs, e)) := Lib.hid (by unfold takeS; rw [if_pos he])
      have he8b : ((e : Int) != 0) = true := by simp; omega
      have he8c : ((e : Int) == 0) = false := beq_eq_false_iff_ne.2 (by omega)
      clear h h1 h2 hlt he
      go_enter Try.func47, Try.ntmps47
      go_wp2_with fail
      go_ret
      rw [HT.out]
      exact ⟨none, 0, rfl, Sl.nil _ _ _ _, H.out, Chg.refl _ _⟩
theorem takeB_S (n : Nat) (hn : 0 < n) (bs : List UInt8) (e : Nat) : takeB n (takeS n bs e).1 = (takeS n bs e).1 := by
  unfold takeS
  split
  · simp [takeB, hn]
  · split
    · simp [takeB, hn]
    · rw [takeB, if_neg (by simp; omega)]; exact (List.take_take ..).trans (by rw [Nat.min_self])
theorem takeS_len (n : Nat) (bs : List UInt8) (e : Nat) : (takeS n bs e).1.length ≤ bs.length := by
  unfold takeS; split
  · simp
  · split
    · simp
    · simp only [List.length_take]; omega
theorem fixed_v (R : Nat) (sa : Option Addr) (scap bk : Nat) (l : List Fl) (bs : List UInt8) (e n : Nat) (w : World) (h : RdS R sa scap bk l w bs e) (hn : n ≤ 8) (hn0 : 0 < n) :
    Calls Try.prog 62 #[.pointer (some ⟨R, 0, none⟩), .int .i64 (n : Int)] w fun en w' => en = .returned (.int .u64 (ofLe (takeS n bs e).1 : Int)) ∧ RdS R sa scap bk l w' (takeS n bs e).2.1 (takeS n bs e).2.2 ∧ Chg (fun k => k = R) w w' := by
  have H := Lib.hid h; clear h
  have HT := Lib.hid (takeB_S n hn0 bs e)
  have hsm := takeS_len n bs e
  have hsm2 := H.out.small
  go_enter Try.func62, Try.ntmps62
  go_wp2_with fail
  refine (take_v R sa scap bk l bs e n w H.out (by omega)).mono ?_
  rintro en w1 ⟨a1, c1, rfl, hs1, hr1, hc1⟩
  have hR := hr1.lt
  have HS1 := Lib.hid (hs1.mono (ok' := fun b => b < w1.heap.size) (fun k hk _ => hk) (by decide)); have HR1 := Lib.hid hr1; have HC1 := Lib.hid hc1
  generalize hD : (takeS n bs e).1 = ds at *
  have HD := Lib.hid hD
  clear hs1 hr1 hc1 hD
  go_wp2_with fail
  refine (cnew_v a1 c1 ds w1 (by omega) HS1.out).mono ?_
  rintro en w2 ⟨C, a2, c2, rfl, hr2, hs2, hC, hb2⟩
  have HR2 := Lib.hid hr2; have HS2 := Lib.hid hs2; have HB2 := Lib.hid hb2
  clear hr2 hs2 hb2
  go_wp2_with fail
  refine (cget_v C a2 c2 ds n hn w2 HR2.out HS2.out).mono ?_
  rintro en w3 ⟨rfl, hc3⟩
  rw [HT.out]
  have hb3 : Below w1.heap.size w1 w3 := HB2.out.trans (hc3.below HB2.out.size (fun i hi h => by have h' : i = C := h; omega))
  have HB3 := Lib.hid hb3
  clear hc3 hb3
  go_wp2_with fail
  go_ret
  rw [HD.out]
  exact ⟨rfl, HR1.out.below HB3.out, HC1.out.trans (Chg.ofBelow HB3.out) (fun i hi h => by have := HC1.out.size; omega)⟩
end Go.Proofs.Ytofhlopedflkiaa
namespace Go.Proofs.Ytofhlopedflkiaa
open Go.RowKit Go.Shr
/-- What a call of the reader yields, as what is read says. -/
def Res {α : Type} (e : Nat) (D : Rd α) (v : α) (bs' : List UInt8) (e' : Nat) : Prop :=
  if e = 0 then (match D with | .ok (a, r) => v = a ∧ bs' = r ∧ e' = 0 | .error x => e' = x ∧ x ≠ 0) else e' = e
theorem Res.bad {α : Type} {e : Nat} {D : Rd α} {v : α} {bs' : List UInt8} (he : e ≠ 0) : Res e D v bs' e := by unfold Res; rw [if_neg he]
theorem Res.good {α : Type} {D : Rd α} {v : α} {bs' : List UInt8} (h : D = .ok (v, bs')) : Res 0 D v bs' 0 := by unfold Res; rw [if_pos rfl, h]; exact ⟨rfl, rfl, rfl⟩
theorem Res.err {α : Type} {D : Rd α} {v : α} {bs' : List UInt8} {x : Nat} (h : D = .error x) (hx : x ≠ 0) : Res 0 D v bs' x := by unfold Res; rw [if_pos rfl, h]; exact ⟨rfl, hx⟩
set_option maxHeartbeats 1000000 in
set_option maxRecDepth 100000 in
theorem truth_v (R : Nat) (sa : Option Addr) (scap bk : Nat) (l : List Fl) (bs : List UInt8) (e : Nat) (w : World) (h : RdS R sa scap bk l w bs e) :
    Calls Try.prog 61 #[.pointer (some ⟨R, 0, none⟩)] w fun en w' => ∃ (v : Nat) (bs' : List UInt8) (e' : Nat), en = .returned (.int .i64 (v : Int)) ∧ v ≤ 1 ∧ Res e (rdBit bs) v bs' e' ∧ RdS R sa scap bk l w' bs' e' ∧ Chg (fun k => k = R) w w' := by
  obtain ⟨ba, bcap, h1, h2⟩ := h.row
  have q3 : w.cell? ⟨R, 3, none⟩ = some (.int .i64 (e : Int)) := h1.cell 3
  have H := Lib.hid h
  clear h h1 h2
  by_cases he : e = 0
  · subst he
    match bs with
    | [] =>
      go_enter Try.func61, Try.ntmps61
      go_wp2_with fail
      refine (fixed_v R sa scap bk l [] 0 1 w H.out (by decide) (by decide)).mono ?_
      rintro en w1 ⟨rfl, hr1, hc1⟩
      have hr1' : RdS R sa scap bk l w1 [] 8 := hr1
      have HR1 := Lib.hid hr1'; have HC1 := Lib.hid hc1
      have e1 : (ofLe (takeS 1 [] 0).1 : Int) = 0 := rfl
      rw [e1]
      clear hr1 hr1' hc1 e1 q3
      go_wp2_with fail
      go_ret
      exact ⟨0, [], 8, rfl, by omega, Res.err rfl (by decide), HR1.out, HC1.out⟩
    | b :: r =>
      have hb := b.toNat_lt
      go_enter Try.func61, Try.ntmps61
      go_wp2_with fail
      refine (fixed_v R sa scap bk l (b :: r) 0 1 w H.out (by decide) (by decide)).mono ?_
      rintro en w1 ⟨rfl, hr1, hc1⟩
      have ht : takeS 1 (b :: r) 0 = ([b], r, 0) := by simp [takeS]
      rw [ht] at hr1 ⊢
      have e1 : (ofLe [b] : Int) = (b.toNat : Int) := by simp [ofLe]
      dsimp only at hr1 ⊢
      rw [e1]
      have HR1 := Lib.hid hr1; have HC1 := Lib.hid hc1
      clear hr1 hc1 e1 q3 ht
      by_cases hb1 : 1 < b.toNat
      · have HD : Hid (rdBit (b :: r) = .error 10) := Lib.hid (by rw [rdBit, if_pos hb1])
        have hb1' : (1 : Int) < (b.toNat : Int) := by omega
        clear hb1
        go_wp2_with fail
        refine (fail_v R sa scap bk l r 0 10 w1 HR1.out).mono ?_
        rintro en w2 ⟨⟨v, rfl⟩, hr2, hc2⟩
        have HR2 := Lib.hid hr2; have HC2 := Lib.hid (HC1.out.trans hc2 (fun _ _ h => h))
        clear hr2 hc2
        go_wp2_with fail
        go_ret
        exact ⟨0, r, 10, rfl, by omega, Res.err HD.out (by decide), HR2.out, HC2.out⟩
      · have HD : Hid (rdBit (b :: r) = .ok (b.toNat, r)) := Lib.hid (by rw [rdBit, if_neg hb1])
        have hb1' : ¬ (1 : Int) < (b.toNat : Int) := by omega
        have HB1 := Lib.hid hb1
        clear hb1
        go_wp2_with fail
        go_ret
        exact ⟨b.toNat, rfl, by have := HB1.out; omega, r, 0, Res.good HD.out, HR1.out, HC1.out⟩
  · have heb : ((e : Int) != 0) = true := by simp; omega
    have hec : ((e : Int) == 0) = false := beq_eq_false_iff_ne.2 (by omega)
    have HE := Lib.hid he
    clear he
    go_enter Try.func61, Try.ntmps61
    go_wp2_with fail
    go_ret
    exact ⟨0, bs, e, rfl, by omega, Res.bad HE.out, H.out, Chg.refl _ _⟩
theorem vgetFrom_n : ∀ (l : List UInt8) (k acc : Nat), (vgetFrom k acc l).2.1 ≤ k + l.length
  | [], k, acc => by simp [vgetFrom]
  | x :: r, k, acc => by
    have := vgetFrom_n r (k + 1) (acc + (x.toNat % 128) * 128 ^ k)
    rw [vgetFrom]
    split
    · simp
    · split
      · split
        · simp
        · simp
      · simp only [List.length_cons]; omega
theorem vget_n (l : List UInt8) : (vget l).2.1 ≤ l.length := by have := vgetFrom_n l 0 0; rw [Nat.zero_add] at this; exact this
set_option maxHeartbeats 1000000 in
set_option maxRecDepth 100000 in
theorem number_v (R : Nat) (sa : Option Addr) (scap bk : Nat) (l : List Fl) (bs : List UInt8) (e most wrong : Nat) (w : World) (h : RdS R sa scap bk l w bs e) (hm : most ≤ 1000) (hw : wrong ≠ 0) :
    Calls Try.prog 30 #[.pointer (some ⟨R, 0, none⟩), .int .i64 (most : Int), .int .i64 (wrong : Int)] w fun en w' => ∃ (v : Nat) (bs' : List UInt8) (e' : Nat), en = .returned (.int .i64 (v : Int)) ∧ v ≤ most ∧ Res e (rdNum most wrong bs) v bs' e' ∧ RdS R sa scap bk l w' bs' e' ∧ Chg (fun k => k = R) w w' := by
  obtain ⟨ba, bcap, h1, h2⟩ := h.row
  have q2 : w.cell? ⟨R, 2, none⟩ = some (.slice ba bs.length bcap) := h1.cell 2
  have q3 : w.cell? ⟨R, 3, none⟩ = some (.int .i64 (e : Int)) := h1.cell 3
  have H := Lib.hid h; have H2 := Lib.hid h2
  have hsm := h.small
  have hvn := vget_n bs
  clear h h1 h2
  by_cases he : e = 0
  · subst he
    have HG : Hid (rdNum most wrong bs = if (vget bs).2.2 ≠ 0 then .error (vget bs).2.2 else if most < (vget bs).1 then .error wrong else .ok ((vget bs).1, bs.drop (vget bs).2.1)) := Lib.hid rfl
    go_enter Try.func30, Try.ntmps30
    go_wp2_with fail
    refine (get_u8 _ ba bs.length bcap bs w H2.out (by omega)).mono ?_
    rintro en w1 ⟨rfl, rfl⟩
    generalize (vget bs).1 = v at *
    generalize (vget bs).2.1 = n at *
    generalize (vget bs).2.2 = er at *
    clear q2 q3
    go_wp2_with fail
    refine (fail_v R sa scap bk l bs 0 er _ H.out).mono ?_
    rintro en w2 ⟨⟨vv, rfl⟩, hr2, hc2⟩
    rw [if_pos rfl] at hr2
    have HR2 := Lib.hid hr2; have HC2 := Lib.hid hc2
    clear hr2 hc2
    by_cases her : er = 0
    · subst her
      by_cases hv : most < v
      · have HD : Hid (rdNum most wrong bs = .error wrong) := Lib.hid (by rw [HG.out, if_neg (fun h => h rfl), if_pos hv])
        have hv' : (most : Int) < (v : Int) := by omega
        clear hv HG
        go_wp2_with fail
        refine (fail_v R sa scap bk l bs 0 wrong w2 HR2.out).mono ?_
        rintro en w3 ⟨⟨vv, rfl⟩, hr3, hc3⟩
        rw [if_pos rfl] at hr3
        have HR3 := Lib.hid hr3; have HC3 := Lib.hid (HC2.out.trans hc3 (fun _ _ h => h))
        clear hr3 hc3
        go_wp2_with fail
        refine (take_v R sa scap bk l bs wrong n w3 HR3.out (by omega)).mono ?_
        rintro en w4 ⟨a4, c4, rfl, _, hr4, hc4⟩
        have ht : takeS n bs wrong = ([], bs, wrong) := by unfold takeS; rw [if_pos hw]
        rw [ht] at hr4 ⊢
        dsimp only at hr4 ⊢
        have HR4 := Lib.hid hr4; have HC4 := Lib.hid (HC3.out.trans hc4 (fun _ _ h => h))
        obtain ⟨ba4, bc4, r4, _⟩ := hr4.row
        have p3 : w4.cell? ⟨R, 3, none⟩ = some (.int .i64 (wrong : Int)) := r4.cell 3
        have hwb : ((wrong : Int) != 0) = true := by simp; omega
        have hwc : ((wrong : Int) == 0) = false := beq_eq_false_iff_ne.2 (by omega)
        clear hr4 hc4 r4 ht
        go_wp2_with fail
        go_ret
        exact ⟨0, bs, wrong, rfl, by omega, Res.err HD.out hw, HR4.out, HC4.out⟩
      · have HD : Hid (rdNum most wrong bs = .ok (v, bs.drop n)) := Lib.hid (by rw [HG.out, if_neg (fun h => h rfl), if_neg hv])
        have hv' : ¬ (most : Int) < (v : Int) := by omega
        have hvm : v ≤ most := by omega
        have hwv : IntKind.i64.wrap (v : Int) = (v : Int) := by rw [IntKind.wrap_i64]; omega
        clear hv HG
        go_wp2_with fail
        refine (take_v R sa scap bk l bs 0 n w2 HR2.out (by omega)).mono ?_
        rintro en w4 ⟨a4, c4, rfl, _, hr4, hc4⟩
        have ht : takeS n bs 0 = (bs.take n, bs.drop n, 0) := by unfold takeS; rw [if_neg (fun h => h rfl), if_neg (by omega)]
        rw [ht] at hr4 ⊢
        dsimp only at hr4 ⊢
        have HR4 := Lib.hid hr4; have HC4 := Lib.hid (HC2.out.trans hc4 (fun _ _ h => h))
        obtain ⟨ba4, bc4, r4, _⟩ := hr4.row
        have p3 : w4.cell? ⟨R, 3, none⟩ = some (.int .i64 (0 : Int)) := r4.cell 3
        clear hr4 hc4 r4 ht
        go_wp2_with fail
        go_ret
        first | exact ⟨v, rfl, hvm, bs.drop n, 0, Res.good HD.out, HR4.out, HC4.out⟩ | exact ⟨v, bs.drop n, 0, rfl, hvm, Res.good HD.out, HR4.out, HC4.out⟩
    · have HD : Hid (rdNum most wrong bs = .error er) := Lib.hid (by rw [HG.out, if_pos her])
      have hwb : ((er : Int) != 0) = true := by simp; omega
      have hwc : ((er : Int) == 0) = false := beq_eq_false_iff_ne.2 (by omega)
      have HER := Lib.hid her
      clear HG her
      go_wp2_with fail
      refine (take_v R sa scap bk l bs er n w2 HR2.out (by omega)).mono ?_
      rintro en w4 ⟨a4, c4, rfl, _, hr4, hc4⟩
      have ht : takeS n bs er = ([], bs, er) := by unfold takeS; rw [if_pos HER.out]
      rw [ht] at hr4 ⊢
      dsimp only at hr4 ⊢
      have HR4 := Lib.hid hr4; have HC4 := Lib.hid (HC2.out.trans hc4 (fun _ _ h => h))
      obtain ⟨ba4, bc4, r4, _⟩ := hr4.row
      have p3 : w4.cell? ⟨R, 3, none⟩ = some (.int .i64 (er : Int)) := r4.cell 3
      clear hr4 hc4 r4 ht
      go_wp2_with fail
      go_ret
      exact ⟨0, bs, er, rfl, by omega, Res.err HD.out HER.out, HR4.out, HC4.out⟩
  · have heb : ((e : Int) != 0) = true := by simp; omega
    have hec : ((e : Int) == 0) = false := beq_eq_false_iff_ne.2 (by omega)
    have HE := Lib.hid he
    clear he
    go_enter Try.func30, Try.ntmps30
    go_wp2_with fail
    go_ret
    exact ⟨0, bs, e, rfl, by omega, Res.bad HE.out, H.out, Chg.refl _ _⟩
end Go.Proofs.Ytofhlopedflkiaa
