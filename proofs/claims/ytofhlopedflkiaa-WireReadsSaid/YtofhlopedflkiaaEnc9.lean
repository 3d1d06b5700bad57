/-
  Bytes that a call may append to; a schema with its groups that is read. cursor.Put.
-/
import Derived.Test.YtofhlopedflkiaaWireP
import Derived.Test.YtofhlopedflkiaaPut
import Derived.Test.YtofhlopedflkiaaSch3
import Derived.Test.YtofhlopedflkiaaTrG
set_option linter.unusedSimpArgs false
namespace Go.Shr
open Go.RowKit
theorem KidG.get' {ok : Nat → Prop} {w : World} : ∀ {ks : List (List Tr)} {xs : List Value} (_ : KidG ok w ks xs) (k : Nat) (hk : k < ks.length),
    ∃ a cap ys, xs[k]? = some (.slice a (ks[k]).length cap) ∧ Sl ok w 3 a (ks[k]).length cap ys ∧ RowG ok w ks[k] ys
  | l :: r, xs, h, 0, _ => by
    simp only [KidG] at h
    obtain ⟨a, m, cap, ys, xr, rfl, rfl, h3, h4, _⟩ := h
    exact ⟨a, cap, ys, rfl, h3, h4⟩
  | l :: r, xs, h, k + 1, hk => by
    simp only [KidG] at h
    obtain ⟨a, m, cap, ys, xr, rfl, _, _, _, h5⟩ := h
    simpa using KidG.get' h5 k (by simpa using hk)
theorem RowG.get' {ok : Nat → Prop} {w : World} : ∀ {l : List Tr} {ys : List Value} (_ : RowG ok w l ys) (k : Nat) (hk : k < l.length),
    ∃ c0 c1 c2, ys[k * 3]? = some c0 ∧ ys[k * 3 + 1]? = some c1 ∧ ys[k * 3 + 2]? = some c2 ∧ TrG ok w l[k] [c0, c1, c2]
  | t :: r, ys, h, 0, _ => by
    simp only [RowG] at h
    obtain ⟨c0, c1, c2, yr, rfl, h2, _⟩ := h
    exact ⟨c0, c1, c2, rfl, rfl, rfl, h2⟩
  | t :: r, ys, h, k + 1, hk => by
    simp only [RowG] at h
    obtain ⟨c0, c1, c2, yr, rfl, _, h3⟩ := h
    rw [show (k + 1) * 3 = k * 3 + 1 + 1 + 1 by omega]
    simpa using RowG.get' h3 k (by simpa using hk)
theorem TrG.parts' {ok : Nat → Prop} {w : World} {t : Tr} {cs : List Value} (h : TrG ok w t cs) : ∃ a m cap xs, cs = [.int .i64 t.n, .string t.s, .slice a m cap] ∧ m = t.kids.length ∧ t.s.size ≤ maxLen ∧ Sl ok w 1 a m cap xs ∧ KidG ok w t.kids xs := by
  obtain ⟨n, s, ks⟩ := t
  simp only [TrG] at h
  obtain ⟨a, m, cap, xs, h1, h2, h3, h4⟩ := h
  refine ⟨a, m, cap, xs, h1, ?_, h2, h3, h4⟩
  have := h3.len; have := h4.len
  simp only [Tr.kids]; omega
end Go.Shr
namespace Go.Proofs.Ytofhlopedflkiaa
open Go.RowKit Go.Shr
/-- Bytes in an owned row; the row's block is there. -/
structure OB (B : Nat) (w : World) (a : Option Addr) (n cap : Nat) (bs : List UInt8) : Prop where
  own : Own B w 5 1 a n cap (u8s bs)
  lt : ∀ k, blk a k → k < w.heap.size
theorem OB.len {B : Nat} {w : World} {a : Option Addr} {n cap : Nat} {bs : List UInt8} (h : OB B w a n cap bs) : n = bs.length := by have := h.own.len; simpa using this.symm
theorem OB.below {B : Nat} {w w' : World} {a : Option Addr} {n cap : Nat} {bs : List UInt8} (h : OB B w a n cap bs) (hb : Below w.heap.size w w') : OB B w' a n cap bs := ⟨h.own.below hb, fun k hk => Nat.lt_of_lt_of_le (h.lt k hk) hb.size⟩
theorem OB.of {B W : Nat} {w : World} {a : Option Addr} {n cap : Nat} {bs : List UInt8} (h : Own W w 5 1 a n cap (u8s bs)) (hB : B ≤ W) (hn : 0 < n) : OB B w a n cap bs := ⟨h.mono hB, fun k hk => (h.blt' hn hk).2⟩
/-- What a call that appends bytes returns. -/
def EncQ (B : Nat) (a : Option Addr) (bs ds : List UInt8) (w : World) (e : Ending) (w' : World) : Prop :=
  ∃ a' n' cap', e = .returned (.slice a' n' cap') ∧ OB B w' a' n' cap' (bs ++ ds) ∧ Chg (fun k => blk a k ∧ B ≤ k) w w' ∧ (∀ k, blk a' k → blk a k ∨ w.heap.size ≤ k)
/-- A schema with its groups; all of it lies below B. -/
structure Shp (B : Nat) (w : World) (a : Option Addr) (cap bk : Nat) (l : List Fl) : Prop where
  sl : Sl (fun b => b < B) w 4 a l.length cap (fls l)
  kids : ∀ k, k < l.length → ∃ a c, w.cell? ⟨bk, k, none⟩ = some (.slice a (KF l k).length c) ∧ Sl (fun b => b < B) w 1 a (KF l k).length c (ints (KF l k))
  bk : bk < B
  le : B ≤ w.heap.size
theorem Shp.keep {B : Nat} {w w' : World} {a : Option Addr} {cap bk : Nat} {l : List Fl} (h : Shp B w a cap bk l) (hb : Below B w w') : Shp B w' a cap bk l :=
  ⟨h.sl.chg (Chg.ofBelow hb) (fun k hk => by omega), fun k hk => by
    obtain ⟨a, c, h1, h2⟩ := h.kids k hk
    exact ⟨a, c, (Chg.ofBelow hb).keep h1 (by have := h.bk; omega), h2.chg (Chg.ofBelow hb) (fun k hk => by omega)⟩, h.bk, Nat.le_trans h.le hb.size⟩
theorem _root_.Go.Shr.Chg.lower {B : Nat} {a : Option Addr} {w w' : World} (h : Chg (fun k => blk a k ∧ B ≤ k) w w') (hB : B ≤ w.heap.size) : Below B w w' := h.below hB (fun i hi h => by omega)
set_option maxHeartbeats 400000 in
set_option maxRecDepth 100000 in
theorem cput_u8 (ok : Nat → Prop) (a : Option Addr) (n cap : Nat) (bs : List UInt8) (k v : Nat) (w : World) (h : Sl ok w 1 a n cap (u8s bs)) (hn : n ≤ 10000000000000) (hk : k ≤ 8) (hv : v < 18446744073709551616) :
    Calls Try.prog 41 #[.slice a n cap, .int .i64 k, .int .u64 v] w fun e w' => ∃ a' cap', e = .returned (.slice a' (n + k) cap') ∧ Own w.heap.size w' 5 1 a' (n + k) cap' (u8s (bs ++ leN k v)) ∧ Below w.heap.size w w' := by
  obtain ⟨i0, hi, hz0, hz1, hz2⟩ := info_parts info_u8
  have H := Lib.hid h; clear h
  have hk0 : ¬ (k : Int) < 0 := by omega
  have hk8 : ¬ (8 : Int) < (k : Int) := by omega
  go_enter Try.func41, Try.ntmps41
  go_wp2_with fail
  refine wp_gotoloop 0 (fun a' wr => ∃ (j : Nat) (ar : Option Addr) (capr : Nat) (u0 u3 u4 u5 u6 u9 u10 u11 u12 u13 u14 u15 u16 u17 u18 u19 u20 u21 u22 u23 u24 u25 u26 u27 u28 u29 u30 u31 : Value), a' = { tmps := #[u0, .int .i64 k, .int .u64 v, u3, u4, u5, u6, .slice ar (n + j) capr, .int .i64 j, u9, u10, u11, u12, u13, u14, u15, u16, u17, u18, u19, u20, u21, u22, u23, u24, u25, u26, u27, u28, u29, u30, u31], defers := [] } ∧ j ≤ k ∧ Hid (Own w.heap.size wr 5 1 ar (n + j) capr (u8s (bs ++ leN j v))) ∧ Below w.heap.size w wr)
    (fun a' _ => k - (intOf (a'.tmps.getD 8 undef)).toNat) rfl ?pass ?first
  case first =>
    intro hp; have HP := Lib.hid hp; clear hp
    apply wp_seq_k; intro K hK; have HK := Lib.hid hK; clear hK
    go_wp2_with (go_at_call 27; refine (clone_u8 ok a n cap _ _ H.out (u8s_one _) (by omega)).mono ?_; rintro e w1 ⟨a1, cap1, rfl, hown, hb⟩)
    apply HK.out
    refine wp_seq_k (fun K' hK' => ?_)
    have HK' := Lib.hid hK'; clear hK'
    go_wp2_with fail
    apply HK'.out
    refine wp_seq_k (fun K'' hK'' => ?_)
    have HK'' := Lib.hid hK''; clear hK''
    go_wp2_with fail
    apply HK''.out
    refine wp_label_seq (HP.out _ _ ⟨0, a1, cap1, _, _, _, _, _, _, _, _, _, _, _, _, _, _, _, _, _, _, _, _, _, _, _, _, _, _, _, _, rfl, Nat.zero_le _, Lib.hid (by simpa [leN] using hown), hb⟩)
  case pass =>
    rintro a' wr ⟨j, ar, capr, u0, u3, u4, u5, u6, u9, u10, u11, u12, u13, u14, u15, u16, u17, u18, u19, u20, u21, u22, u23, u24, u25, u26, u27, u28, u29, u30, u31, rfl, hj, HO, hb⟩
    have HA := HO.out.alloc
    have HAH := Lib.hid HA; clear HA
    by_cases hlt : j < k
    · go_wp2_with (first
        | (at_builtin; go_must (refine wpList_append (B := w.heap.size) rfl _ _ _ _ rfl i0 (.int .u8 0) 1 Try.underlying30 hi hz0 hz1 hz2 rfl rfl (HAH.out _) _ rfl _ _ (src_one Try.underlying30 wr _ _ rfl) (by simp only [maxLen]; omega) (by omega) (by have := hb.size; simp; omega) ?_); intro a' cap' w' hown hchg hnew))
      go_step3
      refine ⟨rfl, ⟨j + 1, a', cap', _, _, _, _, _, _, _, _, _, _, _, _, _, _, _, _, _, _, _, _, _, _, _, _, _, _, _, _, by congr 1, by omega, Lib.hid ?_, ?_⟩, ?_⟩
      · have e : (v : Int) / 2 ^ (8 * j) % 256 = ((v / 256 ^ j % 256 : Nat) : Int) := by
          have h256 : (256 : Nat) ^ j = 2 ^ (8 * j) := by rw [Nat.pow_mul]
          rw [h256]; simp
        rw [e] at hown
        rw [leN_snoc, ← List.append_assoc, ← u8s_snoc _ _ (Nat.mod_lt _ (by decide))]
        exact hown
      · exact (hb.alloc hb.size _).trans (hchg.below (by have := hb.size; simp; omega) (fun i hi ⟨_, h2⟩ => by omega))
      · simp [intOf]; omega
    · obtain rfl : j = k := by omega
      clear hlt
      go_wp2_with (go_at_call 27; refine (clone_u8 _ ar (n + j) capr _ _ HO.out.sl (u8s_one _) (by omega)).mono ?_; rintro e w2 ⟨a2, cap2, rfl, hown2, hb2⟩)
      simp only [Exit.jump]
      go_ret
      exact ⟨a2, cap2, rfl, hown2.mono hb.size, hb.trans (hb2.mono hb.size)⟩
end Go.Proofs.Ytofhlopedflkiaa
