/-
  The walk of WireBad.
-/
import Derived.Test.YtofhlopedflkiaaParse9
import Derived.Test.YtofhlopedflkiaaTrees9
import Derived.Test.YtofhlopedflkiaaZero9
set_option linter.unusedSimpArgs false
namespace Go.Shr
open Go.RowKit
theorem wpList_zeros {P : Program} {w : World} {ops : Array Oper} {rest : List Oper} {o : Oper} {ac : Act} {Q : Exit → Act → World → Prop} {e : TypeId} {a : Option Addr} {n B : Nat} {xs : List Value} (hgd : o.guard = none) (s x : Operand) (t tx : TypeId)
    (ho : o.op = .call { callee := .builtin .append, args := #[s, x], argTypes := #[t, tx] })
    (i : TypeInfo) (z : Value) (ht : P.underlying t = some (.slice e)) (htx : P.underlying tx = some (.int .i64)) (hi : P.info? e = some i) (hz : i.zero = some z) (hzc : z.cells = #[z]) (hsize : i.size = 1) (hby : i.bytes = 1)
    (hsv : ac.eval s = .slice a n n) (h : Own B w e 1 a n n xs) (hn : n ≤ 1000) (m : Nat) (hm0 : 0 < m) (hm1 : m ≤ 1000) (hxv : ac.eval x = .int .i64 (m : Int)) (hB : B ≤ w.heap.size)
    (hK : ∀ a' cap' w', Own B w' e 1 a' (n + m) cap' (xs ++ List.replicate m z) → Below w.heap.size w w' → wpList P ops Q rest (ac.put o.dst (.slice a' (n + m) cap')) w') : wpList P ops Q (o :: rest) ac w := by
  refine wpList_plain hgd fun K hKK => ?_
  have hold : (Builtin.firstCells i.size n (.slice a n n)).run P w.drew = .ok xs.toArray w.drew := by
    rw [hsize]
    have hsl := (h.sl (w := w)).drew
    rcases hsl.row with h0 | ⟨b, off, rfl, _, hc⟩
    · subst h0
      have hx : xs = [] := List.eq_nil_of_length_eq_zero (by simpa using h.len)
      subst hx
      cases a <;> simp [Builtin.firstCells, loadCells, loadCellsFrom]
    · refine run_firstCells_some w.drew 1 n ⟨b, off, none⟩ n n xs h.len (fun j u hj => ?_)
      have := hc j u hj
      unfold Addr.add
      split
      · rename_i h0; subst h0; simpa using this
      · simpa using this
  have hr := run_append_zeros (P := P) (w := w) t tx o.type e i z ht htx hi hz hzc hsize hby a n n xs hold m hm0 hm1 hn (by omega)
  unfold Oper.wp execOp
  simp only [ho, resolve, invoke, builtin, Sem.run_bind, Sem.run_pure, Result.andThen_ok, List.map_toArray, List.map_cons, List.map_nil, hsv, hxv, hr]
  have hge := grownCap_ge w (n + m) n e
  have hcm := grownCap_le_maxLen w (n + m) n e (by simp only [maxLen]; omega)
  have hL : (xs ++ List.replicate m z).length = (n + m) * 1 := by rw [List.length_append, h.len, List.length_replicate]; omega
  refine hKK _ _ (hK _ _ _ ⟨hL, hge, hcm, .inr ⟨_, _, rfl, hB, heap_alloc_new w.drew _, ?_, ?_⟩⟩ ((b0 w).drew.alloc (by simp) _))
  · simp only [Array.size_append, List.size_toArray, size_zeroCells, hzc, hL]
    simp; omega
  · simp only [Array.toList_append]
    rw [← hL]
    exact List.take_left
end Go.Shr
namespace Go.Proofs.Ytofhlopedflkiaa
open Go.RowKit Go.Shr
/-- A schema of one field. -/
def oneSh (rep kind : Int) : Sh := .mk ⟨#[109]⟩ 0 0 [.mk ⟨#[97]⟩ rep kind []]
def oneFl (rep kind : Int) : List Fl := [⟨⟨#[109]⟩, 0, 0, 1⟩, ⟨⟨#[97]⟩, rep, kind, 0⟩]
theorem one_sch (rep kind : Int) (h0 : 0 ≤ rep) (h2 : rep ≤ 2) (h1 : 1 ≤ kind) (h4 : kind ≤ 4) : Sch (oneFl rep kind) (oneSh rep kind) :=
  ⟨by simp [oneFl, oneSh, flat, flatL], by
    simp only [oneSh, GoodS, GoodL]
    refine ⟨by decide, by decide, by decide, by decide, fun h => absurd rfl h, fun _ => by simp, ⟨h0, h2, by omega, h4, by simp, fun h => by omega, trivial⟩, trivial⟩, rfl, by simp [oneSh, Sh.size, shSizes]⟩
theorem bad_opt (n : Nat) (hn : 2 ≤ n) (hn2 : n < 256) (r : List UInt8) : decR (oneSh 1 2) (1 :: UInt8.ofNat n :: r) = .error 10 := by
  have h1 : rdNum 200 4 (1 :: UInt8.ofNat n :: r) = .ok (1, UInt8.ofNat n :: r) := rfl
  have h2 : rdBit (UInt8.ofNat n :: r) = .error 10 := by
    rw [rdBit, if_pos (by simp; omega)]
  unfold decR
  rw [h1]
  simp [decX, oneSh, decT, decK, rdCnt, Sh.rep, h2, rdMap]
theorem bad_bool (n : Nat) (hn : 2 ≤ n) (hn2 : n < 256) (r : List UInt8) : decR (oneSh 0 1) (1 :: UInt8.ofNat n :: r) = .error 10 := by
  have h1 : rdNum 200 4 (1 :: UInt8.ofNat n :: r) = .ok (1, UInt8.ofNat n :: r) := rfl
  have h2 : rdBit (UInt8.ofNat n :: r) = .error 10 := by
    rw [rdBit, if_pos (by simp; omega)]
  unfold decR
  rw [h1]
  simp [decX, oneSh, decT, decK, rdCnt, Sh.rep, h2, rdMap]
theorem vget_small (m : Nat) (hm : m < 128) (r : List UInt8) : vget (UInt8.ofNat m :: r) = (m, 1, 0) := by
  have e : (UInt8.ofNat m).toNat = m := by simp; omega
  rw [vget, vgetFrom, e, if_neg (by omega), if_pos hm, if_neg (by omega)]
  simp
theorem bad_long (m : Nat) (hm : 101 ≤ m) (hm2 : m < 128) (r : List UInt8) : decR (oneSh 0 4) (1 :: UInt8.ofNat m :: r) = .error 5 := by
  have h1 : rdNum 200 4 (1 :: UInt8.ofNat m :: r) = .ok (1, UInt8.ofNat m :: r) := rfl
  have h2 : rdNum 100 5 (UInt8.ofNat m :: r) = .error 5 := by
    unfold rdNum
    rw [vget_small m hm2]
    simp; omega
  unfold decR
  rw [h1]
  simp [decX, oneSh, decT, decK, rdCnt, Sh.rep, rdStr, h2, rdMap]
theorem within_9b (a n : Int) (w : World) (hn : 0 < n) (hn2 : n ≤ 100000000000000) : Calls Try.prog 19 #[.int .i64 a, .int .i64 n] w fun e w' => e = .returned (.int .i64 (a % n)) ∧ w = w' := by
  have h1 := Int.tmod_lt_of_pos a hn
  have h3 : -n < a.tmod n := by
    have := Int.lt_tmod_of_pos a hn
    omega
  have H := Lib.hid (tmod_fix a n hn)
  go_enter Try.func19, Try.ntmps19
  go_wp2
  · go_ret
    exact ⟨ret_i (H.out.1 (by assumption)), rfl⟩
  · go_ret
    exact ⟨ret_i (H.out.2 (by assumption)), rfl⟩
/-- The cells of a literal. -/
theorem fls_one (rep kind : Int) : fls (oneFl rep kind) = [.string ⟨#[109]⟩, .int .i64 0, .int .i64 0, .int .i64 1, .string ⟨#[97]⟩, .int .i64 rep, .int .i64 kind, .int .i64 0] := rfl
theorem row_sl {w : World} {b : Nat} {cur : Array Value} {t : TypeId} (h : Rw w b cur t) (n size : Nat) (hs : cur.size = n * size) (hn : n ≤ 1000) : Sl (fun k => k < w.heap.size) w size (some ⟨b, 0, none⟩) n n cur.toList :=
  ⟨by simpa using hs, Nat.le_refl _, by unfold maxLen; omega, .inr ⟨b, 0, rfl, h.lt, fun j u hj => by rw [Nat.zero_add, h.cell]; simpa using hj⟩⟩
set_option maxHeartbeats 2000000 in
set_option maxRecDepth 100000 in
theorem law_bad9 (n m : Int) (w : World) (_ : (Lit.int .i64 n).wf = true) (_ : (Lit.int .i64 m).wf = true) :
    Calls Try.prog 10 #[.int .i64 n, .int .i64 m] w fun e w' => e = .returned (.bool true) ∧ Below w.heap.size w w' := by
  obtain ⟨i0, hi0, hz0, hz1, hz2⟩ := info_parts info_u8
  go_enter Try.func10, Try.ntmps10
  go_wp2_with fail
  refine (known9 _).mono ?_
  rintro e w1 ⟨rfl, hb1⟩
  have HB1 := Lib.hid hb1; clear hb1
  go_wp2_with fail
  refine (within_9b n 250 w1 (by decide) (by decide)).mono ?_
  rintro e w2 ⟨rfl, rfl⟩
  obtain ⟨k, hk⟩ : ∃ k : Nat, n % 250 = (k : Int) := ⟨(n % 250).toNat, by omega⟩
  have hk2 : k < 250 := by omega
  rw [hk]
  clear hk
  go_wp2_with fail
  refine (within_9b m 20 w1 (by decide) (by decide)).mono ?_
  rintro e w2 ⟨rfl, rfl⟩
  obtain ⟨q, hq⟩ : ∃ q : Nat, m % 20 = (q : Int) := ⟨(m % 20).toNat, by omega⟩
  have hq2 : q < 20 := by omega
  rw [hq]
  clear hq
  go_wp2_with fail
  obtain ⟨N, hN⟩ : ∃ N : Nat, N = 2 + k := ⟨_, rfl⟩
  obtain ⟨M, hM⟩ : ∃ M : Nat, M = 101 + q := ⟨_, rfl⟩
  have eN : (2 + (k : Int)) = (N : Int) := by omega
  have eM : (101 + (q : Int)) = (M : Int) := by omega
  rw [eN, eM]
  have hN1 : 2 ≤ N := by omega
  have hN2 : N < 256 := by omega
  have hM1 : 101 ≤ M := by omega
  have hM2 : M < 128 := by omega
  clear eN eM hN hM hk2 hq2
  refine cgen (fun wA hwA => ?_)
  have hbA : Below w1.heap.size w1 wA := by rw [hwA]; exact ba (ba (ba (ba (b0 w1) _) _) _) _
  have r5 : Rw wA w1.heap.size #[.string ⟨#[109]⟩, .int .i64 0, .int .i64 0, .int .i64 1, .string ⟨#[97]⟩, .int .i64 1, .int .i64 2, .int .i64 0] 49 := by rw [hwA]; exact (((Rw.new w1 _ _).alloc _).alloc _).alloc _
  have r6 : Rw wA (w1.heap.size + 1) #[.string ⟨#[109]⟩, .int .i64 0, .int .i64 0, .int .i64 1, .string ⟨#[97]⟩, .int .i64 0, .int .i64 1, .int .i64 0] 49 := by rw [hwA]; exact ((Rw.new' (by simp)).alloc _).alloc _
  have r7 : Rw wA (w1.heap.size + 1 + 1) #[.string ⟨#[109]⟩, .int .i64 0, .int .i64 0, .int .i64 1, .string ⟨#[97]⟩, .int .i64 0, .int .i64 4, .int .i64 0] 49 := by rw [hwA]; exact (Rw.new' (by simp)).alloc _
  have rb : Rw wA (w1.heap.size + 1 + 1 + 1) #[.int .u8 1, .int .u8 (N : Int), .int .u8 0, .int .u8 0, .int .u8 0, .int .u8 0] 5 := by rw [hwA]; exact Rw.new' (by simp)
  clear hwA
  have s5 := row_sl r5 2 4 rfl (by decide)
  have s6 := row_sl r6 2 4 rfl (by decide)
  have s7 := row_sl r7 2 4 rfl (by decide)
  have sb := row_sl rb 6 1 rfl (by decide)
  have eb : #[Value.int .u8 1, .int .u8 (N : Int), .int .u8 0, .int .u8 0, .int .u8 0, .int .u8 0].toList = u8s (1 :: UInt8.ofNat N :: [0, 0, 0, 0]) := by simp [u8s]; omega
  rw [eb] at sb
  have HBA := Lib.hid (bt HB1.out hbA); have S6 := Lib.hid s6; have S7 := Lib.hid s7
  generalize w1.heap.size = T at *
  refine (parse_v (oneFl 1 2) (oneSh 1 2) (one_sch 1 2 (by decide) (by decide) (by decide) (by decide)) (some ⟨T, 0, none⟩) 2 (some ⟨T + 1 + 1 + 1, 0, none⟩) 6 (1 :: UInt8.ofNat N :: [0, 0, 0, 0]) wA s5 sb (by simp)).mono ?_
  rintro e w3 ⟨x, a3, c3, ys, e3, rfl, _, _, hp, hb3⟩
  rw [bad_opt N hN1 hN2] at hp
  obtain ⟨rfl, _, rfl⟩ := hp
  have HB3 := Lib.hid (bt HBA.out hb3); have S63 := Lib.hid (slb S6.out hb3); have S73 := Lib.hid (slb S7.out hb3)
  clear hb3 s5 s6 s7 sb eb r5 r6 r7 rb hbA S6 S7 HB1
  go_wp2_with fail
  refine cgen (fun wB hwB => ?_)
  have hbB : Below w3.heap.size w3 wB := by rw [hwB]; exact ba (b0 w3) _
  have rb : Rw wB w3.heap.size #[.int .u8 1, .int .u8 (N : Int)] 5 := by rw [hwB]; exact Rw.new w3 _ _
  clear hwB
  have sb := row_sl rb 2 1 rfl (by decide)
  have eb : #[Value.int .u8 1, .int .u8 (N : Int)].toList = u8s (1 :: UInt8.ofNat N :: []) := by simp [u8s]; omega
  rw [eb] at sb
  refine (parse_v (oneFl 0 1) (oneSh 0 1) (one_sch 0 1 (by decide) (by decide) (by decide) (by decide)) (some ⟨T + 1, 0, none⟩) 2 (some ⟨w3.heap.size, 0, none⟩) 2 (1 :: UInt8.ofNat N :: []) wB (slb S63.out hbB) sb (by simp)).mono ?_
  rintro e w4 ⟨x, a4, c4, ys, e4, rfl, _, _, hp, hb4⟩
  rw [bad_bool N hN1 hN2] at hp
  obtain ⟨rfl, _, rfl⟩ := hp
  have HB4 := Lib.hid (bt (bt HB3.out hbB) hb4); have S74 := Lib.hid (slb (slb S73.out hbB) hb4)
  clear hb4 sb eb rb hbB S63 S73 HB3
  have HOW := Lib.hid (Own.new (B := 0) (e := 5) (size := 1) w4 #[.int .u8 1, .int .u8 (M : Int)] 2 (Nat.zero_le _) (by decide) rfl)
  go_wp2_with (first
    | (at_builtin; refine wpList_zeros (B := 0) rfl _ _ _ _ rfl i0 (.int .u8 0) Try.underlying30 Try.underlying3 hi0 hz0 rfl hz1 hz2 rfl HOW.out (by decide) M (by omega) (by omega) rfl (Nat.zero_le _) ?_; intro a5 c5 w5 ho5 hb5)
    | fail)
  have eb : #[Value.int .u8 1, .int .u8 (M : Int)].toList ++ List.replicate M (Value.int .u8 0) = u8s (1 :: UInt8.ofNat M :: List.replicate M 0) := by simp [u8s]; omega
  rw [eb] at ho5
  have hbw : Below w4.heap.size w4 w5 := bt (ba (b0 w4) _) hb5
  have hl5 : (1 :: UInt8.ofNat M :: List.replicate M (0 : UInt8)).length = 2 + M := by simp; omega
  have sb := ho5.sl.mono (ok' := fun b => b < w5.heap.size) (fun k hk _ => hk) (by decide)
  have hpv := parse_v (oneFl 0 4) (oneSh 0 4) (one_sch 0 4 (by decide) (by decide) (by decide) (by decide)) (some ⟨T + 1 + 1, 0, none⟩) 2 a5 c5 (1 :: UInt8.ofNat M :: List.replicate M 0) w5 (slb S74.out hbw) (by rw [hl5]; exact sb) (by rw [hl5]; omega)
  rw [hl5] at hpv
  refine hpv.mono ?_
  rintro e w6 ⟨x, a6, c6, ys, e6, rfl, _, _, hp, hb6⟩
  rw [bad_long M hM1 hM2] at hp
  obtain ⟨rfl, _, rfl⟩ := hp
  have HB6 := Lib.hid (bt (bt HB4.out hbw) hb6)
  clear hb6 sb eb hbw hpv ho5 hb5 hl5
  go_wp2_with fail
  go_ret
  exact ⟨rfl, HB6.out⟩
end Go.Proofs.Ytofhlopedflkiaa
