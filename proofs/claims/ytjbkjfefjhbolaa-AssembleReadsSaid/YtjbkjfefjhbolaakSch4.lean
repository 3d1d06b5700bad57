import Derived.Test.YtjbkjfefjhbolaakSchP
import Derived.Deep.OwnRows
import Derived.Laws.RangeAny
set_option linter.all false
namespace Go.Proofs.Ytjbkjfefjhbolaa
open Go.RowKit Go.Shr
theorem zJ9 : (Try.prog.info? 22).map (fun i => (i.zero, i.size, i.bytes)) = some (some (.slice none 0 0), 1, 24) := by kernel_rfl
def zFy (w : World) (b3 : Nat) (l : List Fl) : Prop := ∃ a n cap bk, n = l.length ∧ Rw w b3 #[.slice a n cap, .slice (some ⟨bk, 0, none⟩) n n] 139 ∧ Sl (fun b => b < w.heap.size) w 4 a n cap (fls l) ∧ zD5 w bk n (fun k => zK (par l) k)
theorem zFy.below {w w' : World} {b3 : Nat} {l : List Fl} (h : zFy w b3 l) (hb : Below w.heap.size w w') : zFy w' b3 l := by
 obtain ⟨a, n, cap, bk, h0, h1, h2, h3⟩ := h
 exact ⟨a, n, cap, bk, h0, h1.below hb, slb h2 hb, h3.below hb⟩
set_option maxHeartbeats 1000000 in
set_option maxRecDepth 100000 in
theorem zK6 (a : Option Addr) (n cap : Nat) (l : List Fl) (w : World) (hs : Sl (fun b => b < w.heap.size) w 4 a n cap (fls l)) (hn : n ≤ 1000) (hkid : ∀ x ∈ l, x.kids ≤ 1000) :
  Calls Try.prog 71 #[.slice a n cap] w fun e w' => ∃ b3, e = .returned (.pointer (some ⟨b3, 0, none⟩)) ∧ zFy w' b3 l ∧ Below w.heap.size w w' := by
 obtain ⟨ii, hii, hz0i, hz1i, hz2i⟩ := info_parts jR
 have hlen : l.length = n := by have := hs.len; rw [wG] at this; omega
 have hPl : (par l).length = n := by rw [zW, hlen]
 have hmk := fun w => run_make_row' (P := Try.prog) 23 22 (.slice none 0 0) 24 Try.underlying23 zJ9 rfl .i64 .i64 n (by omega) (by omega) w
 have HS := zH hs; have HK := zH hkid; clear hs hkid
 go_enter Try.func71, Try.ntmps71
 go_wp2_with fail
 obtain ⟨wA, hwA⟩ : ∃ wA, wA = ((w.alloc (.cells (madeCells #[.slice none 0 0] n) 22)).alloc (.cells #[.slice a n cap, .slice (some ⟨w.heap.size, 0, none⟩) n n] 139)) := ⟨_, rfl⟩
 have hbA : Below w.heap.size w wA := Go.Shr.Below.ren hwA (ba (ba (b0 w) _) _)
 have rK := Rw.ren hwA ((Rw.new w (madeCells #[.slice none 0 0] n) 22).alloc (.cells #[.slice a n cap, .slice (some ⟨w.heap.size, 0, none⟩) n n] 139))
 have r3 := Rw.ren hwA (Rw.new' (b := w.heap.size + 1) (cur := #[.slice a n cap, .slice (some ⟨w.heap.size, 0, none⟩) n n]) (t := 139) (w := (w.alloc (.cells (madeCells #[.slice none 0 0] n) 22))) (by simp))
 rw [← hwA]
 have hszA : wA.heap.size = w.heap.size + 1 + 1 := by rw [hwA]; simp
 clear hwA
 have HSA := zH (slb HS.out hbA)
 refine (zGJ a n cap l wA HSA.out hn HK.out).mono ?_
 rintro e w2 ⟨aP, cP, rfl, oP, hb2⟩
 have hsz2 := hb2.size
 have hsP := oP.sl
 rw [hszA] at hsP hsz2
 have HP0 := zH (hsP.mono (ok' := fun k => k < w2.heap.size ∧ k ≠ w.heap.size) (fun k hk h => ⟨hk, by omega⟩) (by decide))
 have R3 := zH (r3.below hb2)
 have rK2 := rK.below hb2
 have hKI : KI w2.heap.size w2 w.heap.size n (madeCells #[.slice none 0 0] n) (fun _ => none) (fun _ => 0) (fun k => zK ((par l).take 0) k) :=
  ⟨rK2, fun k hk => by rw [List.take_zero]; simp [zB0, madeCells, hk, Nat.mod_one], fun k hk => by rw [List.take_zero]; exact Own.nil _ _ _ _, fun k g _ ⟨_, _, h⟩ => (by cases h), fun k j g _ _ _ ⟨_, _, h⟩ => (by cases h)⟩
 have HKI := zH hKI
 have HBA := zH (bt hbA hb2)
 have HSS := zH ((HS.out.below hbA).below hb2)
 clear hb2 oP hsP r3 rK rK2 hKI hbA HS HSA
 go_wp2_with fail
 go_loopw [15] (fun i wr => ∃ (j : Nat) (cur : Array Value) (aa : Nat → Option Addr) (cc : Nat → Nat), i = .int .i64 j ∧ j ≤ n ∧ Hid (KI w2.heap.size wr w.heap.size n cur aa cc (fun k => zK ((par l).take j) k)) ∧ Hid (Chg (fun k => k = w.heap.size ∨ w2.heap.size ≤ k) w2 wr)) (fun i _ => n - (intOf i).toNat)
 case atStart => exact ⟨0, _, _, _, rfl, Nat.zero_le _, HKI, zH (Chg.refl _ _)⟩
 case round =>
  obtain ⟨j, cur, aa, cc, rfl, hj, HI, HC⟩ := hrel
  have hszr := HC.out.size
  by_cases hlt : j < n
  ·obtain ⟨b, off, rfl, ⟨hb1, hb2⟩, hcc⟩ := HP0.out.pos (by omega)
   have e0 := hcc _ _ (zO (par l) j (by omega))
   replace e0 := HC.out.keep e0 (by omega)
   have hbd := yI l j (by omega)
   have HX : Hid ((par l).take (j + 1) = (par l).take j ++ [(par l)[j]'(by omega)]) := zH (List.take_succ_eq_append_getElem (by omega))
   generalize (par l)[j]'(by omega) = p at *
   clear hcc
   by_cases hp : 0 ≤ p
   ·obtain ⟨q, rfl⟩ : ∃ q : Nat, p = (q : Int) := ⟨p.toNat, by omega⟩
    have hq : q < n := by omega
    have hr3 : Rw wr (w.heap.size + 1) #[.slice a n cap, .slice (some ⟨w.heap.size, 0, none⟩) n n] 139 := R3.out.chg HC.out (by omega)
    have hkq : wr.cell? ⟨w.heap.size, q, none⟩ = some (.slice (aa q) (zK ((par l).take j) q).length (cc q)) := (HI.out.row.cell q).trans (HI.out.at' q hq)
    have hkl : (zK ((par l).take j) q).length ≤ 1000 := by have := zB1 ((par l).take j) q; rw [List.length_take] at this; omega
    have HOQ := zH (HI.out.own q hq)
    generalize hKq : zK ((par l).take j) (q : Int) = Kq at hkq hkl HOQ
    have HKQ := zH hKq; clear hKq
    go_wp2_with fail
    refine zF (fun w' => Rw w' (w.heap.size + 1) #[.slice a n cap, .slice (some ⟨w.heap.size, 0, none⟩) n n] 139 ∧ w'.cell? ⟨w.heap.size, q, none⟩ = some (.slice (aa q) Kq.length (cc q))) [16] (by kernel_rfl) ?g1rgS (fun hHeld => ?g1rgR)
    case g1rgS => (try dsimp only); (first | exact ⟨hr3.drew, hkq⟩ | exact ⟨hHeld.1.alloc _, cb (ba (b0 _) _) hHeld.2⟩ | exact ⟨hHeld.1.chg hc5 (by rintro ⟨_, h, _⟩; omega), hc5.keep hHeld.2 (by rintro ⟨_, h, _⟩; omega)⟩)
    try dsimp only at hHeld
    refine zD [0, 1, 2, 3, 4, 5, 6, 7, 8, 9, 10, 11, 12] 4 (by kernel_rfl) (fun _ _ _ _ _ h => h) (by assumption) ?_
    iterate 13 ((apply YA.take rfl (by rfl); case hy => intro wS hSw; (obtain ⟨g1, g2⟩ := hSw); (have q1 : wS.cell? ⟨w.heap.size + 1, 1, none⟩ = some (.slice (some ⟨w.heap.size, 0, none⟩) n n) := g1.cell 1); go_simp; try with_reducible rfl); try simp only [pD])
    refine YA.nil ?_
    refine zB [13] (by kernel_rfl) (by simp) ?_
    refine zA.con 13 rfl (fun K hK => ?g1ro1) ?g1rm1
    case g1rm1 => exact zA.nil
    go_simp
    refine hK.out _ _ ?g1rs1 (fun hHeld => ?g1rt1)
    case g1rs1 => (try dsimp only); (first | exact ⟨hr3.drew, hkq⟩ | exact ⟨hHeld.1.alloc _, cb (ba (b0 _) _) hHeld.2⟩ | exact ⟨hHeld.1.chg hc5 (by rintro ⟨_, h, _⟩; omega), hc5.keep hHeld.2 (by rintro ⟨_, h, _⟩; omega)⟩)
    try dsimp only at hHeld
    clear hK K
    try simp only [pD]
    refine zB [14] (by kernel_rfl) (by simp) ?_
    refine zA.con 14 rfl (fun K hK => ?g1ro2) ?g1rm2
    case g1rm2 => exact zA.nil
    (refine zN (B := w2.heap.size) rfl _ _ _ _ rfl ii (.int .i64 0) 8 Try.underlying22 hii hz0i hz1i hz2i rfl rfl (HOQ.out.drew.alloc _) _ rfl _ _ (yP (e' := 3) Try.underlying22 (cur := #[.int .i64 (j : Int)]) (t := 3) (by refine Rw.new' ?_; simp) 1 1 (by rfl) (by simp [Value.oneCell'])) (by simp only [maxLen]; omega) (by omega) (by first | omega | (simp; omega) | simp) ?_; intro a5 cap5 w5 ho5 hc5 hn5)
    refine hK.out _ _ ?g1rs2 (fun hHeld => ?g1rt2)
    case g1rs2 => (try dsimp only); (first | exact ⟨hr3.drew, hkq⟩ | exact ⟨hHeld.1.alloc _, cb (ba (b0 _) _) hHeld.2⟩ | exact ⟨hHeld.1.chg hc5 (by rintro ⟨_, h, _⟩; omega), hc5.keep hHeld.2 (by rintro ⟨_, h, _⟩; omega)⟩)
    try dsimp only at hHeld
    clear hK K
    try simp only [pD]
    refine zD [15] 1 (by kernel_rfl) (fun _ _ _ _ _ h => h) (by assumption) ?_
    iterate 1 ((apply YA.take rfl (by rfl); case hy => intro wS hSw; (obtain ⟨g1, g2⟩ := hSw); (have q1 : wS.cell? ⟨w.heap.size + 1, 1, none⟩ = some (.slice (some ⟨w.heap.size, 0, none⟩) n n) := g1.cell 1); go_simp; try with_reducible rfl); try simp only [pD])
    refine YA.nil ?_
    refine zB [16] (by kernel_rfl) (by simp) ?_
    refine zA.lst 16 rfl (by kernel_rfl) (fun K hK => ?g1ro3) ?g1rm3
    case g1rm3 => exact zA.nil
    (have q5 : w5.cell? ⟨w.heap.size, q, none⟩ = some (.slice (aa q) Kq.length (cc q)) := hHeld.2); (have qrow : Rw w5 w.heap.size cur 22 := ((HI.out.row.drew.alloc _).chg hc5 (by rintro ⟨_, h, _⟩; omega))); (have qf := qrow.frozen); (have ql := qrow.lt); go_simp
    refine hK.out _ _ ?_
    clear hK K
    try simp only [pD]
    refine zE (by kernel_rfl) ?_
    have HKI5 := zH ((HI.out.below (((b0 wr).drew.alloc (by simp) (.cells #[.int .i64 (j : Int)] 3)))).push q hq (x := (j : Int)) (by omega) (by rw [HKQ.out, yT]; exact ho5) hc5 hn5)
    have HC5 := zH ((((HC.out.drew.alloc (.cells #[.int .i64 (j : Int)] 3)).trans hc5 (S' := fun k => blk (aa q) k ∧ w2.heap.size ≤ k ∧ 0 < cc q) (fun k _ h => .inr h.2.1))).setCell (p := ⟨w.heap.size, q, none⟩) (.inr (.inl rfl)) (.slice a5 (Kq.length + 1) cap5))
    clear ho5 hc5 hn5 hHeld
    go_wp2_with fail
    go_roundw
    case rel =>
     have h := HKI5.out
     rw [HKQ.out] at h
     have e : (fun (k : Nat) => zK ((par l).take (j + 1)) k) = fun k => if k = q then Kq ++ [(j : Int)] else zK ((par l).take j) k := by
      funext k
      rw [HX.out, qK, List.length_take, show min j (par l).length = j by omega]
      by_cases hk : k = q
      ·subst hk; simp [HKQ.out]
      ·have : ¬ ((q : Int) = (k : Int)) := by omega
       simp [hk, this]
     rw [← e] at h
     exact ⟨j + 1, _, _, _, by go_num, by omega, zH h, HC5⟩
    case measure => simp [intOf]; omega
   ·have hpf : (decide (0 ≤ p)) = false := decide_eq_false hp
    have e : (fun (k : Nat) => zK ((par l).take (j + 1)) k) = fun (k : Nat) => zK ((par l).take j) k := by
     funext k
     rw [HX.out, qK]
     have : ¬ (p = (k : Int)) := by omega
     simp [this]
    have HE := zH e; clear e
    clear hp
    go_wp2_with fail
    go_roundw
    case rel => exact ⟨j + 1, cur, aa, cc, by go_num, by omega, zH (by rw [HE.out]; exact HI.out), HC⟩
    case measure => simp [intOf]; omega
  ·obtain rfl : j = n := by omega
   clear hlt
   go_wp2_with fail
   go_ret
   have hr3 : Rw wr (w.heap.size + 1) #[.slice a j cap, .slice (some ⟨w.heap.size, 0, none⟩) j j] 139 := R3.out.chg HC.out (by omega)
   have hB : Below w.heap.size w wr := Chg.bt HBA.out HC.out (fun i hi h => by omega)
   have hk := HI.out.kids
   rw [List.take_of_length_le (by omega)] at hk
   exact ⟨w.heap.size + 1, rfl, ⟨_, j, cap, w.heap.size, hlen.symm, hr3, HSS.out.chg' HC.out (fun k hk => ⟨by omega, by omega⟩), hk⟩, hB⟩
theorem zEc (s : ByteArray) (pos : Nat) (h : pos < s.size) : 1 ≤ (Utf8.decode s pos).2 := by
 by_cases ha : (s[pos]'h).toNat < 128
 ·rw [decode_ascii s pos h ha]
  exact Nat.le_refl _
 ·exact (decode_high s pos h (by omega)).2
theorem zE7 (s : ByteArray) (w : World) : Calls Try.prog 78 #[.string s] w fun e w' => e = .returned (.bool (decide (s.size ≤ 100))) ∧ Below w.heap.size w w' := by
 go_enter Try.func78, Try.ntmps78
 go_wp2_with fail
 go_loopw [2] (fun r w' => ∃ pos : Nat, r = .bool false ∧ w' = w.iter s pos) (fun _ w' => s.size - w'.iterPos w.heap.size)
 case atStart => exact ⟨0, rfl, rfl⟩
 case round =>
  obtain ⟨pos, rfl, rfl⟩ := hrel
  have hB : ∀ q, Below w.heap.size w (w.iter s q) := fun q => ba (b0 w) _
  by_cases hp : pos < s.size
  ·have hnx : ∀ ty, (Instr.next (.pointer (some ⟨w.heap.size, 0, none⟩)) true ty).run Try.prog (w.iter s pos) = _ := fun ty => run_next_any w s pos ty hp
   have hwd := zEc s pos hp
   by_cases hq : 100 < pos
   ·have hsz : ¬ s.size ≤ 100 := by omega
    go_wp2_with fail
    go_ret
    exact ⟨zAc (by simp; omega), hB _⟩
   ·go_wp2_with fail
    go_roundw
    case rel => exact ⟨_, rfl, rfl⟩
    case measure => simp; omega
  ·have hnx : ∀ ty, (Instr.next (.pointer (some ⟨w.heap.size, 0, none⟩)) true ty).run Try.prog (w.iter s pos) = _ := fun ty => run_next_end w s pos ty hp
   go_wp2_with fail
   go_ret
   exact ⟨zAc (by simp; omega), hB _⟩
set_option maxHeartbeats 1000000 in
theorem zK0 (kind : Int) (t : Tr) (a : Option Addr) (m cap : Nat) (hm : m = t.kids.length) (w : World) (h1 : 1 ≤ kind) (h4 : kind ≤ 4) :
  Calls Try.prog 76 #[.int .i64 kind, .agg #[.int .i64 t.n, .string t.s, .slice a m cap]] w fun e w' => e = .returned (.int .i64 (jM kind t)) ∧ Below w.heap.size w w' := by
 obtain ⟨n, s, ks⟩ := t
 simp only [Tr.n, Tr.s, Tr.kids] at *
 have HE : Hid (jM kind (.mk n s ks) = if 0 < m ∨ (kind = 4 ∧ n ≠ 0) ∨ (kind ≠ 4 ∧ s.toList ≠ []) then 13
  else if kind = 1 then (if n < 0 ∨ 1 < n then 14 else 0) else if kind = 2 then (if n < -2147483648 ∨ 2147483647 < n then 14 else 0) else if kind = 3 then 0 else if 100 < s.size then 5 else 0) := zH (by rw [hm]; rfl)
 clear hm
 generalize jM kind (.mk n s ks) = R at *
 have hk : kind = 1 ∨ kind = 2 ∨ kind = 3 ∨ kind = 4 := by omega
 by_cases hm : 0 < m
 ·have HR : Hid (R = 13) := zH (by rw [HE.out, if_pos (.inl hm)])
  clear HE
  go_enter Try.func76, Try.ntmps76
  go_wp2_with fail
  go_ret
  exact ⟨zX HR.out.symm, by repeat (first | with_reducible exact Below.refl _ _ | refine ba ?_ _)⟩
 obtain rfl : m = 0 := by omega
 clear hm
 have hs0 : s.toList = [] ∨ s.toList ≠ [] := by by_cases h : s.toList = []; exact .inl h; exact .inr h
 have strs : ∀ {k : Int}, k ≠ 4 → s.toList ≠ [] → R = (if 0 < 0 ∨ (k = 4 ∧ n ≠ 0) ∨ (k ≠ 4 ∧ s.toList ≠ []) then 13 else if k = 1 then (if n < 0 ∨ 1 < n then 14 else 0) else if k = 2 then (if n < -2147483648 ∨ 2147483647 < n then 14 else 0) else if k = 3 then 0 else if 100 < s.size then 5 else 0) → R = 13 := fun h1 h2 h => by rw [h, if_pos (.inr (.inr ⟨h1, h2⟩))]
 rcases hk with rfl | rfl | rfl | rfl
 ·rcases hs0 with hs | hs
  ·have HR : Hid (R = if n < 0 ∨ 1 < n then 14 else 0) := zH (by rw [HE.out]; simp [hs])
   have hse : (!s.toList.isEmpty) = false := by rw [hs]; rfl
   have hsz : s.size ≤ 100 := by have := zE6 s; rw [hs] at this; simp at this; omega
   have hd : decide (s.size ≤ 100) = true := decide_eq_true hsz
   have HD := zH hd
   clear HE strs hd
   go_enter Try.func76, Try.ntmps76
   go_wp2_with fail
   refine (zE7 s _).mono ?_
   rintro e w1 ⟨rfl, hb1⟩
   have r3 := (Rw.new w #[.int .i64 n, .string s, .slice a 0 cap] 57).below hb1
   have q0 : w1.cell? ⟨w.heap.size, 0, none⟩ = some (.int .i64 n) := r3.cell 0
   have HB := zH (bt (ba (b0 w) _) hb1)
   rw [HD.out]
   clear hb1 r3
   by_cases hn1 : n < 0
   ·go_wp2_with fail
    go_ret
    exact ⟨zX (by rw [HR.out, if_pos (.inl (by assumption))]), HB.out⟩
   ·by_cases hn2 : 1 < n
    ·go_wp2_with fail
     go_ret
     exact ⟨zX (by rw [HR.out, if_pos (.inr (by assumption))]), HB.out⟩
    ·go_wp2_with fail
     go_ret
     exact ⟨zX (by rw [HR.out, if_neg (by omega)]), HB.out⟩
  ·have HR : Hid (R = 13) := zH (strs (by decide) hs HE.out)
   have hse : (!s.toList.isEmpty) = true := by cases h : s.toList with | nil => exact absurd h hs | cons => rfl
   clear HE strs
   go_enter Try.func76, Try.ntmps76
   go_wp2_with fail
   go_ret
   exact ⟨zX HR.out.symm, by repeat (first | with_reducible exact Below.refl _ _ | refine ba ?_ _)⟩
 ·rcases hs0 with hs | hs
  ·have HR : Hid (R = if n < -2147483648 ∨ 2147483647 < n then 14 else 0) := zH (by rw [HE.out]; simp [hs])
   have hse : (!s.toList.isEmpty) = false := by rw [hs]; rfl
   clear HE strs
   by_cases hn1 : n < -2147483648
   ·go_enter Try.func76, Try.ntmps76
    go_wp2_with fail
    go_ret
    exact ⟨zX (by rw [HR.out, if_pos (.inl (by assumption))]), by repeat (first | with_reducible exact Below.refl _ _ | refine ba ?_ _)⟩
   ·by_cases hn2 : 2147483647 < n
    ·go_enter Try.func76, Try.ntmps76
     go_wp2_with fail
     go_ret
     exact ⟨zX (by rw [HR.out, if_pos (.inr (by assumption))]), by repeat (first | with_reducible exact Below.refl _ _ | refine ba ?_ _)⟩
    ·go_enter Try.func76, Try.ntmps76
     go_wp2_with fail
     go_ret
     exact ⟨zX (by rw [HR.out, if_neg (by omega)]), by repeat (first | with_reducible exact Below.refl _ _ | refine ba ?_ _)⟩
  ·have HR : Hid (R = 13) := zH (strs (by decide) hs HE.out)
   have hse : (!s.toList.isEmpty) = true := by cases h : s.toList with | nil => exact absurd h hs | cons => rfl
   clear HE strs
   go_enter Try.func76, Try.ntmps76
   go_wp2_with fail
   go_ret
   exact ⟨zX HR.out.symm, by repeat (first | with_reducible exact Below.refl _ _ | refine ba ?_ _)⟩
 ·rcases hs0 with hs | hs
  ·have HR : Hid (R = 0) := zH (by rw [HE.out]; simp [hs])
   have hse : (!s.toList.isEmpty) = false := by rw [hs]; rfl
   clear HE strs
   go_enter Try.func76, Try.ntmps76
   go_wp2_with fail
   go_ret
   exact ⟨zX HR.out.symm, by repeat (first | with_reducible exact Below.refl _ _ | refine ba ?_ _)⟩
  ·have HR : Hid (R = 13) := zH (strs (by decide) hs HE.out)
   have hse : (!s.toList.isEmpty) = true := by cases h : s.toList with | nil => exact absurd h hs | cons => rfl
   clear HE strs
   go_enter Try.func76, Try.ntmps76
   go_wp2_with fail
   go_ret
   exact ⟨zX HR.out.symm, by repeat (first | with_reducible exact Below.refl _ _ | refine ba ?_ _)⟩
 ·clear strs hs0
  by_cases hn : n = 0
  ·subst hn
   have HR : Hid (R = if 100 < s.size then 5 else 0) := zH (by rw [HE.out]; simp)
   clear HE
   by_cases hsz : s.size ≤ 100
   ·have HD : Hid (decide (s.size ≤ 100) = true) := zH (decide_eq_true hsz)
    replace HR : Hid (R = 0) := zH (by rw [HR.out, if_neg (by omega)])
    clear hsz
    go_enter Try.func76, Try.ntmps76
    go_wp2_with fail
    refine (zE7 s _).mono ?_
    rintro e w1 ⟨rfl, hb1⟩
    have r3 := (Rw.new w #[.int .i64 0, .string s, .slice a 0 cap] 57).below hb1
    have q0 : w1.cell? ⟨w.heap.size, 0, none⟩ = some (.int .i64 0) := r3.cell 0
    have HB := zH (bt (ba (b0 w) _) hb1)
    rw [HD.out]
    clear hb1 r3
    go_wp2_with fail
    go_ret
    exact ⟨zX HR.out.symm, HB.out⟩
   ·have HD : Hid (decide (s.size ≤ 100) = false) := zH (decide_eq_false hsz)
    replace HR : Hid (R = 5) := zH (by rw [HR.out, if_pos (by omega)])
    clear hsz
    go_enter Try.func76, Try.ntmps76
    go_wp2_with fail
    refine (zE7 s _).mono ?_
    rintro e w1 ⟨rfl, hb1⟩
    have HB := zH (bt (ba (b0 w) _) hb1)
    rw [HD.out]
    clear hb1
    go_wp2_with fail
    go_ret
    exact ⟨zX HR.out.symm, HB.out⟩
  ·have HR : Hid (R = 13) := zH (by rw [HE.out, if_pos (.inr (.inl ⟨rfl, hn⟩))])
   have hnb : (n == 0) = false := beq_eq_false_iff_ne.2 hn
   have hnb2 : (n != 0) = true := by simp [hn]
   clear HE hn
   go_enter Try.func76, Try.ntmps76
   go_wp2_with fail
   go_ret
   exact ⟨zX HR.out.symm, by repeat (first | with_reducible exact Below.refl _ _ | refine ba ?_ _)⟩
end Go.Proofs.Ytjbkjfefjhbolaa
