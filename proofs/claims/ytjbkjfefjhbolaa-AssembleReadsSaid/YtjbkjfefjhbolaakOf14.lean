import Derived.Test.YtjbkjfefjhbolaakPLeav14
import Derived.Test.YtjbkjfefjhbolaakPath14
import Derived.Test.YtjbkjfefjhbolaakOW14
import Derived.Deep.OwnRows
set_option linter.all false
open Nat renaming zero_le → zLP
namespace Go.Proofs.Ytjbkjfefjhbolaa
open Go.RowKit Go.Shr
theorem zCC : (Try.prog.info? 22).map (fun i => (i.zero, i.size, i.bytes)) = some (some (.slice none 0 0), 1, 24) := by kernel_rfl
theorem zCD : (Try.prog.info? 42).map (fun i => (i.zero, i.size, i.bytes)) = some (some (.agg #[.slice none 0 0, .slice none 0 0, .slice none 0 0]), 3, 72) := by kernel_rfl
theorem KI.done {B : Nat} {w : World} {bk n : Nat} {cur : Array Value} {aa : Nat → Option Addr} {cc : Nat → Nat} {K : Nat → List Int} (h : KI B w bk n cur aa cc K) {ok : Nat → Prop} (hb : ok bk) (ho : ∀ b, B ≤ b → b < w.heap.size → ok b) : zD9 ok w bk n K := fun k hk =>
  ⟨hb, aa k, cc k, (h.row.cell k).trans (h.at' k hk), by
    have := (h.own k hk).sl
    exact this.mono (fun b hb' h' => ho b h'.1 hb') (by decide)⟩
theorem KI.congr {B : Nat} {w : World} {bk n : Nat} {cur : Array Value} {aa : Nat → Option Addr} {cc : Nat → Nat} {K K' : Nat → List Int} (h : KI B w bk n cur aa cc K) (hK : ∀ k, k < n → K k = K' k) : KI B w bk n cur aa cc K' :=
  ⟨h.row, fun k hk => by rw [← hK k hk]; exact h.at' k hk, fun k hk => by rw [← hK k hk]; exact h.own k hk, h.lt, h.dis⟩
def LVs (l : List Fl) (L : List Nat) (a j : Nat) : List Int := ((List.range j).filter fun k => decide (a ∈ Go.Shr.chain (par l) (L.getD k 0))).map fun (k : Nat) => (k : Int)
def zBz (l : List Fl) (L : List Nat) (i j a : Nat) : List Int := if a < i then LVs l L a L.length else if a = i then LVs l L a j else []
theorem zDW (l : List Fl) (L : List Nat) (a : Nat) : LVs l L a 0 = [] := rfl
theorem zKq (l : List Fl) (L : List Nat) (a j : Nat) : (LVs l L a j).length ≤ j := by unfold LVs; rw [List.length_map]; exact Nat.le_trans (List.length_filter_le _ _) (by simp)
theorem zGp (l : List Fl) (L : List Nat) (a j : Nat) : LVs l L a (j + 1) = if a ∈ Go.Shr.chain (par l) (L.getD j 0) then LVs l L a j ++ [(j : Int)] else LVs l L a j := by
  unfold LVs
  rw [List.range_succ, List.filter_append]
  split <;> simp_all
theorem zIq (l : List Fl) (L : List Nat) (i a : Nat) : zBz l L i L.length a = zBz l L (i + 1) 0 a := by
  unfold zBz
  by_cases h1 : a < i
  · rw [if_pos h1, if_pos (by omega)]
  · rw [if_neg h1]
    by_cases h2 : a = i
    · rw [if_pos h2, if_pos (by omega)]
    · rw [if_neg h2, if_neg (by omega)]
      split
      · rw [zDW]
      · rfl
theorem zAR (l : List Fl) (L : List Nat) (i j : Nat) : zBz l L i j i = LVs l L i j := by unfold zBz; rw [if_neg (by omega), if_pos rfl]
theorem zIo {l : List Fl} {L : List Nat} {i j : Nat} (h : i ∈ Go.Shr.chain (par l) (L.getD j 0)) (a : Nat) : (if a = i then zBz l L i j i ++ [(j : Int)] else zBz l L i j a) = zBz l L i (j + 1) a := by
  by_cases ha : a = i
  · subst ha
    rw [if_pos rfl, zAR, zAR, zGp, if_pos h]
  · rw [if_neg ha]
    unfold zBz
    rw [if_neg ha, if_neg ha]
theorem zIp {l : List Fl} {L : List Nat} {i j : Nat} (h : i ∉ Go.Shr.chain (par l) (L.getD j 0)) (a : Nat) : zBz l L i j a = zBz l L i (j + 1) a := by
  by_cases ha : a = i
  · subst ha
    rw [zAR, zAR, zGp, if_neg h]
  · unfold zBz
    rw [if_neg ha, if_neg ha]
theorem zJZ (m : Nat) : mny m (fun _ => []) = false := by simp [mny]
theorem CT.start {B : Nat} {w : World} {bc m : Nat} (h : Rw w bc (madeCells #[.slice none 0 0, .slice none 0 0, .slice none 0 0] (m * 3)) 42) (hb : bc < B) : CT B w bc m (xY fun _ => []) (madeCells #[.slice none 0 0, .slice none 0 0, .slice none 0 0] (m * 3)) (fun _ => none) (fun _ => 0) := by
  have hn : ∀ j, nC (xY fun _ => []) j = 0 := fun j => by unfold nC xY; simp [zV]
  have hx : ∀ j, xC (xY fun _ => []) j = [] := fun j => by unfold xC xY; simp [zV, zB3, zBO, vcs]
  refine ⟨h, by simp [madeCells], fun j hj => ?_, (OW.nil B w (m * 3) tyC szC).congr (fun _ _ => rfl) (fun j _ => (hn j).symm) (fun _ _ => rfl) (fun j _ => (hx j).symm), hb⟩
  rw [hn]
  have h3 : j % 3 = 0 ∨ j % 3 = 1 ∨ j % 3 = 2 := by omega
  rcases h3 with h3 | h3 | h3 <;> simp [madeCells, hj, h3]
theorem Wy.root_in {l : List Fl} {W : Nat → List UInt8} (h : Wy l W) {k : Nat} (hk : k < l.length) : 0 ∈ Go.Shr.chain (par l) k := (h.chain k hk 0 h.pos).2 (by rw [h.root]; exact List.nil_prefix)
theorem Wy.inside_chain {l : List Fl} {W : Nat → List UInt8} (h : Wy l W) {i k : Nat} (h0 : 0 < i) (hi : i < l.length) (h1 : 0 < k) (hk : k < l.length) : wY (zBT l k).data.toList (zBT l i).data.toList = decide (i ∈ Go.Shr.chain (par l) k) := by
  rw [Bool.eq_iff_iff, decide_eq_true_iff, h.own h1 hk, h.own h0 hi, zE2 (h.ne h1 hk) (h.ne h0 hi), h.chain k hk i hi]
theorem Wy.own_pos {l : List Fl} {W : Nat → List UInt8} (h : Wy l W) {i : Nat} (h0 : 0 < i) (hi : i < l.length) : 0 < (zBT l i).size := by
  have h1 : (zBT l i).data.toList.length = (zBT l i).size := by simp
  have h2 := zAn _ (h.ne h0 hi)
  have h3 := h.own h0 hi
  have h4 : 0 < (W i).length := List.length_pos_iff.2 (h.ne h0 hi)
  rw [← h1, h3]
  omega
structure OfR (n m : Nat) (sa : Option Addr) (sc bx bk bl bc : Nat) (w1 w : World) : Prop where
  rx : Rw w bx #[.slice sa n sc, .slice (some ⟨bk, 0, none⟩) n n, .slice (some ⟨bl, 0, none⟩) n n, .slice (some ⟨bc, 0, none⟩) m m, .bool false] 123
  rk : Rw w bk (madeCells #[.slice none 0 0] n) 22
  rl : Rw w bl (madeCells #[.slice none 0 0] n) 22
  rc : Rw w bc (madeCells #[.slice none 0 0, .slice none 0 0, .slice none 0 0] (m * 3)) 42
  ne : bk ≠ bl ∧ bk ≠ bc ∧ bl ≠ bc ∧ bk ≠ bx ∧ bl ≠ bx ∧ bc ≠ bx
  ge : w1.heap.size ≤ bk ∧ w1.heap.size ≤ bl ∧ w1.heap.size ≤ bc ∧ w1.heap.size ≤ bx
  hb : Below w1.heap.size w1 w
set_option maxHeartbeats 1000000 in
set_option maxRecDepth 100000 in
theorem zLK {l : List Fl} {sh : Sh} {W : Nat → List UInt8} (hS : Sch l sh) (hw : Wy l W) (hrp : ∀ x ∈ l, x.rep = 0 ∨ x.rep = 1 ∨ x.rep = 2) (sa : Option Addr) (sc : Nat) (w : World) (hs : Sl (fun b => b < w.heap.size) w 4 sa l.length sc (fls l)) :
    Calls Try.prog 63 #[.slice sa l.length sc] w fun e w' => ∃ p : SP, e = .returned (.pointer (some ⟨p.bx, 0, none⟩)) ∧ p.l = l ∧ p.lfs = zG l l.length ∧ p.sa = sa ∧ p.sc = sc ∧ p.B0 = w.heap.size ∧ p.B = w'.heap.size ∧ Str p w' (fun _ => []) (fun _ => none) ∧ Below w.heap.size w w' := by
  obtain ⟨ii, hii, hz0i, hz1i, hz2i⟩ := info_parts jR
  have hn := hw.len
  have hmk := fun w => qM (P := Try.prog) 23 22 _ 24 1 Try.underlying23 zCC .i64 .i64 l.length (by omega) (by omega) w
  have HS := zH hs; have HK := zH hS.kids; have HSC := zH hS; have HW := zH hw
  have HL : Hid (zG l l.length = zG l l.length) := zH rfl
  have hLl := yW (l := l) (m := l.length)
  have hmk2 := fun w => qM (P := Try.prog) 30 42 _ 72 3 Try.underlying30 zCD .i64 .i64 (zG l l.length).length (by omega) (by omega) w
  have HLM : Hid (∀ (j : Nat) (h : j < (zG l l.length).length), (zG l l.length)[j] < l.length ∧ 0 < (zG l l.length)[j]) := zH (fun j h => by
    have hm := zAk.1 (List.getElem_mem h)
    refine ⟨hm.1, Nat.pos_of_ne_zero fun e => hm.2 ?_⟩
    rw [e, qS hw.pos]
    obtain ⟨nm, rp, kd, ks⟩ := sh
    have h2 : kd = 0 := hS.kind
    have h3 := hS.flat
    subst h3
    exact h2)
  clear hs hS hw
  go_enter Try.func63, Try.ntmps63
  go_wp2_with fail
  refine (zEp sa sc l w HS.out (by omega) HK.out hrp).mono ?_
  rintro e w1 ⟨aL, cL, rfl, oL, hb1⟩
  have HLV := zH (oL.sl.mono (ok' := fun b => b < w1.heap.size) (fun k hk _ => hk) (by decide))
  have HB1 := zH hb1
  clear oL hb1 hrp
  obtain ⟨L, hL⟩ : ∃ L, L = zG l l.length := ⟨_, rfl⟩
  rw [← hL] at HLV hmk2 hLl HLM ⊢
  have HL := zH hL
  clear hL
  go_wp2_with fail
  go_cut [4] from 12 to 23 (fun v4 wc => ∃ bx bk bl bc, v4 = .pointer (some ⟨bx, 0, none⟩) ∧ Hid (OfR l.length L.length sa sc bx bk bl bc w1 wc))
  case first =>
    have HB := b0 w1
    refine zF (fun _ => True) [12] (by decide +kernel) ?g12rgS (fun hHeld => ?g12rgR)
    case g12rgS => trivial
    try dsimp only at hHeld
    obtain ⟨W, hW⟩ : ∃ W, W = w1.drew := ⟨_, rfl⟩; rw [← hW]; (replace HB := Go.Shr.Below.ren hW (HB.drew)); clear hW
    repeat' first
      | exact zA.nil
      | refine zB (fuel := 5) [3, 6, 9] (by decide +kernel) (by simp) ?_
      | refine zB (fuel := 4) [6, 9] (by decide +kernel) (by simp) ?_
      | refine zB (fuel := 4) [3, 9] (by decide +kernel) (by simp) ?_
      | refine zB (fuel := 4) [3, 6] (by decide +kernel) (by simp) ?_
      | refine zB (fuel := 3) [9] (by decide +kernel) (by simp) ?_
      | refine zB (fuel := 3) [6] (by decide +kernel) (by simp) ?_
      | refine zB (fuel := 3) [3] (by decide +kernel) (by simp) ?_
      | refine zB (fuel := 1) [11] (by decide +kernel) (by simp) ?_
      | refine zB (fuel := 0) [12] (by decide +kernel) (by simp) ?_
      | (refine zD [0, 1, 2, 4, 5, 7, 8] 6 (by decide +kernel) (fun _ _ _ _ _ h => h) (by assumption) ?_; (iterate 7 ((apply YA.take rfl (by rfl); case hy => intro w hSw; go_simp; try with_reducible rfl); try simp only [pD])); refine YA.nil ?_)
      | (refine zD [10] 2 (by decide +kernel) (fun _ _ _ _ _ h => h) (by assumption) ?_; (iterate 1 ((apply YA.take rfl (by rfl); case hy => intro w hSw; go_simp; try with_reducible rfl); try simp only [pD])); refine YA.nil ?_)
      | (refine zA.con 3 rfl (fun K hK => ?_) ?_; ((obtain ⟨bk, hbk⟩ : ∃ b2, b2 = W.heap.size := ⟨_, rfl⟩); (try have nkl : bk ≠ bl := by have := rl.lt; omega); (try have nkc : bk ≠ bc := by have := rc.lt; omega); go_simp; rw [← hbk]; refine xN (fun W hW => ?_); (have rk := Rw.ren hW (Rw.fresh HB _ 22)); rw [← hbk] at rk; (have gk : w1.heap.size ≤ bk := by have := HB.size; omega); (try replace rl := Rw.ren hW (Rw.alloc rl _)); (try replace rc := Rw.ren hW (Rw.alloc rc _)); (replace HB := Go.Shr.Below.ren hW (ba HB _)); clear hW hbk); (refine hK.out _ _ (by trivial) (fun hHeld => ?_)); try dsimp only at hHeld; clear hK K; try simp only [pD])
      | (refine zA.con 6 rfl (fun K hK => ?_) ?_; ((obtain ⟨bl, hbl⟩ : ∃ b2, b2 = W.heap.size := ⟨_, rfl⟩); (try have nkl : bk ≠ bl := by have := rk.lt; omega); (try have nlc : bl ≠ bc := by have := rc.lt; omega); go_simp; rw [← hbl]; refine xN (fun W hW => ?_); (have rl := Rw.ren hW (Rw.fresh HB _ 22)); rw [← hbl] at rl; (have gl : w1.heap.size ≤ bl := by have := HB.size; omega); (try replace rk := Rw.ren hW (Rw.alloc rk _)); (try replace rc := Rw.ren hW (Rw.alloc rc _)); (replace HB := Go.Shr.Below.ren hW (ba HB _)); clear hW hbl); (refine hK.out _ _ (by trivial) (fun hHeld => ?_)); try dsimp only at hHeld; clear hK K; try simp only [pD])
      | (refine zA.con 9 rfl (fun K hK => ?_) ?_; ((obtain ⟨bc, hbc⟩ : ∃ b2, b2 = W.heap.size := ⟨_, rfl⟩); (try have nkc : bk ≠ bc := by have := rk.lt; omega); (try have nlc : bl ≠ bc := by have := rl.lt; omega); go_simp; rw [← hbc]; refine xN (fun W hW => ?_); (have rc := Rw.ren hW (Rw.fresh HB _ 42)); rw [← hbc] at rc; (have gc : w1.heap.size ≤ bc := by have := HB.size; omega); (try replace rk := Rw.ren hW (Rw.alloc rk _)); (try replace rl := Rw.ren hW (Rw.alloc rl _)); (replace HB := Go.Shr.Below.ren hW (ba HB _)); clear hW hbc); (refine hK.out _ _ (by trivial) (fun hHeld => ?_)); try dsimp only at hHeld; clear hK K; try simp only [pD])
      | (refine zA.con 11 rfl (fun K hK => ?_) ?_; ((obtain ⟨bx, hbx⟩ : ∃ b2, b2 = W.heap.size := ⟨_, rfl⟩); (have nkx : bk ≠ bx := by have := rk.lt; omega); (have nlx : bl ≠ bx := by have := rl.lt; omega); (have ncx : bc ≠ bx := by have := rc.lt; omega); go_simp; rw [← hbx]; refine xN (fun W hW => ?_); (have rx := Rw.ren hW (Rw.fresh HB _ 123)); rw [← hbx] at rx; (have gx : w1.heap.size ≤ bx := by have := HB.size; omega); (replace rl := Rw.ren hW (Rw.alloc rl _)); (replace rk := Rw.ren hW (Rw.alloc rk _)); (replace rc := Rw.ren hW (Rw.alloc rc _)); (replace HB := Go.Shr.Below.ren hW (ba HB _)); clear hW hbx); (refine hK.out _ _ (by trivial) (fun hHeld => ?_)); try dsimp only at hHeld; clear hK K; try simp only [pD])
      | (refine zA.lst 12 rfl (by decide +kernel) (fun K hK => ?_) ?_; (go_simp); refine hK.out _ _ ?_; clear hK K; try simp only [pD])
      | (refine zE (by decide +kernel) ?_
         go_wp2_with fail
         go_meet
         case rel => exact ⟨bx, bk, bl, bc, rfl, zH ⟨rx, rk, rl, rc, ⟨nkl, nkc, nlc, nkx, nlx, ncx⟩, ⟨gk, gl, gc, gx⟩, HB⟩⟩)
  case rest =>
    obtain ⟨bx, bk, bl, bc, rfl, HR⟩ := hcut
    clear hmk hmk2
    obtain ⟨rx, rk, rl, rc, ⟨nkl, nkc, nlc, nkx, nlx, ncx⟩, ⟨gk, gl, gc, gx⟩, hb⟩ := HR.out
    have RX := zH rx; have RK := zH rk; have RL := zH rl; have RC := zH rc; have HBC := zH (bt HB1.out hb)
    have HLVC := zH (HLV.out.below hb)
    have ltx := rx.lt; have ltk := rk.lt; have ltl := rl.lt; have ltc := rc.lt
    have hw1 := HB1.out.size
    clear rx rk rl rc hb HR HLV
    have HSC2 := zH (slb HS.out HBC.out)
    go_wp2_with fail
    refine (zGJ sa l.length sc l wc HSC2.out (by omega) HK.out).mono ?_
    rintro e w2 ⟨aP, cP, rfl, oP, hb2⟩
    have hsz2 := hb2.size
    have hsP := oP.sl
    have HP0 := zH (hsP.mono (ok' := fun k => k < w2.heap.size ∧ k ≠ bk ∧ k ≠ bl) (fun k hk h => ⟨hk, by have := h.1; omega, by have := h.1; omega⟩) (by decide))
    have RX2 := zH (RX.out.below hb2)
    have RL2 := zH (RL.out.below hb2); have RC2 := zH (RC.out.below hb2)
    have HLV2 := zH (HLVC.out.below hb2); have HS2 := zH ((HS.out.below HBC.out).below hb2)
    have HKI := zH (show KI w2.heap.size w2 bk l.length (madeCells #[.slice none 0 0] l.length) (fun _ => none) (fun _ => 0) (fun k => zK ((par l).take 0) k) from
      ⟨RK.out.below hb2, fun k hk => by rw [List.take_zero]; simp [zB0, madeCells, hk, Nat.mod_one], fun k hk => by rw [List.take_zero]; exact Own.nil _ _ _ _, fun k g _ ⟨_, _, h⟩ => (by cases h), fun k j g _ _ _ ⟨_, _, h⟩ => (by cases h)⟩)
    have HB2 := zH (bt HBC.out hb2)
    have hPl : (par l).length = l.length := zW l
    clear hb2 oP hsP RX RK RL RC HSC2 HLVC HBC HB1 HS
    go_wp2_with fail
    go_loopw [27] (fun i wr => ∃ (j : Nat) (cur : Array Value) (aa : Nat → Option Addr) (cc : Nat → Nat), i = .int .i64 j ∧ j ≤ l.length ∧ Hid (KI w2.heap.size wr bk l.length cur aa cc (fun k => zK ((par l).take j) k)) ∧ Hid (Chg (fun k => k = bk ∨ w2.heap.size ≤ k) w2 wr)) (fun i _ => l.length - (intOf i).toNat)
    case atStart => exact ⟨0, _, _, _, rfl, zLP _, HKI, zH (Chg.refl _ _)⟩
    case round =>
      obtain ⟨j, cur, aa, cc, rfl, hj, HI, HC⟩ := hrel
      have hszr := HC.out.size
      clear HKI
      by_cases hlt : j < l.length
      · obtain ⟨b, off, rfl, ⟨hb1, hb2⟩, hcc⟩ := HP0.out.pos (by omega)
        have e0 := hcc _ _ (zO (par l) j (by omega))
        replace e0 := HC.out.keep e0 (by omega)
        have hbd := yI l j (by omega)
        have HX : Hid ((par l).take (j + 1) = (par l).take j ++ [(par l)[j]'(by omega)]) := zH (List.take_succ_eq_append_getElem (by omega))
        generalize (par l)[j]'(by omega) = p at *
        clear hcc
        by_cases hp : 0 ≤ p
        · obtain ⟨q, rfl⟩ : ∃ q : Nat, p = (q : Int) := ⟨p.toNat, by omega⟩
          have hq : q < l.length := by omega
          have hr3 : Rw wr bx #[.slice sa l.length sc, .slice (some ⟨bk, 0, none⟩) l.length l.length, .slice (some ⟨bl, 0, none⟩) l.length l.length, .slice (some ⟨bc, 0, none⟩) L.length L.length, .bool false] 123 := RX2.out.chg HC.out (by omega)
          have hkq : wr.cell? ⟨bk, q, none⟩ = some (.slice (aa q) (zK ((par l).take j) q).length (cc q)) := (HI.out.row.cell q).trans (HI.out.at' q hq)
          have hkl : (zK ((par l).take j) q).length ≤ 1000 := by have := zB1 ((par l).take j) q; rw [List.length_take] at this; omega
          have HOQ := zH (HI.out.own q hq)
          generalize hKq : zK ((par l).take j) (q : Int) = Kq at hkq hkl HOQ
          have HKQ := zH hKq; clear hKq
          go_wp2_with fail
          refine zF (fun w' => Rw w' bx #[.slice sa l.length sc, .slice (some ⟨bk, 0, none⟩) l.length l.length, .slice (some ⟨bl, 0, none⟩) l.length l.length, .slice (some ⟨bc, 0, none⟩) L.length L.length, .bool false] 123 ∧ w'.cell? ⟨bk, q, none⟩ = some (.slice (aa q) Kq.length (cc q))) [16] (by decide +kernel) ?g13rgS (fun hHeld => ?g13rgR)
          case g13rgS => (try dsimp only); (first | exact ⟨hr3.drew, hkq⟩ | exact ⟨hHeld.1.alloc _, cb (ba (b0 _) _) hHeld.2⟩ | exact ⟨hHeld.1.chg hc5 (by rintro ⟨_, h, _⟩; omega), hc5.keep hHeld.2 (by rintro ⟨_, h, _⟩; omega)⟩)
          try dsimp only at hHeld
          repeat' first
            | exact zA.nil
            | refine zB (fuel := 3) [13] (by decide +kernel) (by simp) ?_
            | refine zB (fuel := 2) [14] (by decide +kernel) (by simp) ?_
            | refine zB (fuel := 0) [16] (by decide +kernel) (by simp) ?_
            | (refine zD [0, 1, 2, 3, 4, 5, 6, 7, 8, 9, 10, 11, 12] 4 (by decide +kernel) (fun _ _ _ _ _ h => h) (by assumption) ?_; (iterate 13 ((apply YA.take rfl (by rfl); case hy => intro wS hSw; (obtain ⟨g1, g2⟩ := hSw); (have q1 : wS.cell? ⟨bx, 1, none⟩ = some (.slice (some ⟨bk, 0, none⟩) l.length l.length) := g1.cell 1); go_simp; try with_reducible rfl); try simp only [pD])); refine YA.nil ?_)
            | (refine zD [15] 1 (by decide +kernel) (fun _ _ _ _ _ h => h) (by assumption) ?_; (iterate 1 ((apply YA.take rfl (by rfl); case hy => intro wS hSw; (obtain ⟨g1, g2⟩ := hSw); (have q1 : wS.cell? ⟨bx, 1, none⟩ = some (.slice (some ⟨bk, 0, none⟩) l.length l.length) := g1.cell 1); go_simp; try with_reducible rfl); try simp only [pD])); refine YA.nil ?_)
            | (refine zA.con 13 rfl (fun K hK => ?_) ?_; (go_simp); (refine hK.out _ _ ?_ (fun hHeld => ?_); focus ((try dsimp only); (first | exact ⟨hr3.drew, hkq⟩ | exact ⟨hHeld.1.alloc _, cb (ba (b0 _) _) hHeld.2⟩ | exact ⟨hHeld.1.chg hc5 (by rintro ⟨_, h, _⟩; omega), hc5.keep hHeld.2 (by rintro ⟨_, h, _⟩; omega)⟩))); try dsimp only at hHeld; clear hK K; try simp only [pD])
            | (refine zA.con 14 rfl (fun K hK => ?_) ?_; ((refine zN (B := w2.heap.size) rfl _ _ _ _ rfl ii (.int .i64 0) 8 Try.underlying22 hii hz0i hz1i hz2i rfl rfl (HOQ.out.drew.alloc _) _ rfl _ _ (yP (e' := 3) Try.underlying22 (cur := #[.int .i64 (j : Int)]) (t := 3) (by refine Rw.new' ?_; simp) 1 1 (by rfl) (by simp [Value.oneCell'])) (by simp only [maxLen]; omega) (by omega) (by first | omega | (simp; omega) | simp) ?_; intro a5 cap5 w5 ho5 hc5 hn5)); (refine hK.out _ _ ?_ (fun hHeld => ?_); focus ((try dsimp only); (first | exact ⟨hr3.drew, hkq⟩ | exact ⟨hHeld.1.alloc _, cb (ba (b0 _) _) hHeld.2⟩ | exact ⟨hHeld.1.chg hc5 (by rintro ⟨_, h, _⟩; omega), hc5.keep hHeld.2 (by rintro ⟨_, h, _⟩; omega)⟩))); try dsimp only at hHeld; clear hK K; try simp only [pD])
            | (refine zA.lst 16 rfl (by decide +kernel) (fun K hK => ?_) ?_; ((have q5 : w5.cell? ⟨bk, q, none⟩ = some (.slice (aa q) Kq.length (cc q)) := hHeld.2); (have qrow : Rw w5 bk cur 22 := ((HI.out.row.drew.alloc _).chg hc5 (by rintro ⟨_, h, _⟩; omega))); (have qf := qrow.frozen); (have ql := qrow.lt); go_simp); refine hK.out _ _ ?_; clear hK K; try simp only [pD])
            | (refine zE (by decide +kernel) ?_)
          have HKI5 := zH ((HI.out.below (((b0 wr).drew.alloc (by simp) (.cells #[.int .i64 (j : Int)] 3)))).push q hq (x := (j : Int)) (by omega) (by rw [HKQ.out, yT]; exact ho5) hc5 hn5)
          have HC5 := zH ((((HC.out.drew.alloc (.cells #[.int .i64 (j : Int)] 3)).trans hc5 (S' := fun k => blk (aa q) k ∧ w2.heap.size ≤ k ∧ 0 < cc q) (fun k _ h => .inr h.2.1))).setCell (p := ⟨bk, q, none⟩) (.inr (.inl rfl)) (.slice a5 (Kq.length + 1) cap5))
          clear ho5 hc5 hn5 hHeld
          go_wp2_with fail
          go_roundw
          case rel =>
            have h := HKI5.out
            rw [HKQ.out] at h
            have e : (fun (k : Nat) => zK ((par l).take (j + 1)) k) = fun k => if k = q then Kq ++ [(j : Int)] else zK ((par l).take j) k := by
              funext k
              rw [HX.out, qK, List.length_take, show min j (par l).length = j by omega]
              by_cases hk : k = q
              · subst hk; simp [HKQ.out]
              · have : ¬ ((q : Int) = (k : Int)) := by omega
                simp [hk, this]
            rw [← e] at h
            exact ⟨j + 1, _, _, _, by go_num, by omega, zH h, HC5⟩
          case measure => simp [intOf]; omega
        · have hpf : (decide (0 ≤ p)) = false := decide_eq_false hp
          have e : (fun (k : Nat) => zK ((par l).take (j + 1)) k) = fun (k : Nat) => zK ((par l).take j) k := by
            funext k
            rw [HX.out, qK]
            have : ¬ (p = (k : Int)) := by omega
            simp [this]
          have HE := zH e; clear e
          clear hp
          go_wp2_with fail
          go_roundw
          case rel => exact ⟨j + 1, cur, aa, cc, by go_num, by omega, zH (by rw [HE.out]; exact HI.out), HC⟩
          case measure => simp [intOf]; omega
      · obtain rfl : j = l.length := by omega
        clear hlt
        have RX3 := zH (RX2.out.chg HC.out (by omega)); have RC3 := zH (RC2.out.chg HC.out (by omega)); have RL3 := zH (RL2.out.chg HC.out (by omega))
        have HB3 : Hid (Below w.heap.size w wr) := zH (Chg.bt HB2.out HC.out (fun i hi h => by omega))
        have HLV3 : Hid (Sl (fun b => b < w1.heap.size) wr 4 aL L.length cL (lvs l L)) := zH (HLV2.out.go HC.out (fun b _ hb => ⟨by omega, hb⟩) (by decide))
        have HS3 : Hid (Sl (fun b => b < w.heap.size) wr 4 sa l.length sc (fls l)) := zH (HS2.out.go HC.out (fun b _ hb => ⟨by omega, hb⟩) (by decide))
        have hI := HI.out
        rw [List.take_of_length_le (by omega)] at hI
        have HKG : Hid (zD9 (fun b => b < wr.heap.size ∧ b ≠ bx ∧ b ≠ bc ∧ b ≠ bl) wr bk l.length (fun k => zK (par l) k)) := zH (hI.done ⟨by omega, nkx, nkc, nkl⟩ (fun b h1 h2 => ⟨h2, by omega, by omega, by omega⟩))
        obtain ⟨w3, hw3⟩ : ∃ w3, w3 = wr := ⟨_, rfl⟩
        rw [← hw3] at HB3 HLV3 HS3 HKG RX3 RC3 RL3 hszr ⊢
        clear hI HI HC hw3 HLV2 HS2 RX2 RC2 RL2 HB2 HP0 hPl
        have HKL := zH (show KI w3.heap.size w3 bl l.length (madeCells #[.slice none 0 0] l.length) (fun _ => none) (fun _ => 0) (zBz l L 0 0) from
          ⟨RL3.out, fun k hk => by unfold zBz; simp only [zDW]; simp [madeCells, hk, Nat.mod_one], fun k hk => by unfold zBz; simp only [zDW]; simp; exact Own.nil _ _ _ _, fun k g _ ⟨_, _, h⟩ => (by cases h), fun k j g _ _ _ ⟨_, _, h⟩ => (by cases h)⟩)
        clear RL3
        go_wp2_with fail
        go_loopw [53] (fun iv wr => ∃ (i : Nat) (cur : Array Value) (aa : Nat → Option Addr) (cc : Nat → Nat), iv = .int .i64 i ∧ i ≤ l.length ∧ Hid (KI w3.heap.size wr bl l.length cur aa cc (zBz l L i 0)) ∧ Hid (Chg (fun k => k = bl ∨ w3.heap.size ≤ k) w3 wr)) (fun i _ => l.length - (intOf i).toNat)
        case atStart => exact ⟨0, _, _, _, rfl, zLP _, HKL, zH (Chg.refl _ _)⟩
        case round =>
          obtain ⟨i, cur, aa, cc, rfl, hi, HI, HC⟩ := hrel
          have hszr := HC.out.size
          clear HKL
          by_cases hil : i < l.length
          · go_wp2_with fail
            go_loopw [58] (fun jv wq => ∃ (j : Nat) (cur : Array Value) (aa : Nat → Option Addr) (cc : Nat → Nat), jv = .int .i64 j ∧ j ≤ L.length ∧ Hid (KI w3.heap.size wq bl l.length cur aa cc (zBz l L i j)) ∧ Hid (Chg (fun k => k = bl ∨ w3.heap.size ≤ k) w3 wq)) (fun j _ => L.length - (intOf j).toNat)
            case atStart => exact ⟨0, cur, aa, cc, rfl, zLP _, HI, HC⟩
            case round =>
              clear HI HC hszr
              obtain ⟨j, cur, aa, cc, rfl, hj, HI, HC⟩ := hrel
              have hszq := HC.out.size
              by_cases hjl : j < L.length
              · have HLVQ := zH (HLV3.out.go HC.out (fun b hb h => ⟨by omega, h⟩) (by decide))
                obtain ⟨gL, oL, rfl, hgL, hcL⟩ := HLVQ.out.pos (by omega)
                obtain ⟨f0, f1, f2, f3⟩ := zBf l L j hjl
                have a0 := hcL _ _ f0; have a1 := hcL _ _ f1; have a2 := hcL _ _ f2; have a3 := hcL _ _ f3
                rw [← Nat.add_assoc] at a1 a2 a3
                have HLJ := zH (HLM.out j hjl)
                have hlj := HLM.out j hjl
                have HGD : Hid (L.getD j 0 = L[j]) := zH (by simp [List.getD, hjl])
                generalize L[j] = lf at *
                clear f0 f1 f2 f3 hcL
                go_upto_region 15 with fail
                refine yE (fun wz hwz => ?_)
                have hbz : Below wr.heap.size wr wz := by rw [hwz]; exact ba (b0 wr) _
                have r9 : Rw wz wr.heap.size #[.int .i64 (lf : Int), .int .i64 (lvR l lf : Int), .int .i64 (lvD l lf : Int), .int .i64 (flN l lf).kind] 52 := by rw [hwz]; exact Rw.new wr _ _
                clear hwz a0 a1 a2 a3
                have k0 : wz.cell? ⟨wr.heap.size, 0, none⟩ = some (.int .i64 (lf : Int)) := r9.cell 0
                have HBZ := zH hbz
                have HSZ := zH (slb (HS3.out.go HC.out (ok' := fun b => b < wr.heap.size) (fun b hb h => ⟨by omega, by omega⟩) (by decide)) hbz)
                clear r9 hbz
                go_cut [74] from 63 to 74 (fun v wd => v = .bool (decide (i ∈ Go.Shr.chain (par l) lf)) ∧ Hid (Below wr.heap.size wr wd))
                case first =>
                  by_cases hi0 : i = 0
                  · have hib : ((i : Int) == 0) = true := beq_iff_eq.2 (by omega)
                    have HIN : Hid (decide (i ∈ Go.Shr.chain (par l) lf) = true) := zH (by rw [hi0]; exact decide_eq_true (HW.out.root_in hlj.1))
                    clear hi0
                    go_wp2_with fail
                    go_meet
                    case rel => exact ⟨by rw [HIN.out], HBZ⟩
                  · have hib : ((i : Int) == 0) = false := beq_eq_false_iff_ne.2 (by omega)
                    have hi1 : 0 < i := by omega
                    clear hi0
                    go_wp2_with fail
                    refine (zJr sa sc l lf wz HSZ.out hn HK.out HW.out.name_size hlj.2 hlj.1).mono ?_
                    rintro e w5 ⟨rfl, hb5⟩
                    have HS5 := zH (slb HSZ.out hb5)
                    have HB5 := zH (bt HBZ.out hb5)
                    clear hb5
                    go_wp2_with fail
                    refine (zJr sa sc l i w5 HS5.out hn HK.out HW.out.name_size hi1 hil).mono ?_
                    rintro e w6 ⟨rfl, hb6⟩
                    have HB6 := zH (bt HB5.out hb6)
                    clear hb6
                    go_wp2_with fail
                    refine (zI4 (zBT l lf) (zBT l i) w6 (HW.out.own_asc lf hlj.2 hlj.1) (by have := HW.out.own_size lf hlj.2 hlj.1; unfold maxLen; omega) (by have := HW.out.own_size i hi1 hil; unfold maxLen; omega) (HW.out.own_pos hi1 hil)).mono ?_
                    rintro e w7 ⟨rfl, hb7⟩
                    rw [HW.out.inside_chain hi1 hil hlj.2 hlj.1]
                    have HB7 := zH (bt HB6.out hb7)
                    clear hb7
                    go_wp2_with fail
                    go_meet
                    case rel => exact ⟨rfl, HB7⟩
                case rest =>
                  obtain ⟨rfl, HBD⟩ := hcut
                  have HID := zH (HI.out.below HBD.out)
                  have HCD := zH (HC.out.trans (Chg.ofBelow HBD.out) (fun i hi h => .inr (by omega)))
                  have hszd := HBD.out.size
                  clear k0 HBZ HSZ HI HC
                  by_cases hin : i ∈ Go.Shr.chain (par l) lf
                  · have hib : decide (i ∈ Go.Shr.chain (par l) lf) = true := decide_eq_true hin
                    have HST := zH (fun a => zIo (l := l) (L := L) (i := i) (j := j) (by rw [HGD.out]; exact hin) a)
                    rw [hib]
                    clear hin hib
                    have hr3 : Rw wc bx #[.slice sa l.length sc, .slice (some ⟨bk, 0, none⟩) l.length l.length, .slice (some ⟨bl, 0, none⟩) l.length l.length, .slice (some ⟨bc, 0, none⟩) L.length L.length, .bool false] 123 := RX3.out.chg HCD.out (by omega)
                    have hkq : wc.cell? ⟨bl, i, none⟩ = some (.slice (aa i) (zBz l L i j i).length (cc i)) := (HID.out.row.cell i).trans (HID.out.at' i hil)
                    have hkl : (zBz l L i j i).length ≤ 1000 := by rw [zAR]; have := zKq l L i j; omega
                    have HOQ := zH (HID.out.own i hil)
                    generalize hKq : zBz l L i j i = Kq at hkq hkl HOQ
                    have HKQ := zH hKq; clear hKq
                    go_wp2_with fail
                    refine zF (fun w' => Rw w' bx #[.slice sa l.length sc, .slice (some ⟨bk, 0, none⟩) l.length l.length, .slice (some ⟨bl, 0, none⟩) l.length l.length, .slice (some ⟨bc, 0, none⟩) L.length L.length, .bool false] 123 ∧ w'.cell? ⟨bl, i, none⟩ = some (.slice (aa i) Kq.length (cc i))) [16] (by decide +kernel) ?g14rgS (fun hHeld => ?g14rgR)
                    case g14rgS => (try dsimp only); (first | exact ⟨hr3.drew, hkq⟩ | exact ⟨hHeld.1.alloc _, cb (ba (b0 _) _) hHeld.2⟩ | exact ⟨hHeld.1.chg hc5 (by rintro ⟨_, h, _⟩; omega), hc5.keep hHeld.2 (by rintro ⟨_, h, _⟩; omega)⟩)
                    try dsimp only at hHeld
                    repeat' first
                      | exact zA.nil
                      | refine zB (fuel := 3) [13] (by decide +kernel) (by simp) ?_
                      | refine zB (fuel := 2) [14] (by decide +kernel) (by simp) ?_
                      | refine zB (fuel := 0) [16] (by decide +kernel) (by simp) ?_
                      | (refine zD [0, 1, 2, 3, 4, 5, 6, 7, 8, 9, 10, 11, 12] 4 (by decide +kernel) (fun _ _ _ _ _ h => h) (by assumption) ?_; (iterate 13 ((apply YA.take rfl (by rfl); case hy => intro wS hSw; (obtain ⟨g1, g2⟩ := hSw); (have q1 : wS.cell? ⟨bx, 2, none⟩ = some (.slice (some ⟨bl, 0, none⟩) l.length l.length) := g1.cell 2); go_simp; try with_reducible rfl); try simp only [pD])); refine YA.nil ?_)
                      | (refine zD [15] 1 (by decide +kernel) (fun _ _ _ _ _ h => h) (by assumption) ?_; (iterate 1 ((apply YA.take rfl (by rfl); case hy => intro wS hSw; (obtain ⟨g1, g2⟩ := hSw); (have q1 : wS.cell? ⟨bx, 2, none⟩ = some (.slice (some ⟨bl, 0, none⟩) l.length l.length) := g1.cell 2); go_simp; try with_reducible rfl); try simp only [pD])); refine YA.nil ?_)
                      | (refine zA.con 13 rfl (fun K hK => ?_) ?_; (go_simp); (refine hK.out _ _ ?_ (fun hHeld => ?_); focus ((try dsimp only); (first | exact ⟨hr3.drew, hkq⟩ | exact ⟨hHeld.1.alloc _, cb (ba (b0 _) _) hHeld.2⟩ | exact ⟨hHeld.1.chg hc5 (by rintro ⟨_, h, _⟩; omega), hc5.keep hHeld.2 (by rintro ⟨_, h, _⟩; omega)⟩))); try dsimp only at hHeld; clear hK K; try simp only [pD])
                      | (refine zA.con 14 rfl (fun K hK => ?_) ?_; ((refine zN (B := w3.heap.size) rfl _ _ _ _ rfl ii (.int .i64 0) 8 Try.underlying22 hii hz0i hz1i hz2i rfl rfl (HOQ.out.drew.alloc _) _ rfl _ _ (yP (e' := 3) Try.underlying22 (cur := #[.int .i64 (j : Int)]) (t := 3) (by refine Rw.new' ?_; simp) 1 1 (by rfl) (by simp [Value.oneCell'])) (by simp only [maxLen]; omega) (by omega) (by first | omega | (simp; omega) | simp) ?_; intro a5 cap5 w5 ho5 hc5 hn5)); (refine hK.out _ _ ?_ (fun hHeld => ?_); focus ((try dsimp only); (first | exact ⟨hr3.drew, hkq⟩ | exact ⟨hHeld.1.alloc _, cb (ba (b0 _) _) hHeld.2⟩ | exact ⟨hHeld.1.chg hc5 (by rintro ⟨_, h, _⟩; omega), hc5.keep hHeld.2 (by rintro ⟨_, h, _⟩; omega)⟩))); try dsimp only at hHeld; clear hK K; try simp only [pD])
                      | (refine zA.lst 16 rfl (by decide +kernel) (fun K hK => ?_) ?_; ((have q5 : w5.cell? ⟨bl, i, none⟩ = some (.slice (aa i) Kq.length (cc i)) := hHeld.2); (have qrow : Rw w5 bl cur 22 := ((HID.out.row.drew.alloc _).chg hc5 (by rintro ⟨_, h, _⟩; omega))); (have qf := qrow.frozen); (have ql := qrow.lt); go_simp); refine hK.out _ _ ?_; clear hK K; try simp only [pD])
                      | (refine zE (by decide +kernel) ?_)
                    have HKI5 := zH ((HID.out.below (((b0 wc).drew.alloc (by simp) (.cells #[.int .i64 (j : Int)] 3)))).push i hil (x := (j : Int)) (by omega) (by rw [HKQ.out, yT]; exact ho5) hc5 hn5)
                    have HC5 := zH ((((HCD.out.drew.alloc (.cells #[.int .i64 (j : Int)] 3)).trans hc5 (S' := fun k => blk (aa i) k ∧ w3.heap.size ≤ k ∧ 0 < cc i) (fun k _ h => .inr h.2.1))).setCell (p := ⟨bl, i, none⟩) (.inr (.inl rfl)) (.slice a5 (Kq.length + 1) cap5))
                    clear ho5 hc5 hn5 hHeld
                    go_wp2_with fail
                    go_roundw
                    case rel =>
                      have h := HKI5.out.congr (fun a _ => HST.out a)
                      rw [HKQ.out] at h
                      exact ⟨j + 1, _, _, _, by go_num, by omega, zH h, HC5⟩
                    case measure => simp [intOf]; omega
                  · have hib : decide (i ∈ Go.Shr.chain (par l) lf) = false := decide_eq_false hin
                    have HST := zH (fun a => zIp (l := l) (L := L) (i := i) (j := j) (by rw [HGD.out]; exact hin) a)
                    rw [hib]
                    clear hin hib
                    go_wp2_with fail
                    go_roundw
                    case rel => exact ⟨j + 1, cur, aa, cc, by go_num, by omega, zH (HID.out.congr (fun a _ => HST.out a)), HCD⟩
                    case measure => simp [intOf]; omega
              · obtain rfl : j = L.length := by omega
                clear hjl
                go_wp2_with fail
                go_roundw
                case rel => exact ⟨i + 1, cur, aa, cc, by go_num, by omega, zH (HI.out.congr (fun a _ => zIq l L i a)), HC⟩
                case measure => simp [intOf]; omega
          · obtain rfl : i = l.length := by omega
            clear hil
            have HB4 := zH (Chg.bt HB3.out HC.out (fun i hi h => by omega))
            go_wp2_with fail
            go_ret
            refine ⟨⟨bx, bk, bl, bc, wr.heap.size, w.heap.size, sa, sc, l, L⟩, rfl, rfl, HL.out, rfl, rfl, rfl, rfl, ⟨?_, ?_, ?_, ?_, ⟨_, _, CT.start (RC3.out.chg HC.out (by omega)) (by show bc < wr.heap.size; omega)⟩, ⟨by show bx < wr.heap.size; omega, by show bc < wr.heap.size; omega, fun e => ncx e.symm, by show w.heap.size ≤ bx; omega, by show w.heap.size ≤ bc; omega, Nat.le_refl _⟩⟩, HB4.out⟩
            · rw [zJZ]; exact RX3.out.chg HC.out (by omega)
            · exact HS3.out.go HC.out (fun b hb h => ⟨by omega, by show b < wr.heap.size; omega, by show b ≠ bx; omega, by show b ≠ bc; omega⟩) (by decide)
            · exact HKG.out.go HC.out (fun b hb h => ⟨by omega, by show b < wr.heap.size; omega, h.2.1, h.2.2.1⟩)
            · refine (HI.out.congr (K' := fun i => LVs l L i L.length) (fun a ha => by unfold zBz; rw [if_pos ha])).done ⟨by show bl < wr.heap.size; omega, nlx, nlc⟩ (fun b h1 h2 => ⟨h2, by show b ≠ bx; omega, by show b ≠ bc; omega⟩)
end Go.Proofs.Ytjbkjfefjhbolaa
