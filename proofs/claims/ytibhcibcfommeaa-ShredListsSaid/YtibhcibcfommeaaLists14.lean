/-
  The walk of ShredLists.
-/
import Derived.Test.YtibhcibcfommeaaListP14
import Derived.Test.YtibhcibcfommeaaWith14
import Derived.Test.YtibhcibcfommeaaManyW14
import Derived.Test.YtibhcibcfommeaaCols14
import Derived.Test.YtibhcibcfommeaaLCols14
set_option linter.unusedSimpArgs false
namespace Go.Proofs.Ytibhcibcfommeaa
open Go.RowKit Go.Shr
/-- The columns of records, or none. -/
def colsL (l : List Fl) (sh : Sh) (rows : List Tr) : List Cl := if colsE l sh rows = 0 then clsC (leafs l l.length).length (fun k => rowsC ((leafs l l.length).getD k 0) sh rows) else []
def CQ (l : List Fl) (sh : Sh) (rows : List Tr) (w : World) (e : Ending) (w' : World) : Prop :=
  ∃ (a : Option Addr) (n cap : Nat) (xs : List Value), e = .returned (.tuple #[.slice a n cap, .int .i64 (colsE l sh rows)]) ∧ ColsR w' a n cap (colsL l sh rows) xs ∧ Below w.heap.size w w'
theorem leafs_max {l : List Fl} {sh : Sh} (hS : Sch l sh) : (leafs l l.length).length ≤ 1000 := by
  have h1 := leafs_le (l := l) (m := l.length); have h2 := hS.len; have h3 := hS.size; omega
theorem CQ.of {l : List Fl} {sh : Sh} (hS : Sch l sh) {rows : List Tr} {w w' : World} {e : Ending} (h : ColsQ l sh rows w e w') : CQ l sh rows w e w' := by
  obtain ⟨hb, ⟨hne, rfl⟩ | ⟨hz, B, bc, cur, aa, cc, rfl, _, hct⟩⟩ := h
  · exact ⟨none, 0, 0, [], rfl, by rw [colsL, if_neg hne]; exact ColsR.nil _ _, hb⟩
  · exact ⟨_, _, _, _, by rw [hz], by rw [colsL, if_pos hz]; exact hct.cols (by have := leafs_max hS; unfold maxLen; omega), hb⟩
def ty5 : Nat → TypeId | 3 => 29 | 4 => 29 | _ => 3
def sz5 : Nat → Nat | 3 => 3 | 4 => 3 | _ => 1
def lfs5 (I : List Tr) : List Value := I.flatMap fun t => [.int .i64 t.n, .string t.s, .slice none 0 0]
def n5 (C : List Cel) (T I : List Tr) : Nat → Nat | 0 => C.length | 1 => C.length | 2 => (celV C).length | 3 => T.length | _ => I.length
def x5 (C : List Cel) (yT : List Value) (I : List Tr) : Nat → List Value | 0 => celR C | 1 => celD C | 2 => ints ((celV C).map Vc.n) | 3 => yT | _ => lfs5 I
/-- Blocks of none of the rows. -/
def ok5 (B : Nat) (aa : Nat → Option Addr) (b : Nat) : Prop := B ≤ b ∧ ∀ q, q < 5 → ¬ blk (aa q) b
theorem five {P : Nat → Prop} (h0 : P 0) (h1 : P 1) (h2 : P 2) (h3 : P 3) (h4 : P 4) (j : Nat) (hj : j < 5) : P j := by
  have : j = 0 ∨ j = 1 ∨ j = 2 ∨ j = 3 ∨ j = 4 := by omega
  rcases this with rfl | rfl | rfl | rfl | rfl <;> assumption
theorem ok5_push {B : Nat} {aa : Nat → Option Addr} {j : Nat} {a' : Option Addr} {c : Nat} {w : World} (hj : j < 5) (hn : ∀ g, blk a' g → blk (aa j) g ∨ w.heap.size ≤ g) : ∀ b, b < w.heap.size → ok5 B aa b → ¬ (blk (aa j) b ∧ B ≤ b ∧ 0 < c) ∧ ok5 B (upd aa j a') b := fun b hb h =>
  ⟨fun h2 => h.2 j hj h2.1, h.1, fun q hq hg => by
    by_cases hqj : q = j
    · subst hqj
      rw [upd_self] at hg
      rcases hn b hg with h1 | h1
      · exact h.2 _ hq h1
      · omega
    · rw [upd_ne _ _ hqj] at hg
      exact h.2 q hq hg⟩
theorem OW.drop {B : Nat} {w : World} {N : Nat} {ty : Nat → TypeId} {sz : Nat → Nat} {aa : Nat → Option Addr} {n cc : Nat → Nat} {X : Nat → List Value} (h : OW B w N ty sz aa n cc X) (j : Nat) : OW B w N ty sz (upd aa j none) (upd n j 0) (upd cc j 0) (upd X j []) := by
  refine ⟨fun i hi => ?_, fun i g hi hg => ?_, fun i k g hi hk hik hg hg' => ?_⟩
  · by_cases hij : i = j
    · subst hij; simp only [upd_self]; exact Own.nil _ _ _ _
    · rw [upd_ne _ _ hij, upd_ne _ _ hij, upd_ne _ _ hij, upd_ne _ _ hij]; exact h.own i hi
  · by_cases hij : i = j
    · subst hij; rw [upd_self] at hg; obtain ⟨_, _, hg⟩ := hg; cases hg
    · rw [upd_ne _ _ hij] at hg; exact h.lt i g hi hg
  · by_cases hij : i = j
    · subst hij; rw [upd_self] at hg; obtain ⟨_, _, hg⟩ := hg; cases hg
    · rw [upd_ne _ _ hij] at hg
      by_cases hkj : k = j
      · subst hkj; rw [upd_self] at hg'; obtain ⟨_, _, hg'⟩ := hg'; cases hg'
      · rw [upd_ne _ _ hkj] at hg'; exact h.dis i k g hi hk hik hg hg'
/-- The rows on their way. -/
structure R5 (B : Nat) (w : World) (aa : Nat → Option Addr) (n cc : Nat → Nat) (X : Nat → List Value) (T : List Tr) (yT : List Value) : Prop where
  ow : OW B w 5 ty5 sz5 aa n cc X
  row : RowG (ok5 B aa) w T yT
theorem R5.alloc {B : Nat} {w : World} {aa : Nat → Option Addr} {n cc : Nat → Nat} {X : Nat → List Value} {T : List Tr} {yT : List Value} (h : R5 B w aa n cc X T yT) (o : Obj) : R5 B (w.alloc o) aa n cc X T yT :=
  ⟨h.ow.below (ba (b0 w) o), h.row.go (S := fun _ => False) ((Chg.refl _ w).alloc o) (fun b _ hb => ⟨fun h => h, hb⟩)⟩
theorem R5.push {B : Nat} {w w' : World} {aa : Nat → Option Addr} {n cc : Nat → Nat} {X : Nat → List Value} {T : List Tr} {yT : List Value} (h : R5 B w aa n cc X T yT) {j : Nat} (hj : j < 5) {a' : Option Addr} {c' n' : Nat} {X' : List Value} (hn0 : 0 < n')
    (ho : Own B w' (ty5 j) (sz5 j) a' n' c' X') (hc : Chg (fun g => blk (aa j) g ∧ B ≤ g ∧ 0 < cc j) w w') (hn : ∀ g, blk a' g → blk (aa j) g ∨ w.heap.size ≤ g) : R5 B w' (upd aa j a') (upd n j n') (upd cc j c') (upd X j X') T yT :=
  ⟨h.ow.push hj hn0 ho hc hn, h.row.go hc (ok5_push hj hn)⟩
theorem R5.congr {B : Nat} {w : World} {aa : Nat → Option Addr} {n n' cc : Nat → Nat} {X X' : Nat → List Value} {T : List Tr} {yT : List Value} (h : R5 B w aa n cc X T yT) (h1 : ∀ j, j < 5 → n j = n' j) (h2 : ∀ j, j < 5 → X j = X' j) : R5 B w aa n' cc X' T yT :=
  ⟨h.ow.congr (fun _ _ => rfl) h1 (fun _ _ => rfl) h2, h.row⟩
/-- The inner row goes into a tree, the tree into the outer row. -/
theorem R5.close {B : Nat} {w wA w' : World} {aa : Nat → Option Addr} {n cc : Nat → Nat} {X : Nat → List Value} {T I : List Tr} {yT : List Value} (h : R5 B w aa n cc X T yT) (hX : X 4 = lfs5 I) (hn4 : n 4 = I.length) (hrow : ∀ ok w, RowG ok w I (lfs5 I)) (hB : B ≤ w.heap.size)
    {c2 : Array Value} (hwA : wA = (w.alloc (.cells #[.slice (aa 4) (n 4) (cc 4)] 24)).alloc (.cells c2 29)) {a' : Option Addr} {cap' n' : Nat} {yT' : List Value} (hyT : yT' = yT ++ [.int .i64 0, .string ByteArray.empty, .slice (some ⟨w.heap.size, 0, none⟩) 1 1]) (hn0 : 0 < n')
    (ho : Own B w' 29 3 a' n' cap' yT') (hc : Chg (fun k => blk (aa 3) k ∧ B ≤ k ∧ 0 < cc 3) wA w') (hn : ∀ k, blk a' k → blk (aa 3) k ∨ wA.heap.size ≤ k) :
    R5 B w' (upd (upd aa 3 a') 4 none) (upd (upd n 3 n') 4 0) (upd (upd cc 3 cap') 4 0) (upd (upd X 3 yT') 4 []) (T ++ [.mk 0 ByteArray.empty [I]]) yT' := by
  have hsz : wA.heap.size = w.heap.size + 1 + 1 := by rw [hwA]; simp
  have hbA : Below w.heap.size w wA := by rw [hwA]; exact ba (ba (b0 w) _) _
  have howA := h.ow.below hbA
  refine ⟨OW.drop (howA.push (j := 3) (by decide) hn0 ho hc hn) 4, ?_⟩
  have hlt := h.ow.lt
  have rK : Rw wA w.heap.size #[.slice (aa 4) (n 4) (cc 4)] 24 := by rw [hwA]; exact (Rw.new w _ _).alloc _
  have hT : TrG (fun b => B ≤ b ∧ b < wA.heap.size ∧ ∀ q, q < 4 → ¬ blk (aa q) b) wA (.mk 0 ByteArray.empty [I]) [.int .i64 0, .string ByteArray.empty, .slice (some ⟨w.heap.size, 0, none⟩) 1 1] := by
    simp only [TrG]
    refine ⟨_, 1, 1, [.slice (aa 4) (n 4) (cc 4)], rfl, by decide, Rw.slOk rK ⟨hB, by omega, fun q hq hg => by have := (hlt q _ (by omega) hg).1; omega⟩ 1 1 rfl (by decide), ?_⟩
    simp only [KidG]
    refine ⟨_, _, _, lfs5 I, [], rfl, hn4, ?_, hrow _ _, rfl⟩
    have h4 := (howA.own 4 (by decide)).sl
    rw [hX] at h4
    exact h4.mono (fun b _ hb => ⟨hb.1, hb.2.2, fun q hq hg => howA.dis q 4 b (by omega) (by decide) (by omega) hg hb.2.1⟩) (by decide)
  have hR : RowG (fun b => B ≤ b ∧ b < wA.heap.size ∧ ∀ q, q < 4 → ¬ blk (aa q) b) wA T yT := h.row.go (Chg.ofBelow hbA) (fun b hb h => ⟨by omega, h.1, by have := hbA.size; omega, fun q hq hg => h.2 q (by omega) hg⟩)
  have hS := RowG.snoc hT hR
  rw [hyT]
  refine hS.go hc (fun b hb h => ⟨fun h2 => h.2.2 3 (by decide) h2.1, h.1, fun q hq hg => ?_⟩)
  by_cases h4 : q = 4
  · subst h4; rw [upd_self] at hg; obtain ⟨_, _, hg⟩ := hg; cases hg
  · rw [upd_ne _ _ h4] at hg
    by_cases h3 : q = 3
    · subst h3
      rw [upd_self] at hg
      rcases hn b hg with h1 | h1
      · exact h.2.2 3 (by decide) h1
      · omega
    · rw [upd_ne _ _ h3] at hg
      exact h.2.2 q (by omega) hg
def nn (M V i k : Nat) : Nat → Nat | 0 => M | 1 => M | 2 => V | 3 => i | _ => k
theorem kC14_celV {i n : Nat} : ∀ k, k ≤ n → (celV (kC14 i n k)).length = k
  | 0, _ => by simp [kC14, fldN, celV]
  | k + 1, h => by rw [kC14_succ (by omega)]; have := kC14_celV (i := i) k (by omega : k ≤ n); simp [celV] at this ⊢; omega
theorem lfs5_snoc (I : List Tr) (t : Tr) : lfs5 (I ++ [t]) = lfs5 I ++ [.int .i64 t.n, .string t.s, .slice none 0 0] := by simp [lfs5]
theorem row_lfs {ok : Nat → Prop} {w : World} : ∀ (I : List Tr), (∀ t ∈ I, t.kids = [] ∧ t.s.size ≤ maxLen) → RowG ok w I (lfs5 I)
  | [], _ => by simp only [lfs5, List.flatMap_nil, RowG]
  | .mk n s ks :: r, h => by
    obtain ⟨h1, h2⟩ := h _ List.mem_cons_self
    have hk : ks = [] := h1
    subst hk
    have ih := row_lfs (ok := ok) (w := w) r (fun t ht => h t (List.mem_cons_of_mem _ ht))
    show RowG ok w _ (.int .i64 n :: .string s :: .slice none 0 0 :: lfs5 r)
    simp only [RowG]
    exact ⟨_, _, _, _, rfl, TrG.leaf h2, ih⟩
theorem celR_get (C : List Cel) (k : Nat) (h : k < C.length) : (celR C)[k]? = some (.int .i64 (C[k].r : Int)) := by simp [celR, h]
theorem celD_get (C : List Cel) (k : Nat) (h : k < C.length) : (celD C)[k]? = some (.int .i64 (C[k].d : Int)) := by simp [celD, h]
theorem ns_get (L : List Vc) (k : Nat) (h : k < L.length) : (ints (L.map Vc.n))[k]? = some (.int .i64 L[k].n) := by simp [ints, h]
set_option maxHeartbeats 1000000 in
set_option maxRecDepth 100000 in
theorem law_lists (a0 : Option Addr) (n0 c0 : Nat) (z0 : List Int) (w : World) (h0 : Sl (fun b => b < w.heap.size) w 1 a0 n0 c0 (ints z0)) (w0 : ∀ z ∈ z0, (Lit.int .i64 z).wf = true) :
    Calls Try.prog 6 #[.slice a0 n0 c0] w fun e w' => e = .returned (.bool true) ∧ Below w.heap.size w w' := by
  obtain ⟨ii, hii, hz0i, hz1i, hz2i⟩ := info_parts info_i
  obtain ⟨it, hit, hz0t, hz1t, hz2t⟩ := info_parts info_tr
  have hnl : n0 = z0.length := by have := h0.len; rw [ints_length] at this; omega
  subst hnl
  have hmx := Nat.le_trans h0.le h0.max
  unfold maxLen at hmx
  have H0 := Lib.hid h0
  clear h0 w0
  obtain ⟨ns, hns⟩ : ∃ ns : List Nat, ns = (z0.take 12).map fun u => (u % 4).toNat := ⟨_, rfl⟩
  have hn12 : ns.length ≤ 12 := by rw [hns, List.length_map, List.length_take]; omega
  have HNL : Hid (ns.length = min 12 z0.length) := Lib.hid (by rw [hns]; simp)
  have H4 : Hid (∀ n ∈ ns, n ≤ 3) := Lib.hid (fun n hn => by
    rw [hns] at hn
    obtain ⟨u, _, rfl⟩ := List.mem_map.1 hn
    omega)
  have HNG : Hid (∀ (i : Nat) (h : i < ns.length) (h' : i < z0.length), z0[i] % 4 = (ns[i] : Int)) := Lib.hid (fun i h h' => by
    subst hns
    simp
    omega)
  clear hns
  go_enter Try.func6, Try.ntmps6
  go_wp2_with fail
  refine (known14 _).mono ?_
  rintro e w1 ⟨rfl, hb1⟩
  have HB1 := Lib.hid hb1; clear hb1
  go_upto_region 4 with fail
  refine gen_wz (fun w2 hw2 => ?_)
  have hb2 : Below w1.heap.size w1 w2 := by rw [hw2]; exact ba (b0 w1) _
  have rS : Rw w2 w1.heap.size #[.string ⟨#[109]⟩, .int .i64 0, .int .i64 0, .int .i64 1, .string ⟨#[97]⟩, .int .i64 2, .int .i64 0, .int .i64 1, .string ⟨#[98]⟩, .int .i64 2, .int .i64 3, .int .i64 0] 51 := by rw [hw2]; exact Rw.new w1 _ _
  clear hw2
  have hS := Rw.sl rS 3 4 rfl (by decide)
  have hfl : fls l314 = #[Value.string ⟨#[109]⟩, .int .i64 0, .int .i64 0, .int .i64 1, .string ⟨#[97]⟩, .int .i64 2, .int .i64 0, .int .i64 1, .string ⟨#[98]⟩, .int .i64 2, .int .i64 3, .int .i64 0].toList := rfl
  rw [← hfl] at hS
  have HS := Lib.hid hS; have HB2 := Lib.hid (bt HB1.out hb2)
  obtain ⟨bS, hbS⟩ : ∃ b, b = w1.heap.size := ⟨_, rfl⟩
  rw [← hbS] at HS ⊢
  clear hS rS hb2 hfl hbS HB1
  go_wp2_with fail
  go_loopw [4, 5, 6, 7, 8] (fun ov rv dv vv iv wr => ∃ (i : Nat) (aa : Nat → Option Addr) (cc : Nat → Nat) (yT : List Value), ov = .slice (aa 3) i (cc 3) ∧ rv = .slice (aa 0) (lC14 ns i).length (cc 0) ∧ dv = .slice (aa 1) (lC14 ns i).length (cc 1) ∧ vv = .slice (aa 2) (celV (lC14 ns i)).length (cc 2) ∧ iv = .int .i64 (i : Int) ∧ i ≤ ns.length ∧ Hid (R5 w2.heap.size wr aa (nn (lC14 ns i).length (celV (lC14 ns i)).length i 0) cc (x5 (lC14 ns i) yT []) ((out14 ns).take i) yT) ∧ Hid (Below w2.heap.size w2 wr)) (fun _ _ _ _ iv _ => 12 - (intOf iv).toNat)
  case atStart => exact ⟨0, fun _ => none, fun _ => 0, [], rfl, by simp [lC14, fldN], by simp [lC14, fldN], by simp [lC14, fldN, celV], rfl, Nat.zero_le _, Lib.hid ⟨(OW.nil _ _ _ _ _).congr (fun _ _ => rfl) (five (by simp [nn, lC14, fldN]) (by simp [nn, lC14, fldN]) (by simp [nn, lC14, fldN, celV]) rfl rfl) (fun _ _ => rfl) (five (by simp [x5, lC14, fldN, celR]) (by simp [x5, lC14, fldN, celD]) (by simp [x5, lC14, fldN, celV, ints]) rfl rfl), by simp only [List.take_zero, RowG]⟩, Lib.hid (b0 w2)⟩
  case round =>
    obtain ⟨i, aa, cc, yT, rfl, rfl, rfl, rfl, rfl, hi, HL, HB⟩ := hrel
    have hszr := HB.out.size
    have hcl := lC14_len H4.out i hi
    have hcv := celV_le (lC14 ns i)
    by_cases hin : i < ns.length
    · have hiz : i < z0.length := by have := HNL.out; omega
      have hi12 : i < 12 := by omega
      have hi12' : (i : Int) < 12 := by omega
      obtain ⟨zb, zo, rfl, _, hzc⟩ := H0.out.pos (by omega)
      have e0 := cb (bt HB2.out HB.out) (hzc i _ (ints_get z0 i hiz))
      have HNI := Lib.hid (HNG.out i hin hiz)
      have HCS := Lib.hid (lC14_succ hin)
      have hn3 := H4.out _ (List.getElem_mem hin)
      have HOI : Hid ((out14 ns).take (i + 1) = (out14 ns).take i ++ [.mk 0 ByteArray.empty [inn14 i ns[i]]]) := Lib.hid (by
        rw [List.take_succ_eq_append_getElem (by rw [out14_len]; exact hin), out14_get ns i _ hin])
      generalize z0[i] = zi at *
      generalize ns[i] = n at *
      clear hzc
      go_wp2_with fail
      refine (within_14 zi 4 wr (by decide) (by decide)).mono ?_
      rintro e w3 ⟨rfl, rfl⟩
      rw [HNI.out]
      clear e0
      obtain ⟨F, hF⟩ : ∃ F : Nat, F = if i = 0 then 0 else 1 := ⟨_, rfl⟩
      have HF := Lib.hid hF
      obtain ⟨wo, hwo⟩ : ∃ wo : World, wo = wr := ⟨_, rfl⟩
      subst hwo
      go_upto_if 39 with fail
      go_cut [11] from 38 to 39 (fun v wd => v = .int .i64 (F : Int) ∧ wo = wd)
      case first =>
        by_cases h00 : i = 0
        · have hF' : F = 0 := by rw [hF, if_pos h00]
          have hb : ((i : Int) == 0) = true := beq_iff_eq.2 (by omega)
          clear hF h00
          subst hF'
          go_wp2_with fail
          go_meet
          case rel => exact ⟨rfl, rfl⟩
        · have hF' : F = 1 := by rw [hF, if_neg h00]
          have hb : ((i : Int) == 0) = false := beq_eq_false_iff_ne.2 (by omega)
          clear hF h00
          subst hF'
          go_wp2_with fail
          go_meet
          case rel => exact ⟨rfl, rfl⟩
      case rest =>
        obtain ⟨rfl, hwc⟩ := hcut
        subst hwc
        clear hF
        have HIV : Hid (∀ k, k < n → kC14 i n (k + 1) = kC14 i n k ++ [⟨if k = 0 then F else 2, 2, some ⟨((10 * i + k : Nat) : Int), ByteArray.empty⟩⟩]) := Lib.hid (fun k hk => by rw [kC14_succ hk, HF.out])
        have HIT : Hid (∀ k, k < n → (inn14 i n).take (k + 1) = (inn14 i n).take k ++ [.mk ((10 * i + k : Nat) : Int) ByteArray.empty []]) := Lib.hid (fun k hk => by
          have hl : k < (inn14 i n).length := by rw [inn14_len]; exact hk
          rw [List.take_succ_eq_append_getElem hl, inn14_get])
        have HCS2 : Hid (lC14 ns (i + 1) = lC14 ns i ++ if n = 0 then [⟨F, 1, none⟩] else kC14 i n n) := Lib.hid (by rw [HCS.out, HF.out])
        have HMM : Hid ((lC14 ns (i + 1)).length = (lC14 ns i).length + if n = 0 then 1 else n) := Lib.hid (by
          rw [HCS2.out, List.length_append]; split
          · rfl
          · rw [kC14_len n (Nat.le_refl _)])
        have HVV : Hid ((celV (lC14 ns (i + 1))).length = (celV (lC14 ns i)).length + n) := Lib.hid (by
          rw [HCS2.out, celV, List.filterMap_append, List.length_append]; split
          · next h => subst h; simp [celV]
          · have := kC14_celV (i := i) n (Nat.le_refl _); simp only [celV] at this ⊢; omega)
        have HKL : Hid (kC14 i n 0 = []) := Lib.hid (by simp [kC14, fldN])
        have HOL : Hid (((out14 ns).take i).length = i) := Lib.hid (by rw [List.length_take, out14_len]; omega)
        have HIL : Hid (∀ k, k ≤ n → ((inn14 i n).take k).length = k) := Lib.hid (fun k hk => by rw [List.length_take, inn14_len]; omega)
        have HIA : Hid ((inn14 i n).take n = inn14 i n) := Lib.hid (by rw [List.take_of_length_le (by rw [inn14_len]; omega)])
        generalize hC' : lC14 ns (i + 1) = C' at *
        generalize hT' : (out14 ns).take (i + 1) = T' at *
        have HC' := Lib.hid hC'; have HT' := Lib.hid hT'
        clear hC' hT'
        generalize lC14 ns i = C at *
        generalize (out14 ns).take i = T at *
        generalize hM : C.length = M at *
        generalize hV : (celV C).length = V at *
        clear hM hV HF HCS
        have hw10 : IntKind.i64.wrap (10 * (i : Int)) = 10 * (i : Int) := IntWalk.i64_in _ ⟨by omega, by omega⟩
        have hsz0 : (⟨#[]⟩ : ByteArray) = ByteArray.empty := rfl
        go_wp2_with fail
        go_loopw [5, 6, 7, 10, 11, 12] (fun rv dv vv nv fv kv wq => ∃ (k F' : Nat) (ab : Nat → Option Addr) (cb : Nat → Nat), rv = .slice (ab 0) (M + k) (cb 0) ∧ dv = .slice (ab 1) (M + k) (cb 1) ∧ vv = .slice (ab 2) (V + k) (cb 2) ∧ nv = .slice (ab 4) k (cb 4) ∧ fv = .int .i64 (F' : Int) ∧ kv = .int .i64 (k : Int) ∧ k ≤ n ∧ Hid (k = 0 → F' = F) ∧ Hid (ab 3 = aa 3 ∧ cb 3 = cc 3) ∧ Hid (R5 w2.heap.size wq ab (nn (M + k) (V + k) i k) cb (x5 (C ++ kC14 i n k) yT ((inn14 i n).take k)) T yT) ∧ Hid (Below w2.heap.size w2 wq)) (fun _ _ _ _ _ kv _ => n - (intOf kv).toNat)
        case atStart => exact ⟨0, F, upd aa 4 none, upd cc 4 0, rfl, rfl, rfl, rfl, rfl, rfl, Nat.zero_le _, Lib.hid (fun _ => rfl), Lib.hid ⟨rfl, rfl⟩, Lib.hid ⟨((OW.drop HL.out.ow 4).congr (fun _ _ => rfl) (five rfl rfl rfl rfl rfl) (fun _ _ => rfl) (five (by rw [HKL.out, List.append_nil]; rfl) (by rw [HKL.out, List.append_nil]; rfl) (by rw [HKL.out, List.append_nil]; rfl) rfl rfl)), HL.out.row.go (S := fun _ => False) (Chg.refl _ _) (fun b _ h => ⟨fun h => h, h.1, fun q hq hg => by
          by_cases h4 : q = 4
          · subst h4; rw [upd_self] at hg; obtain ⟨_, _, hg⟩ := hg; cases hg
          · rw [upd_ne _ _ h4] at hg; exact h.2 q hq hg⟩)⟩, HB⟩
        case round =>
          obtain ⟨k, F', ab, cb, rfl, rfl, rfl, rfl, rfl, rfl, hk, HF0, HA3, HR, HB⟩ := hrel
          have hszq := HB.out.size
          by_cases hkn : k < n
          · have hw10k : IntKind.i64.wrap (10 * (i : Int) + (k : Int)) = 10 * (i : Int) + (k : Int) := IntWalk.i64_in _ ⟨by omega, by omega⟩
            have HO4 : Hid (Own w2.heap.size (wr.alloc (.cells #[.int .i64 (10 * (i : Int) + (k : Int)), .string ByteArray.empty, .slice none 0 0] 29)) 29 3 (ab 4) k (cb 4) (lfs5 ((inn14 i n).take k))) := Lib.hid ((HR.out.alloc _).ow.own 4 (by decide))
            have HSR := Lib.hid (src_built (P := Try.prog) (tx := 24) (e' := 29) Try.underlying24 wr #[.int .i64 (10 * (i : Int) + (k : Int)), .string ByteArray.empty, .slice none 0 0] 29 1 3 rfl (by simp [Value.oneCell']))
            have tok1 : True := trivial
            go_upto_if 54 with (first
              | (at_builtin; have _t := tok1; clear tok1; clear _t; refine wpList_append (B := w2.heap.size) rfl _ _ _ _ rfl it (.agg #[.int .i64 0, .string ByteArray.empty, .slice none 0 0]) 48 Try.underlying24 hit hz0t hz1t hz2t rfl rfl (HO4.out) _ rfl _ _ (HSR.out) (by simp only [maxLen]; omega) (by omega) (by first | omega | (simp; omega) | simp) ?_; intro a5 cap5 w5 ho5 hc5 hn5); (have HR5 := Lib.hid ((HR.out.alloc _).push (j := 4) (by decide) (Nat.succ_pos _) ho5 hc5 hn5)); (have HB5 := Lib.hid (Chg.bt (ba HB.out (.cells #[.int .i64 (10 * (i : Int) + (k : Int)), .string ByteArray.empty, .slice none 0 0] 29)) hc5 (fun b hb h => by omega))); clear ho5 hc5 hn5
              | fail)
            obtain ⟨F2, hF2⟩ : ∃ F2 : Nat, F2 = if k = 0 then F else 2 := ⟨_, rfl⟩
            have HF2 := Lib.hid hF2
            have hs5 := HB5.out.size
            go_cut [11] from 53 to 54 (fun v wd => v = .int .i64 (F2 : Int) ∧ w5 = wd)
            case first =>
              by_cases h00 : k = 0
              · have hF' : F2 = F' := by rw [hF2, if_pos h00, HF0.out h00]
                have hb : ¬ ((0 : Int) < (k : Int)) := by omega
                clear hF2 h00
                subst hF'
                go_wp2_with fail
                go_meet
                case rel => exact ⟨rfl, rfl⟩
              · have hF' : F2 = 2 := by rw [hF2, if_neg h00]
                have hb : ((0 : Int) < (k : Int)) := by omega
                clear hF2 h00
                subst hF'
                go_wp2_with fail
                go_meet
                case rel => exact ⟨rfl, rfl⟩
            case rest =>
              obtain ⟨rfl, hwc⟩ := hcut
              subst hwc
              clear hF2
              have HO0 : Hid (Own w2.heap.size (w5.alloc (.cells #[.int .i64 (F2 : Int)] 3)) 3 1 (ab 0) (M + k) (cb 0) (celR (C ++ kC14 i n k))) := Lib.hid ((HR5.out.alloc _).ow.own 0 (by decide))
              have HS0 := Lib.hid (src_built (P := Try.prog) (tx := 22) (e' := 3) Try.underlying22 w5 #[.int .i64 (F2 : Int)] 3 1 1 rfl (by simp [Value.oneCell']))
              have tok1 : True := trivial
              have tok2 : True := trivial
              have tok3 : True := trivial
              go_wp2_with (first
                | (at_builtin; have _t := tok1; clear tok1; clear _t; refine wpList_append (B := w2.heap.size) rfl _ _ _ _ rfl ii (.int .i64 0) 8 Try.underlying22 hii hz0i hz1i hz2i rfl rfl (HO0.out) _ rfl _ _ (HS0.out) (by simp only [maxLen]; omega) (by omega) (by first | omega | (simp; omega) | simp) ?_; intro a6 cap6 w6 ho6 hc6 hn6); (have HR6 := Lib.hid ((HR5.out.alloc _).push (j := 0) (by decide) (Nat.succ_pos _) ho6 hc6 hn6)); (have HB6 := Lib.hid (Chg.bt (ba HB5.out (.cells #[.int .i64 (F2 : Int)] 3)) hc6 (fun b hb h => by omega))); clear ho6 hc6 hn6; (have hs6 := HB6.out.size); (have HO1 : Hid (Own w2.heap.size (w6.alloc (.cells #[.int .i64 2] 3)) 3 1 (ab 1) (M + k) (cb 1) (celD (C ++ kC14 i n k))) := Lib.hid ((HR6.out.alloc _).ow.own 1 (by decide))); (have HS1 := Lib.hid (src_built (P := Try.prog) (tx := 22) (e' := 3) Try.underlying22 w6 #[.int .i64 2] 3 1 1 rfl (by simp [Value.oneCell'])))
                | (at_builtin; have _t := tok2; clear tok2; clear _t; refine wpList_append (B := w2.heap.size) rfl _ _ _ _ rfl ii (.int .i64 0) 8 Try.underlying22 hii hz0i hz1i hz2i rfl rfl (HO1.out) _ rfl _ _ (HS1.out) (by simp only [maxLen]; omega) (by omega) (by first | omega | (simp; omega) | simp) ?_; intro a7 cap7 w7 ho7 hc7 hn7); (have HR7 := Lib.hid ((HR6.out.alloc _).push (j := 1) (by decide) (Nat.succ_pos _) ho7 hc7 hn7)); (have HB7 := Lib.hid (Chg.bt (ba HB6.out (.cells #[.int .i64 2] 3)) hc7 (fun b hb h => by omega))); clear ho7 hc7 hn7; (have hs7 := HB7.out.size); (have HO2 : Hid (Own w2.heap.size (w7.alloc (.cells #[.int .i64 (10 * (i : Int) + (k : Int))] 3)) 3 1 (ab 2) (V + k) (cb 2) (ints ((celV (C ++ kC14 i n k)).map Vc.n))) := Lib.hid ((HR7.out.alloc _).ow.own 2 (by decide))); (have HS2 := Lib.hid (src_built (P := Try.prog) (tx := 22) (e' := 3) Try.underlying22 w7 #[.int .i64 (10 * (i : Int) + (k : Int))] 3 1 1 rfl (by simp [Value.oneCell'])))
                | (at_builtin; have _t := tok3; clear tok3; clear _t; refine wpList_append (B := w2.heap.size) rfl _ _ _ _ rfl ii (.int .i64 0) 8 Try.underlying22 hii hz0i hz1i hz2i rfl rfl (HO2.out) _ rfl _ _ (HS2.out) (by simp only [maxLen]; omega) (by omega) (by first | omega | (simp; omega) | simp) ?_; intro a8 cap8 w8 ho8 hc8 hn8); (have HR8 := Lib.hid ((HR7.out.alloc _).push (j := 2) (by decide) (Nat.succ_pos _) ho8 hc8 hn8)); (have HB8 := Lib.hid (Chg.bt (ba HB7.out (.cells #[.int .i64 (10 * (i : Int) + (k : Int))] 3)) hc8 (fun b hb h => by omega))); clear ho8 hc8 hn8
                | fail)
              go_roundw
              case rel =>
                have hz : (10 * (i : Int) + (k : Int)) = ((10 * i + k : Nat) : Int) := by omega
                refine ⟨k + 1, F2, upd (upd (upd (upd ab 4 a5) 0 a6) 1 a7) 2 a8, upd (upd (upd (upd cb 4 cap5) 0 cap6) 1 cap7) 2 cap8, rfl, rfl, rfl, rfl, rfl, by go_num, by omega, Lib.hid (fun h => by omega), Lib.hid ⟨HA3.out.1, HA3.out.2⟩, Lib.hid (HR8.out.congr (five rfl rfl rfl rfl rfl) (five ?_ ?_ ?_ rfl ?_)), HB8⟩
                · show celR _ ++ _ = celR _
                  rw [HIV.out k hkn, ← HF2.out]; simp [celR]
                · show celD _ ++ _ = celD _
                  rw [HIV.out k hkn]; simp [celD]
                · show ints _ ++ _ = ints _
                  rw [HIV.out k hkn, hz]; simp [celV, ints]
                · show lfs5 _ ++ _ = lfs5 _
                  rw [HIT.out k hkn, lfs5_snoc, hz]; rfl
              case measure => simp [intOf]; omega
          · obtain rfl : k = n := by omega
            clear hkn hw10
            have hk0 := hi12
            go_upto_if 70 with fail
            go_cut [5, 6] from 69 to 77 (fun v5 v6 wd => ∃ (ac : Nat → Option Addr) (cd : Nat → Nat), v5 = .slice (ac 0) C'.length (cd 0) ∧ v6 = .slice (ac 1) C'.length (cd 1) ∧ Hid (ac 2 = ab 2 ∧ cd 2 = cb 2 ∧ ac 3 = ab 3 ∧ cd 3 = cb 3 ∧ ac 4 = ab 4 ∧ cd 4 = cb 4) ∧ Hid (R5 w2.heap.size wd ac (nn C'.length (V + k) i k) cd (x5 C' yT (inn14 i k)) T yT) ∧ Hid (Below w2.heap.size w2 wd))
            case first =>
              by_cases h00 : k = 0
              · have hb : ((k : Int) == 0) = true := beq_iff_eq.2 (by omega)
                obtain rfl := HF0.out h00
                have HMM2 : Hid (C'.length = M + k + 1) := Lib.hid (by rw [HMM.out, if_pos h00]; omega)
                have HCC : Hid (C' = (C ++ kC14 i k k) ++ [⟨F', 1, none⟩]) := Lib.hid (by
                  have h1 := HCS2.out
                  rw [if_pos h00] at h1
                  rw [h1]; subst h00; rw [HKL.out, List.append_nil])
                clear h00
                have HO0 : Hid (Own w2.heap.size (wr.alloc (.cells #[.int .i64 (F' : Int)] 3)) 3 1 (ab 0) (M + k) (cb 0) (celR (C ++ kC14 i k k))) := Lib.hid ((HR.out.alloc _).ow.own 0 (by decide))
                have HS0 := Lib.hid (src_built (P := Try.prog) (tx := 22) (e' := 3) Try.underlying22 wr #[.int .i64 (F' : Int)] 3 1 1 rfl (by simp [Value.oneCell']))
                have tok1 : True := trivial
                have tok2 : True := trivial
                go_wp2_with (first
                  | (at_builtin; have _t := tok1; clear tok1; clear _t; refine wpList_append (B := w2.heap.size) rfl _ _ _ _ rfl ii (.int .i64 0) 8 Try.underlying22 hii hz0i hz1i hz2i rfl rfl (HO0.out) _ rfl _ _ (HS0.out) (by simp only [maxLen]; omega) (by omega) (by first | omega | (simp; omega) | simp) ?_; intro a6 cap6 w6 ho6 hc6 hn6); (have HR6 := Lib.hid ((HR.out.alloc _).push (j := 0) (by decide) (Nat.succ_pos _) ho6 hc6 hn6)); (have HB6 := Lib.hid (Chg.bt (ba HB.out (.cells #[.int .i64 (F' : Int)] 3)) hc6 (fun b hb h => by omega))); clear ho6 hc6 hn6; (have hs6 := HB6.out.size); (have HO1 : Hid (Own w2.heap.size (w6.alloc (.cells #[.int .i64 1] 3)) 3 1 (ab 1) (M + k) (cb 1) (celD (C ++ kC14 i k k))) := Lib.hid ((HR6.out.alloc _).ow.own 1 (by decide))); (have HS1 := Lib.hid (src_built (P := Try.prog) (tx := 22) (e' := 3) Try.underlying22 w6 #[.int .i64 1] 3 1 1 rfl (by simp [Value.oneCell'])))
                  | (at_builtin; have _t := tok2; clear tok2; clear _t; refine wpList_append (B := w2.heap.size) rfl _ _ _ _ rfl ii (.int .i64 0) 8 Try.underlying22 hii hz0i hz1i hz2i rfl rfl (HO1.out) _ rfl _ _ (HS1.out) (by simp only [maxLen]; omega) (by omega) (by first | omega | (simp; omega) | simp) ?_; intro a7 cap7 w7 ho7 hc7 hn7); (have HR7 := Lib.hid ((HR6.out.alloc _).push (j := 1) (by decide) (Nat.succ_pos _) ho7 hc7 hn7)); (have HB7 := Lib.hid (Chg.bt (ba HB6.out (.cells #[.int .i64 1] 3)) hc7 (fun b hb h => by omega))); clear ho7 hc7 hn7
                  | fail)
                go_meet
                case rel =>
                  refine ⟨upd (upd ab 0 a6) 1 a7, upd (upd cb 0 cap6) 1 cap7, by rw [HMM2.out]; rfl, by rw [HMM2.out]; rfl, Lib.hid ⟨rfl, rfl, rfl, rfl, rfl, rfl⟩, Lib.hid (HR7.out.congr (five ?_ ?_ rfl rfl rfl) (five ?_ ?_ ?_ rfl ?_)), HB7⟩
                  · show M + k + 1 = C'.length
                    rw [HMM2.out]
                  · show M + k + 1 = C'.length
                    rw [HMM2.out]
                  · show celR _ ++ _ = celR _
                    rw [HCC.out]; simp [celR]
                  · show celD _ ++ _ = celD _
                    rw [HCC.out]; simp [celD]
                  · show ints _ = ints _
                    rw [HCC.out]; simp [celV, ints]
                  · show lfs5 _ = lfs5 _
                    rw [HIA.out]
              · have hb : ((k : Int) == 0) = false := beq_eq_false_iff_ne.2 (by omega)
                have HMM2 : Hid (C'.length = M + k) := Lib.hid (by rw [HMM.out, if_neg h00])
                have HCC : Hid (C' = C ++ kC14 i k k) := Lib.hid (by rw [HCS2.out, if_neg h00])
                clear h00
                go_wp2_with fail
                go_meet
                case rel =>
                  refine ⟨ab, cb, by rw [HMM2.out], by rw [HMM2.out], Lib.hid ⟨rfl, rfl, rfl, rfl, rfl, rfl⟩, Lib.hid (HR.out.congr (five ?_ ?_ rfl rfl rfl) (five ?_ ?_ ?_ rfl ?_)), HB⟩
                  · show M + k = C'.length
                    rw [HMM2.out]
                  · show M + k = C'.length
                    rw [HMM2.out]
                  · show celR _ = celR _
                    rw [HCC.out]
                  · show celD _ = celD _
                    rw [HCC.out]
                  · show ints _ = ints _
                    rw [HCC.out]
                  · show lfs5 _ = lfs5 _
                    rw [HIA.out]
            case rest =>
              obtain ⟨ac, cd, rfl, rfl, HE, HR2, HB3⟩ := hcut
              have hA3 : aa 3 = ac 3 := by rw [HE.out.2.2.1, HA3.out.1]
              have hC3 : cc 3 = cd 3 := by rw [HE.out.2.2.2.1, HA3.out.2]
              have hA4 : ab 4 = ac 4 := HE.out.2.2.2.2.1.symm
              have hC4 : cb 4 = cd 4 := HE.out.2.2.2.2.2.symm
              have hA2 : ab 2 = ac 2 := HE.out.1.symm
              have hC2 : cb 2 = cd 2 := HE.out.2.1.symm
              rw [hA3, hC3, hA4, hC4, hA2, hC2]
              clear hA3 hC3 hA4 hC4 hA2 hC2
              have hszc := HB3.out.size
              have hsr := src_built (P := Try.prog) (tx := 24) (e' := 29) Try.underlying24 (wc.alloc (.cells #[.slice (ac 4) k (cd 4)] 24)) #[.int .i64 0, .string ByteArray.empty, .slice (some ⟨wc.heap.size, 0, none⟩) 1 1] 29 1 3 rfl (by simp [Value.oneCell'])
              rw [show (wc.alloc (.cells #[.slice (ac 4) k (cd 4)] 24)).heap.size = wc.heap.size + 1 by simp] at hsr
              have HSR := Lib.hid hsr
              clear hsr
              have HO3 : Hid (Own w2.heap.size ((wc.alloc (.cells #[.slice (ac 4) k (cd 4)] 24)).alloc (.cells #[.int .i64 0, .string ByteArray.empty, .slice (some ⟨wc.heap.size, 0, none⟩) 1 1] 29)) 29 3 (ac 3) i (cd 3) yT) := Lib.hid (((HR2.out.alloc _).alloc _).ow.own 3 (by decide))
              have HROWS : Hid (∀ ok w, RowG ok w (inn14 i k) (lfs5 (inn14 i k))) := Lib.hid (fun ok w => row_lfs _ (fun t ht => by
                obtain ⟨q, _, rfl⟩ := List.mem_map.1 ht
                exact ⟨rfl, show ByteArray.empty.size ≤ maxLen by decide⟩))
              have tok1 : True := trivial
              go_wp2_with (first
                | (at_builtin; have _t := tok1; clear tok1; clear _t; refine wpList_append (B := w2.heap.size) rfl _ _ _ _ rfl it (.agg #[.int .i64 0, .string ByteArray.empty, .slice none 0 0]) 48 Try.underlying24 hit hz0t hz1t hz2t rfl rfl (HO3.out) _ rfl _ _ (HSR.out) (by simp only [maxLen]; omega) (by omega) (by first | omega | (simp; omega) | simp) ?_; intro a9 cap9 w9 ho9 hc9 hn9); (have HR9 := Lib.hid (HR2.out.close (I := inn14 i k) rfl (inn14_len i k).symm HROWS.out (by omega) rfl rfl (Nat.succ_pos _) ho9 hc9 hn9)); (have HB9 := Lib.hid (Chg.bt (ba (ba HB3.out (.cells #[.slice (ac 4) k (cd 4)] 24)) (.cells #[.int .i64 0, .string ByteArray.empty, .slice (some ⟨wc.heap.size, 0, none⟩) 1 1] 29)) hc9 (fun b hb h => by omega))); clear ho9 hc9 hn9
                | fail)
              go_roundw
              case rel =>
                refine ⟨i + 1, upd (upd ac 3 a9) 4 none, upd (upd cd 3 cap9) 4 0, yT ++ [.int .i64 0, .string ByteArray.empty, .slice (some ⟨wc.heap.size, 0, none⟩) 1 1], rfl, ?_, ?_, ?_, by go_num, by omega, Lib.hid ?_, HB9⟩
                · rw [HC'.out]; first | done | rfl
                · rw [HC'.out]; first | done | rfl
                · rw [HC'.out, HVV.out]; first | done | rfl
                · rw [HC'.out, HT'.out, HOI.out]
                  exact HR9.out.congr (five rfl rfl HVV.out.symm rfl rfl) (five rfl rfl rfl rfl rfl)
              case measure => simp [intOf]; omega
    · obtain rfl : i = ns.length := by omega
      have HOUT : Hid ((out14 ns).take ns.length = out14 ns) := Lib.hid (List.take_of_length_le (by rw [out14_len]; omega))
      obtain ⟨Cf, hCf⟩ : ∃ Cf, Cf = rowsC 2 sh314 [rec14 ns] := ⟨_, rfl⟩
      have HCF := Lib.hid hCf
      have HCE : Hid (Cf = if ns.length = 0 then [⟨0, 0, none⟩] else lC14 ns ns.length) := Lib.hid (by rw [hCf, rec14_cells])
      have HCZ := Lib.hid (rec14_colsE hn12 H4.out)
      have HVE : Hid (celV (lC14 ns ns.length) = celV Cf) := Lib.hid (by
        rw [HCE.out]
        split
        · next h0 => rw [h0]; simp [lC14, fldN, celV]
        · rfl)
      have HLL : Hid ((lC14 ns ns.length).length = if ns.length = 0 then 0 else Cf.length) := Lib.hid (by
        rw [HCE.out]
        split
        · next h0 => rw [h0]; simp [lC14, fldN]
        · rfl)
      have HRL := Lib.hid HL.out.row
      have HRW := HRL.out
      rw [HOUT.out] at HRW
      have HRO := Lib.hid (HRW.go (ok' := fun b => b < wr.heap.size) (S := fun _ => False) (Chg.refl _ wr) (fun b hb _ => ⟨fun h => h, hb⟩))
      have HO0 := Lib.hid ((HL.out.ow.own 0 (by decide)).sl.mono (ok' := fun b => b < wr.heap.size) (fun b hb _ => hb) (by decide))
      have HO1 := Lib.hid ((HL.out.ow.own 1 (by decide)).sl.mono (ok' := fun b => b < wr.heap.size) (fun b hb _ => hb) (by decide))
      have ho2 : Sl (fun b => b < wr.heap.size) wr 1 (aa 2) (celV (lC14 ns ns.length)).length (cc 2) (ints ((celV (lC14 ns ns.length)).map Vc.n)) := (HL.out.ow.own 2 (by decide)).sl.mono (ok' := fun b => b < wr.heap.size) (fun b hb _ => hb) (by decide)
      rw [HVE.out] at ho2
      have HO2 := Lib.hid ho2
      have HO3 : Hid (Sl (fun b => b < wr.heap.size) wr 3 (aa 3) ns.length (cc 3) yT) := Lib.hid ((HL.out.ow.own 3 (by decide)).sl.mono (ok' := fun b => b < wr.heap.size) (fun b hb _ => hb) (by decide))
      rw [HVE.out]
      have hcf : Cf.length ≤ 48 := by
        rw [HCE.out]; split
        · simp
        · omega
      have hcv2 : (celV Cf).length ≤ 48 := by have := celV_le Cf; omega
      have hsz0 : (⟨#[]⟩ : ByteArray) = ByteArray.empty := rfl
      clear hCf HL HRL HRW ho2 hcv
      by_cases h12 : ns.length < z0.length
      · have h12' : (ns.length : Int) < (z0.length : Int) := by omega
        have h12'' : ¬ ((ns.length : Int) < 12) := by have := HNL.out; omega
        clear h12
        go_upto_if 86 with fail
        go_cut [5, 6] from 23 to 88 (fun v5 v6 wd => ∃ (aR aD : Option Addr) (cR cD : Nat), v5 = .slice aR Cf.length cR ∧ v6 = .slice aD Cf.length cD ∧ Hid (Sl (fun b => b < wd.heap.size) wd 1 aR Cf.length cR (celR Cf)) ∧ Hid (Sl (fun b => b < wd.heap.size) wd 1 aD Cf.length cD (celD Cf)) ∧ Hid (Below wr.heap.size wr wd))
        case first =>
          by_cases h0 : ns.length = 0
          · exfalso; omega
          · have hb : ((ns.length : Int) == 0) = false := beq_eq_false_iff_ne.2 (by omega)
            have hc1 := HCE.out
            rw [if_neg h0] at hc1
            have HC1 := Lib.hid hc1
            clear h0 hc1
            go_wp2_with fail
            go_meet
            case rel =>
              have hc1 := HC1.out
              exact ⟨aa 0, aa 1, cc 0, cc 1, by rw [hc1], by rw [hc1], Lib.hid (by rw [hc1]; exact HO0.out), Lib.hid (by rw [hc1]; exact HO1.out), Lib.hid (b0 wr)⟩
        case rest =>
          obtain ⟨aR, aD, cR, cD, rfl, rfl, HSR, HSD, HBC⟩ := hcut
          go_upto_region 26 with fail
          obtain ⟨wA, hwA⟩ : ∃ wA, wA = (wc.alloc (.cells #[.slice (aa 3) ns.length (cc 3)] 24)).alloc (.cells #[.int .i64 0, .string ByteArray.empty, .slice (some ⟨wc.heap.size, 0, none⟩) 1 1] 29) := ⟨_, rfl⟩
          have hbA : Below wc.heap.size wc wA := by rw [hwA]; exact ba (ba (b0 wc) _) _
          have rK : Rw wA wc.heap.size #[.slice (aa 3) ns.length (cc 3)] 24 := by rw [hwA]; exact (Rw.new wc _ _).alloc _
          have rT : Rw wA (wc.heap.size + 1) #[.int .i64 0, .string ByteArray.empty, .slice (some ⟨wc.heap.size, 0, none⟩) 1 1] 29 := by rw [hwA]; exact Rw.new' (by simp)
          have hrow : RowG (fun b => b < wA.heap.size) wA [rec14 ns] [.int .i64 0, .string ByteArray.empty, .slice (some ⟨wc.heap.size, 0, none⟩) 1 1] := by
            simp only [rec14, RowG]
            refine ⟨_, _, _, [], rfl, ?_, rfl⟩
            simp only [TrG]
            refine ⟨_, 1, 1, [.slice (aa 3) ns.length (cc 3)], rfl, by decide, Rw.sl rK 1 1 rfl (by decide), ?_⟩
            simp only [KidG]
            exact ⟨_, _, _, yT, [], rfl, (out14_len ns).symm, slb HO3.out (bt HBC.out hbA), HRO.out.go (Chg.ofBelow (bt HBC.out hbA)) (fun b hb h => ⟨by omega, Nat.lt_of_lt_of_le hb (bt HBC.out hbA).size⟩), rfl⟩
          have HROWA := Lib.hid hrow
          have HTA := Lib.hid (Rw.sl rT 1 3 rfl (by decide))
          have HBA := Lib.hid (bt (bt HB.out HBC.out) hbA)
          have HBA2 := Lib.hid (bt HBC.out hbA); have HBA3 := Lib.hid hbA
          clear hrow rK rT hbA
          have tokA : True := trivial
          go_wp2_with fail
          rw [← hwA]
          clear hwA
          refine ((Cols_v l3_sch14 l3_wy14 l3_rep14 [rec14 ns] _ _ 3 1 _ wA (slb HS.out HBA.out) HTA.out HROWA.out).mono (fun e w' h => CQ.of l3_sch14 h)).mono ?_
          rintro e wX ⟨aC, nC, cC, xC, rfl, hcr, hbC⟩
          have hL : colsL l314 sh314 [rec14 ns] = [clC Cf] := by
            unfold colsL
            rw [if_pos HCZ.out, l3_leafs14, HCF.out]
            rfl
          rw [hL] at hcr
          obtain rfl : nC = 1 := hcr.n
          rw [HCZ.out]
          obtain ⟨b, o, x0, c0', x1, c1', x2, c2', rfl, k0, k1, k2, hcl⟩ := hcr.get 0 (by simp)
          have hxr : (clC Cf).r.length = Cf.length := by simp [clC]
          have hxd : (clC Cf).d.length = Cf.length := by simp [clC]
          have hxv : (clC Cf).v.length = (celV Cf).length := rfl
          simp only [Nat.zero_mul, Nat.add_zero, List.getElem_cons_zero] at k0 k1 k2 hcl
          have hqr := hcl.r; have hqd := hcl.d; have hqv := hcl.v
          rw [hxr, clC_r] at hqr
          rw [hxd, clC_d] at hqd
          rw [hxv] at hqv
          rw [hxr] at k0
          rw [hxd] at k1
          rw [hxv] at k2
          have HQR := Lib.hid hqr; have HQD := Lib.hid hqd; have HQV : Hid (Sl (fun b => b < wX.heap.size) wX 2 x2 (celV Cf).length c2' (vcs (celV Cf))) := Lib.hid hqv
          have HSRX := Lib.hid (slb HSR.out (bt HBA3.out hbC)); have HSDX := Lib.hid (slb HSD.out (bt HBA3.out hbC)); have HSVX := Lib.hid (slb HO2.out (bt HBA2.out hbC))
          have HBX := Lib.hid (bt (bt HB2.out HBA.out) hbC)
          generalize aa 2 = aV at *
          have HK := Lib.hid (And.intro k0 (And.intro k1 k2))
          clear hqr hqd hqv hcl hxr hxd hxv hL hcr hbC
          have hnn1 : ((Cf.length : Int) != (Cf.length : Int)) = false := by simp
          have hnn2 : (((celV Cf).length : Int) != ((celV Cf).length : Int)) = false := by simp
          go_wp2_with fail
          clear hnn1 hnn2 k0 k1 k2
          go_loopw [15] (fun iv wq => ∃ j : Nat, iv = .int .i64 (j : Int) ∧ j ≤ Cf.length ∧ Hid (Below wX.heap.size wX wq)) (fun iv _ => Cf.length - (intOf iv).toNat)
          case atStart => exact ⟨0, rfl, Nat.zero_le _, Lib.hid (b0 wX)⟩
          case round =>
            obtain ⟨j, rfl, hj, HBj⟩ := hrel
            by_cases hlt : j < Cf.length
            · obtain ⟨p0, o0, rfl, _, hp0⟩ := HQR.out.pos (by omega)
              obtain ⟨p1, o1, rfl, _, hp1⟩ := HQD.out.pos (by omega)
              obtain ⟨p2, o2, rfl, _, hp2⟩ := HSRX.out.pos (by omega)
              obtain ⟨p3, o3, rfl, _, hp3⟩ := HSDX.out.pos (by omega)
              have u0 := cb HBj.out (hp0 j _ (celR_get Cf j hlt)); have u1 := cb HBj.out (hp1 j _ (celD_get Cf j hlt)); have u2 := cb HBj.out (hp2 j _ (celR_get Cf j hlt)); have u3 := cb HBj.out (hp3 j _ (celD_get Cf j hlt))
              have t0 := cb HBj.out HK.out.1; have t1 := cb HBj.out HK.out.2.1
              have HU := Lib.hid (And.intro t0 (And.intro t1 (And.intro u0 (And.intro u1 (And.intro u2 u3)))))
              generalize (Cf[j].r : Int) = zr at *
              generalize (Cf[j].d : Int) = zd at *
              clear hp0 hp1 hp2 hp3
              have hzr : (zr != zr) = false := by simp
              have hzd : (zd != zd) = false := by simp
              go_upto_region 32 with fail
              clear u0 u1 u2 u3 t0 t1
              refine wp_region_F (fun w' => w'.cell? ⟨b, o, none⟩ = some (.slice (some ⟨p0, o0, none⟩) Cf.length c0') ∧ w'.cell? ⟨b, o + 1, none⟩ = some (.slice (some ⟨p1, o1, none⟩) Cf.length c1') ∧ w'.cell? ⟨p0, o0 + j, none⟩ = some (.int .i64 zr) ∧ w'.cell? ⟨p1, o1 + j, none⟩ = some (.int .i64 zd) ∧ w'.cell? ⟨p2, o2 + j, none⟩ = some (.int .i64 zr) ∧ w'.cell? ⟨p3, o3 + j, none⟩ = some (.int .i64 zd)) [] (by kernel_rfl) ?g1rgS (fun hHeld => ?g1rgR)
              case g1rgS => (try dsimp only); (exact HU.out)
              try dsimp only at hHeld
              refine wpAnyF_take 0 (oi := ⟨some 141, .move (.tmp 13), 34, "more.go:48", #[], none⟩) (v := ?g1rv1) rfl (by kernel_rfl) (fun _ _ _ h => h) (by assumption) (by rfl) ?g1ry1 ?g1rr1
              case g1ry1 => intro w hSw; obtain ⟨s0, s1, s2, s3, s4, s5⟩ := hSw; go_simp; try with_reducible rfl
              try simp only [Act.put, List.setIfInBounds_toArray, List.set_cons_zero, List.set_cons_succ]
              refine wpAnyF_take 1 (oi := ⟨some 142, .indexAddr 34 (.tmp 141) (.const (.int .i64 0)), 0, "more.go:48", #[⟨0, .data⟩], none⟩) (v := ?g1rv2) rfl (by kernel_rfl) (fun _ _ _ h => h) (by assumption) (by rfl) ?g1ry2 ?g1rr2
              case g1ry2 => intro w hSw; obtain ⟨s0, s1, s2, s3, s4, s5⟩ := hSw; go_simp; try with_reducible rfl
              try simp only [Act.put, List.setIfInBounds_toArray, List.set_cons_zero, List.set_cons_succ]
              refine wpAnyF_take 2 (oi := ⟨some 143, .fieldAddr 46 (.tmp 142) 0, 0, "more.go:48", #[⟨1, .data⟩], none⟩) (v := ?g1rv3) rfl (by kernel_rfl) (fun _ _ _ h => h) (by assumption) (by rfl) ?g1ry3 ?g1rr3
              case g1ry3 => intro w hSw; obtain ⟨s0, s1, s2, s3, s4, s5⟩ := hSw; go_simp; try with_reducible rfl
              try simp only [Act.put, List.setIfInBounds_toArray, List.set_cons_zero, List.set_cons_succ]
              refine wpAnyF_take 3 (oi := ⟨some 144, .load 22 (.tmp 143), 22, "more.go:48", #[⟨2, .data⟩], none⟩) (v := ?g1rv4) rfl (by kernel_rfl) (fun _ _ _ h => h) (by assumption) (by rfl) ?g1ry4 ?g1rr4
              case g1ry4 => intro w hSw; obtain ⟨s0, s1, s2, s3, s4, s5⟩ := hSw; go_simp; try with_reducible rfl
              try simp only [Act.put, List.setIfInBounds_toArray, List.set_cons_zero, List.set_cons_succ]
              refine wpAnyF_take 4 (oi := ⟨some 145, .move (.tmp 15), 3, "more.go:48", #[], none⟩) (v := ?g1rv5) rfl (by kernel_rfl) (fun _ _ _ h => h) (by assumption) (by rfl) ?g1ry5 ?g1rr5
              case g1ry5 => intro w hSw; obtain ⟨s0, s1, s2, s3, s4, s5⟩ := hSw; go_simp; try with_reducible rfl
              try simp only [Act.put, List.setIfInBounds_toArray, List.set_cons_zero, List.set_cons_succ]
              refine wpAnyF_take 5 (oi := ⟨some 146, .indexAddr 22 (.tmp 144) (.tmp 145), 0, "more.go:48", #[⟨3, .data⟩, ⟨4, .data⟩], none⟩) (v := ?g1rv6) rfl (by kernel_rfl) (fun _ _ _ h => h) (by assumption) (by rfl) ?g1ry6 ?g1rr6
              case g1ry6 => intro w hSw; obtain ⟨s0, s1, s2, s3, s4, s5⟩ := hSw; go_simp; try with_reducible rfl
              try simp only [Act.put, List.setIfInBounds_toArray, List.set_cons_zero, List.set_cons_succ]
              refine wpAnyF_take 6 (oi := ⟨some 147, .load 3 (.tmp 146), 3, "more.go:48", #[⟨5, .data⟩], none⟩) (v := ?g1rv7) rfl (by kernel_rfl) (fun _ _ _ h => h) (by assumption) (by rfl) ?g1ry7 ?g1rr7
              case g1ry7 => intro w hSw; obtain ⟨s0, s1, s2, s3, s4, s5⟩ := hSw; go_simp; try with_reducible rfl
              try simp only [Act.put, List.setIfInBounds_toArray, List.set_cons_zero, List.set_cons_succ]
              refine wpAnyF_take 7 (oi := ⟨some 148, .move (.tmp 5), 22, "more.go:48", #[], none⟩) (v := ?g1rv8) rfl (by kernel_rfl) (fun _ _ _ h => h) (by assumption) (by rfl) ?g1ry8 ?g1rr8
              case g1ry8 => intro w hSw; obtain ⟨s0, s1, s2, s3, s4, s5⟩ := hSw; go_simp; try with_reducible rfl
              try simp only [Act.put, List.setIfInBounds_toArray, List.set_cons_zero, List.set_cons_succ]
              refine wpAnyF_take 8 (oi := ⟨some 149, .move (.tmp 15), 3, "more.go:48", #[], none⟩) (v := ?g1rv9) rfl (by kernel_rfl) (fun _ _ _ h => h) (by assumption) (by rfl) ?g1ry9 ?g1rr9
              case g1ry9 => intro w hSw; obtain ⟨s0, s1, s2, s3, s4, s5⟩ := hSw; go_simp; try with_reducible rfl
              try simp only [Act.put, List.setIfInBounds_toArray, List.set_cons_zero, List.set_cons_succ]
              refine wpAnyF_take 9 (oi := ⟨some 150, .indexAddr 22 (.tmp 148) (.tmp 149), 0, "more.go:48", #[⟨7, .data⟩, ⟨8, .data⟩], none⟩) (v := ?g1rv10) rfl (by kernel_rfl) (fun _ _ _ h => h) (by assumption) (by rfl) ?g1ry10 ?g1rr10
              case g1ry10 => intro w hSw; obtain ⟨s0, s1, s2, s3, s4, s5⟩ := hSw; go_simp; try with_reducible rfl
              try simp only [Act.put, List.setIfInBounds_toArray, List.set_cons_zero, List.set_cons_succ]
              refine wpAnyF_take 10 (oi := ⟨some 151, .load 3 (.tmp 150), 3, "more.go:48", #[⟨9, .data⟩], none⟩) (v := ?g1rv11) rfl (by kernel_rfl) (fun _ _ _ h => h) (by assumption) (by rfl) ?g1ry11 ?g1rr11
              case g1ry11 => intro w hSw; obtain ⟨s0, s1, s2, s3, s4, s5⟩ := hSw; go_simp; try with_reducible rfl
              try simp only [Act.put, List.setIfInBounds_toArray, List.set_cons_zero, List.set_cons_succ]
              refine wpAnyF_take 11 (oi := ⟨some 152, .binOp .neq 3 (.tmp 147) (.tmp 151) 3, 4, "more.go:48", #[⟨6, .data⟩, ⟨10, .data⟩], none⟩) (v := ?g1rv12) rfl (by kernel_rfl) (fun _ _ _ h => h) (by assumption) (by rfl) ?g1ry12 ?g1rr12
              case g1ry12 => intro w hSw; obtain ⟨s0, s1, s2, s3, s4, s5⟩ := hSw; go_simp; try with_reducible rfl
              try simp only [Act.put, List.setIfInBounds_toArray, List.set_cons_zero, List.set_cons_succ]
              refine wpAnyF_take 12 (oi := ⟨some 153, .move (.tmp 152), 4, "more.go:48", #[⟨11, .data⟩], none⟩) (v := ?g1rv13) rfl (by kernel_rfl) (fun _ _ _ h => h) (by assumption) (by rfl) ?g1ry13 ?g1rr13
              case g1ry13 => intro w hSw; obtain ⟨s0, s1, s2, s3, s4, s5⟩ := hSw; go_simp; try with_reducible rfl
              try simp only [Act.put, List.setIfInBounds_toArray, List.set_cons_zero, List.set_cons_succ]
              first
                | refine wpAnyF_skip 13 (oi := ⟨some 154, .move (.tmp 13), 34, "more.go:48", #[⟨12, .guard⟩], some (12, false)⟩) rfl (by kernel_rfl) (fun _ _ _ h => h) (by assumption) (by rfl) ?_
                | (refine wpAnyF_take 13 (oi := ⟨some 154, .move (.tmp 13), 34, "more.go:48", #[⟨12, .guard⟩], some (12, false)⟩) (v := ?g1rv14) rfl (by kernel_rfl) (fun _ _ _ h => h) (by assumption) (by rfl) ?g1ry14 ?g1rr14
                   case g1ry14 => intro w hSw; obtain ⟨s0, s1, s2, s3, s4, s5⟩ := hSw; go_simp; try with_reducible rfl)
              try simp only [Act.put, List.setIfInBounds_toArray, List.set_cons_zero, List.set_cons_succ]
              first
                | refine wpAnyF_skip 14 (oi := ⟨some 155, .indexAddr 34 (.tmp 154) (.const (.int .i64 0)), 0, "more.go:48", #[⟨13, .data⟩, ⟨12, .guard⟩], some (12, false)⟩) rfl (by kernel_rfl) (fun _ _ _ h => h) (by assumption) (by rfl) ?_
                | (refine wpAnyF_take 14 (oi := ⟨some 155, .indexAddr 34 (.tmp 154) (.const (.int .i64 0)), 0, "more.go:48", #[⟨13, .data⟩, ⟨12, .guard⟩], some (12, false)⟩) (v := ?g1rv15) rfl (by kernel_rfl) (fun _ _ _ h => h) (by assumption) (by rfl) ?g1ry15 ?g1rr15
                   case g1ry15 => intro w hSw; obtain ⟨s0, s1, s2, s3, s4, s5⟩ := hSw; go_simp; try with_reducible rfl)
              try simp only [Act.put, List.setIfInBounds_toArray, List.set_cons_zero, List.set_cons_succ]
              first
                | refine wpAnyF_skip 15 (oi := ⟨some 156, .fieldAddr 46 (.tmp 155) 1, 0, "more.go:48", #[⟨14, .data⟩, ⟨12, .guard⟩], some (12, false)⟩) rfl (by kernel_rfl) (fun _ _ _ h => h) (by assumption) (by rfl) ?_
                | (refine wpAnyF_take 15 (oi := ⟨some 156, .fieldAddr 46 (.tmp 155) 1, 0, "more.go:48", #[⟨14, .data⟩, ⟨12, .guard⟩], some (12, false)⟩) (v := ?g1rv16) rfl (by kernel_rfl) (fun _ _ _ h => h) (by assumption) (by rfl) ?g1ry16 ?g1rr16
                   case g1ry16 => intro w hSw; obtain ⟨s0, s1, s2, s3, s4, s5⟩ := hSw; go_simp; try with_reducible rfl)
              try simp only [Act.put, List.setIfInBounds_toArray, List.set_cons_zero, List.set_cons_succ]
              first
                | refine wpAnyF_skip 16 (oi := ⟨some 157, .load 22 (.tmp 156), 22, "more.go:48", #[⟨15, .data⟩, ⟨12, .guard⟩], some (12, false)⟩) rfl (by kernel_rfl) (fun _ _ _ h => h) (by assumption) (by rfl) ?_
                | (refine wpAnyF_take 16 (oi := ⟨some 157, .load 22 (.tmp 156), 22, "more.go:48", #[⟨15, .data⟩, ⟨12, .guard⟩], some (12, false)⟩) (v := ?g1rv17) rfl (by kernel_rfl) (fun _ _ _ h => h) (by assumption) (by rfl) ?g1ry17 ?g1rr17
                   case g1ry17 => intro w hSw; obtain ⟨s0, s1, s2, s3, s4, s5⟩ := hSw; go_simp; try with_reducible rfl)
              try simp only [Act.put, List.setIfInBounds_toArray, List.set_cons_zero, List.set_cons_succ]
              first
                | refine wpAnyF_skip 17 (oi := ⟨some 158, .move (.tmp 15), 3, "more.go:48", #[⟨12, .guard⟩], some (12, false)⟩) rfl (by kernel_rfl) (fun _ _ _ h => h) (by assumption) (by rfl) ?_
                | (refine wpAnyF_take 17 (oi := ⟨some 158, .move (.tmp 15), 3, "more.go:48", #[⟨12, .guard⟩], some (12, false)⟩) (v := ?g1rv18) rfl (by kernel_rfl) (fun _ _ _ h => h) (by assumption) (by rfl) ?g1ry18 ?g1rr18
                   case g1ry18 => intro w hSw; obtain ⟨s0, s1, s2, s3, s4, s5⟩ := hSw; go_simp; try with_reducible rfl)
              try simp only [Act.put, List.setIfInBounds_toArray, List.set_cons_zero, List.set_cons_succ]
              first
                | refine wpAnyF_skip 18 (oi := ⟨some 159, .indexAddr 22 (.tmp 157) (.tmp 158), 0, "more.go:48", #[⟨16, .data⟩, ⟨17, .data⟩, ⟨12, .guard⟩], some (12, false)⟩) rfl (by kernel_rfl) (fun _ _ _ h => h) (by assumption) (by rfl) ?_
                | (refine wpAnyF_take 18 (oi := ⟨some 159, .indexAddr 22 (.tmp 157) (.tmp 158), 0, "more.go:48", #[⟨16, .data⟩, ⟨17, .data⟩, ⟨12, .guard⟩], some (12, false)⟩) (v := ?g1rv19) rfl (by kernel_rfl) (fun _ _ _ h => h) (by assumption) (by rfl) ?g1ry19 ?g1rr19
                   case g1ry19 => intro w hSw; obtain ⟨s0, s1, s2, s3, s4, s5⟩ := hSw; go_simp; try with_reducible rfl)
              try simp only [Act.put, List.setIfInBounds_toArray, List.set_cons_zero, List.set_cons_succ]
              first
                | refine wpAnyF_skip 19 (oi := ⟨some 160, .load 3 (.tmp 159), 3, "more.go:48", #[⟨18, .data⟩, ⟨12, .guard⟩], some (12, false)⟩) rfl (by kernel_rfl) (fun _ _ _ h => h) (by assumption) (by rfl) ?_
                | (refine wpAnyF_take 19 (oi := ⟨some 160, .load 3 (.tmp 159), 3, "more.go:48", #[⟨18, .data⟩, ⟨12, .guard⟩], some (12, false)⟩) (v := ?g1rv20) rfl (by kernel_rfl) (fun _ _ _ h => h) (by assumption) (by rfl) ?g1ry20 ?g1rr20
                   case g1ry20 => intro w hSw; obtain ⟨s0, s1, s2, s3, s4, s5⟩ := hSw; go_simp; try with_reducible rfl)
              try simp only [Act.put, List.setIfInBounds_toArray, List.set_cons_zero, List.set_cons_succ]
              first
                | refine wpAnyF_skip 20 (oi := ⟨some 161, .move (.tmp 6), 22, "more.go:48", #[⟨12, .guard⟩], some (12, false)⟩) rfl (by kernel_rfl) (fun _ _ _ h => h) (by assumption) (by rfl) ?_
                | (refine wpAnyF_take 20 (oi := ⟨some 161, .move (.tmp 6), 22, "more.go:48", #[⟨12, .guard⟩], some (12, false)⟩) (v := ?g1rv21) rfl (by kernel_rfl) (fun _ _ _ h => h) (by assumption) (by rfl) ?g1ry21 ?g1rr21
                   case g1ry21 => intro w hSw; obtain ⟨s0, s1, s2, s3, s4, s5⟩ := hSw; go_simp; try with_reducible rfl)
              try simp only [Act.put, List.setIfInBounds_toArray, List.set_cons_zero, List.set_cons_succ]
              first
                | refine wpAnyF_skip 21 (oi := ⟨some 162, .move (.tmp 15), 3, "more.go:48", #[⟨12, .guard⟩], some (12, false)⟩) rfl (by kernel_rfl) (fun _ _ _ h => h) (by assumption) (by rfl) ?_
                | (refine wpAnyF_take 21 (oi := ⟨some 162, .move (.tmp 15), 3, "more.go:48", #[⟨12, .guard⟩], some (12, false)⟩) (v := ?g1rv22) rfl (by kernel_rfl) (fun _ _ _ h => h) (by assumption) (by rfl) ?g1ry22 ?g1rr22
                   case g1ry22 => intro w hSw; obtain ⟨s0, s1, s2, s3, s4, s5⟩ := hSw; go_simp; try with_reducible rfl)
              try simp only [Act.put, List.setIfInBounds_toArray, List.set_cons_zero, List.set_cons_succ]
              first
                | refine wpAnyF_skip 22 (oi := ⟨some 163, .indexAddr 22 (.tmp 161) (.tmp 162), 0, "more.go:48", #[⟨20, .data⟩, ⟨21, .data⟩, ⟨12, .guard⟩], some (12, false)⟩) rfl (by kernel_rfl) (fun _ _ _ h => h) (by assumption) (by rfl) ?_
                | (refine wpAnyF_take 22 (oi := ⟨some 163, .indexAddr 22 (.tmp 161) (.tmp 162), 0, "more.go:48", #[⟨20, .data⟩, ⟨21, .data⟩, ⟨12, .guard⟩], some (12, false)⟩) (v := ?g1rv23) rfl (by kernel_rfl) (fun _ _ _ h => h) (by assumption) (by rfl) ?g1ry23 ?g1rr23
                   case g1ry23 => intro w hSw; obtain ⟨s0, s1, s2, s3, s4, s5⟩ := hSw; go_simp; try with_reducible rfl)
              try simp only [Act.put, List.setIfInBounds_toArray, List.set_cons_zero, List.set_cons_succ]
              first
                | refine wpAnyF_skip 23 (oi := ⟨some 164, .load 3 (.tmp 163), 3, "more.go:48", #[⟨22, .data⟩, ⟨12, .guard⟩], some (12, false)⟩) rfl (by kernel_rfl) (fun _ _ _ h => h) (by assumption) (by rfl) ?_
                | (refine wpAnyF_take 23 (oi := ⟨some 164, .load 3 (.tmp 163), 3, "more.go:48", #[⟨22, .data⟩, ⟨12, .guard⟩], some (12, false)⟩) (v := ?g1rv24) rfl (by kernel_rfl) (fun _ _ _ h => h) (by assumption) (by rfl) ?g1ry24 ?g1rr24
                   case g1ry24 => intro w hSw; obtain ⟨s0, s1, s2, s3, s4, s5⟩ := hSw; go_simp; try with_reducible rfl)
              try simp only [Act.put, List.setIfInBounds_toArray, List.set_cons_zero, List.set_cons_succ]
              first
                | refine wpAnyF_skip 24 (oi := ⟨some 165, .binOp .neq 3 (.tmp 160) (.tmp 164) 3, 4, "more.go:48", #[⟨19, .data⟩, ⟨23, .data⟩, ⟨12, .guard⟩], some (12, false)⟩) rfl (by kernel_rfl) (fun _ _ _ h => h) (by assumption) (by rfl) ?_
                | (refine wpAnyF_take 24 (oi := ⟨some 165, .binOp .neq 3 (.tmp 160) (.tmp 164) 3, 4, "more.go:48", #[⟨19, .data⟩, ⟨23, .data⟩, ⟨12, .guard⟩], some (12, false)⟩) (v := ?g1rv25) rfl (by kernel_rfl) (fun _ _ _ h => h) (by assumption) (by rfl) ?g1ry25 ?g1rr25
                   case g1ry25 => intro w hSw; obtain ⟨s0, s1, s2, s3, s4, s5⟩ := hSw; go_simp; try with_reducible rfl)
              try simp only [Act.put, List.setIfInBounds_toArray, List.set_cons_zero, List.set_cons_succ]
              refine wpAnyF_take 25 (oi := ⟨some 166, .pick (.tmp 153) (.const (.bool true)) (.tmp 165), 4, "more.go:48", #[⟨12, .data⟩, ⟨24, .data⟩], none⟩) (v := ?g1rv26) rfl (by kernel_rfl) (fun _ _ _ h => h) (by assumption) (by rfl) ?g1ry26 ?g1rr26
              case g1ry26 => intro w hSw; obtain ⟨s0, s1, s2, s3, s4, s5⟩ := hSw; go_simp; try with_reducible rfl
              try simp only [Act.put, List.setIfInBounds_toArray, List.set_cons_zero, List.set_cons_succ]
              refine wpAnyF_done (by kernel_rfl) ?_
              clear hHeld hzr hzd
              go_wp2_with fail
              go_roundw
              case rel => exact ⟨j + 1, by go_num, by omega, Lib.hid HBj.out.drew⟩
              case measure => simp [intOf]; omega
            · obtain rfl : j = Cf.length := by omega
              clear hlt
              go_wp2_with fail
              go_loopw [16] (fun iv wq => ∃ j : Nat, iv = .int .i64 (j : Int) ∧ j ≤ (celV Cf).length ∧ Hid (Below wX.heap.size wX wq)) (fun iv _ => (celV Cf).length - (intOf iv).toNat)
              case atStart => exact ⟨0, rfl, Nat.zero_le _, HBj⟩
              case round =>
                obtain ⟨j, rfl, hj2, HBq⟩ := hrel
                by_cases hlt : j < (celV Cf).length
                · obtain ⟨p0, o0, rfl, _, hp0⟩ := HQV.out.pos (by omega)
                  obtain ⟨p2, o2, rfl, _, hp2⟩ := HSVX.out.pos (by omega)
                  have u0 := cb HBq.out (hp0 _ _ (vcs_get (celV Cf) j hlt).1); have u2 := cb HBq.out (hp2 j _ (ns_get (celV Cf) j hlt))
                  have t0 := cb HBq.out HK.out.2.2
                  have HU := Lib.hid (And.intro t0 (And.intro u0 u2))
                  generalize (celV Cf)[j].n = zr at *
                  clear hp0 hp2
                  have hzr : (zr != zr) = false := by simp
                  go_upto_region 37 with fail
                  clear u0 u2 t0
                  refine wp_region_F (fun w' => w'.cell? ⟨b, o + 2, none⟩ = some (.slice (some ⟨p0, o0, none⟩) (celV Cf).length c2') ∧ w'.cell? ⟨p0, o0 + j * 2, none⟩ = some (.int .i64 zr) ∧ w'.cell? ⟨p2, o2 + j, none⟩ = some (.int .i64 zr)) [] (by kernel_rfl) ?g2rgS (fun hHeld => ?g2rgR)
                  case g2rgS => (try dsimp only); (exact HU.out)
                  try dsimp only at hHeld
                  refine wpAnyF_take 0 (oi := ⟨some 173, .move (.tmp 13), 34, "more.go:53", #[], none⟩) (v := ?g2rv1) rfl (by kernel_rfl) (fun _ _ _ h => h) (by assumption) (by rfl) ?g2ry1 ?g2rr1
                  case g2ry1 => intro w hSw; obtain ⟨s0, s1, s2⟩ := hSw; go_simp; try with_reducible rfl
                  try simp only [Act.put, List.setIfInBounds_toArray, List.set_cons_zero, List.set_cons_succ]
                  refine wpAnyF_take 1 (oi := ⟨some 174, .indexAddr 34 (.tmp 173) (.const (.int .i64 0)), 0, "more.go:53", #[⟨0, .data⟩], none⟩) (v := ?g2rv2) rfl (by kernel_rfl) (fun _ _ _ h => h) (by assumption) (by rfl) ?g2ry2 ?g2rr2
                  case g2ry2 => intro w hSw; obtain ⟨s0, s1, s2⟩ := hSw; go_simp; try with_reducible rfl
                  try simp only [Act.put, List.setIfInBounds_toArray, List.set_cons_zero, List.set_cons_succ]
                  refine wpAnyF_take 2 (oi := ⟨some 175, .fieldAddr 46 (.tmp 174) 2, 0, "more.go:53", #[⟨1, .data⟩], none⟩) (v := ?g2rv3) rfl (by kernel_rfl) (fun _ _ _ h => h) (by assumption) (by rfl) ?g2ry3 ?g2rr3
                  case g2ry3 => intro w hSw; obtain ⟨s0, s1, s2⟩ := hSw; go_simp; try with_reducible rfl
                  try simp only [Act.put, List.setIfInBounds_toArray, List.set_cons_zero, List.set_cons_succ]
                  refine wpAnyF_take 3 (oi := ⟨some 176, .load 44 (.tmp 175), 44, "more.go:53", #[⟨2, .data⟩], none⟩) (v := ?g2rv4) rfl (by kernel_rfl) (fun _ _ _ h => h) (by assumption) (by rfl) ?g2ry4 ?g2rr4
                  case g2ry4 => intro w hSw; obtain ⟨s0, s1, s2⟩ := hSw; go_simp; try with_reducible rfl
                  try simp only [Act.put, List.setIfInBounds_toArray, List.set_cons_zero, List.set_cons_succ]
                  refine wpAnyF_take 4 (oi := ⟨some 177, .move (.tmp 16), 3, "more.go:53", #[], none⟩) (v := ?g2rv5) rfl (by kernel_rfl) (fun _ _ _ h => h) (by assumption) (by rfl) ?g2ry5 ?g2rr5
                  case g2ry5 => intro w hSw; obtain ⟨s0, s1, s2⟩ := hSw; go_simp; try with_reducible rfl
                  try simp only [Act.put, List.setIfInBounds_toArray, List.set_cons_zero, List.set_cons_succ]
                  refine wpAnyF_take 5 (oi := ⟨some 178, .indexAddr 44 (.tmp 176) (.tmp 177), 0, "more.go:53", #[⟨3, .data⟩, ⟨4, .data⟩], none⟩) (v := ?g2rv6) rfl (by kernel_rfl) (fun _ _ _ h => h) (by assumption) (by rfl) ?g2ry6 ?g2rr6
                  case g2ry6 => intro w hSw; obtain ⟨s0, s1, s2⟩ := hSw; go_simp; try with_reducible rfl
                  try simp only [Act.put, List.setIfInBounds_toArray, List.set_cons_zero, List.set_cons_succ]
                  refine wpAnyF_take 6 (oi := ⟨some 179, .fieldAddr 54 (.tmp 178) 0, 0, "more.go:53", #[⟨5, .data⟩], none⟩) (v := ?g2rv7) rfl (by kernel_rfl) (fun _ _ _ h => h) (by assumption) (by rfl) ?g2ry7 ?g2rr7
                  case g2ry7 => intro w hSw; obtain ⟨s0, s1, s2⟩ := hSw; go_simp; try with_reducible rfl
                  try simp only [Act.put, List.setIfInBounds_toArray, List.set_cons_zero, List.set_cons_succ]
                  refine wpAnyF_take 7 (oi := ⟨some 180, .load 3 (.tmp 179), 3, "more.go:53", #[⟨6, .data⟩], none⟩) (v := ?g2rv8) rfl (by kernel_rfl) (fun _ _ _ h => h) (by assumption) (by rfl) ?g2ry8 ?g2rr8
                  case g2ry8 => intro w hSw; obtain ⟨s0, s1, s2⟩ := hSw; go_simp; try with_reducible rfl
                  try simp only [Act.put, List.setIfInBounds_toArray, List.set_cons_zero, List.set_cons_succ]
                  refine wpAnyF_take 8 (oi := ⟨some 181, .move (.tmp 7), 22, "more.go:53", #[], none⟩) (v := ?g2rv9) rfl (by kernel_rfl) (fun _ _ _ h => h) (by assumption) (by rfl) ?g2ry9 ?g2rr9
                  case g2ry9 => intro w hSw; obtain ⟨s0, s1, s2⟩ := hSw; go_simp; try with_reducible rfl
                  try simp only [Act.put, List.setIfInBounds_toArray, List.set_cons_zero, List.set_cons_succ]
                  refine wpAnyF_take 9 (oi := ⟨some 182, .move (.tmp 16), 3, "more.go:53", #[], none⟩) (v := ?g2rv10) rfl (by kernel_rfl) (fun _ _ _ h => h) (by assumption) (by rfl) ?g2ry10 ?g2rr10
                  case g2ry10 => intro w hSw; obtain ⟨s0, s1, s2⟩ := hSw; go_simp; try with_reducible rfl
                  try simp only [Act.put, List.setIfInBounds_toArray, List.set_cons_zero, List.set_cons_succ]
                  refine wpAnyF_take 10 (oi := ⟨some 183, .indexAddr 22 (.tmp 181) (.tmp 182), 0, "more.go:53", #[⟨8, .data⟩, ⟨9, .data⟩], none⟩) (v := ?g2rv11) rfl (by kernel_rfl) (fun _ _ _ h => h) (by assumption) (by rfl) ?g2ry11 ?g2rr11
                  case g2ry11 => intro w hSw; obtain ⟨s0, s1, s2⟩ := hSw; go_simp; try with_reducible rfl
                  try simp only [Act.put, List.setIfInBounds_toArray, List.set_cons_zero, List.set_cons_succ]
                  refine wpAnyF_take 11 (oi := ⟨some 184, .load 3 (.tmp 183), 3, "more.go:53", #[⟨10, .data⟩], none⟩) (v := ?g2rv12) rfl (by kernel_rfl) (fun _ _ _ h => h) (by assumption) (by rfl) ?g2ry12 ?g2rr12
                  case g2ry12 => intro w hSw; obtain ⟨s0, s1, s2⟩ := hSw; go_simp; try with_reducible rfl
                  try simp only [Act.put, List.setIfInBounds_toArray, List.set_cons_zero, List.set_cons_succ]
                  refine wpAnyF_take 12 (oi := ⟨some 185, .binOp .neq 3 (.tmp 180) (.tmp 184) 3, 4, "more.go:53", #[⟨7, .data⟩, ⟨11, .data⟩], none⟩) (v := ?g2rv13) rfl (by kernel_rfl) (fun _ _ _ h => h) (by assumption) (by rfl) ?g2ry13 ?g2rr13
                  case g2ry13 => intro w hSw; obtain ⟨s0, s1, s2⟩ := hSw; go_simp; try with_reducible rfl
                  try simp only [Act.put, List.setIfInBounds_toArray, List.set_cons_zero, List.set_cons_succ]
                  refine wpAnyF_done (by kernel_rfl) ?_
                  clear hHeld hzr
                  go_wp2_with fail
                  go_roundw
                  case rel => exact ⟨j + 1, by go_num, by omega, Lib.hid HBq.out.drew⟩
                  case measure => simp [intOf]; omega
                · obtain rfl : j = (celV Cf).length := by omega
                  go_wp2_with fail
                  go_ret
                  exact ⟨rfl, bt HBX.out HBq.out⟩
      · have h12' : ¬ ((ns.length : Int) < (z0.length : Int)) := by omega
        clear h12
        go_upto_if 86 with fail
        go_cut [5, 6] from 23 to 88 (fun v5 v6 wd => ∃ (aR aD : Option Addr) (cR cD : Nat), v5 = .slice aR Cf.length cR ∧ v6 = .slice aD Cf.length cD ∧ Hid (Sl (fun b => b < wd.heap.size) wd 1 aR Cf.length cR (celR Cf)) ∧ Hid (Sl (fun b => b < wd.heap.size) wd 1 aD Cf.length cD (celD Cf)) ∧ Hid (Below wr.heap.size wr wd))
        case first =>
          by_cases h0 : ns.length = 0
          · have hb : ((ns.length : Int) == 0) = true := beq_iff_eq.2 (by omega)
            have hc1 := HCE.out
            rw [if_pos h0] at hc1
            have HC1 := Lib.hid hc1
            clear h0 hc1
            go_wp2_with fail
            go_meet
            case rel =>
              have hc1 := HC1.out
              refine ⟨some ⟨wr.heap.size, 0, none⟩, some ⟨wr.heap.size + 1, 0, none⟩, 1, 1, by (rw [hc1]); first | done | rfl, by (rw [hc1]); first | done | rfl, Lib.hid ?_, Lib.hid ?_, Lib.hid (ba (ba (b0 wr) _) _)⟩
              · have h := Rw.sl ((Rw.new wr #[.int .i64 0] 3).alloc (.cells #[.int .i64 0] 3)) 1 1 rfl (by decide)
                rw [hc1]; exact h
              · have h := Rw.sl (Rw.new (wr.alloc (.cells #[.int .i64 0] 3)) #[.int .i64 0] 3) 1 1 rfl (by decide)
                rw [show (wr.alloc (.cells #[.int .i64 0] 3)).heap.size = wr.heap.size + 1 by simp] at h
                rw [hc1]; exact h
          · have hb : ((ns.length : Int) == 0) = false := beq_eq_false_iff_ne.2 (by omega)
            have hc1 := HCE.out
            rw [if_neg h0] at hc1
            have HC1 := Lib.hid hc1
            clear h0 hc1
            go_wp2_with fail
            go_meet
            case rel =>
              have hc1 := HC1.out
              exact ⟨aa 0, aa 1, cc 0, cc 1, by rw [hc1], by rw [hc1], Lib.hid (by rw [hc1]; exact HO0.out), Lib.hid (by rw [hc1]; exact HO1.out), Lib.hid (b0 wr)⟩
        case rest =>
          obtain ⟨aR, aD, cR, cD, rfl, rfl, HSR, HSD, HBC⟩ := hcut
          go_upto_region 26 with fail
          obtain ⟨wA, hwA⟩ : ∃ wA, wA = (wc.alloc (.cells #[.slice (aa 3) ns.length (cc 3)] 24)).alloc (.cells #[.int .i64 0, .string ByteArray.empty, .slice (some ⟨wc.heap.size, 0, none⟩) 1 1] 29) := ⟨_, rfl⟩
          have hbA : Below wc.heap.size wc wA := by rw [hwA]; exact ba (ba (b0 wc) _) _
          have rK : Rw wA wc.heap.size #[.slice (aa 3) ns.length (cc 3)] 24 := by rw [hwA]; exact (Rw.new wc _ _).alloc _
          have rT : Rw wA (wc.heap.size + 1) #[.int .i64 0, .string ByteArray.empty, .slice (some ⟨wc.heap.size, 0, none⟩) 1 1] 29 := by rw [hwA]; exact Rw.new' (by simp)
          have hrow : RowG (fun b => b < wA.heap.size) wA [rec14 ns] [.int .i64 0, .string ByteArray.empty, .slice (some ⟨wc.heap.size, 0, none⟩) 1 1] := by
            simp only [rec14, RowG]
            refine ⟨_, _, _, [], rfl, ?_, rfl⟩
            simp only [TrG]
            refine ⟨_, 1, 1, [.slice (aa 3) ns.length (cc 3)], rfl, by decide, Rw.sl rK 1 1 rfl (by decide), ?_⟩
            simp only [KidG]
            exact ⟨_, _, _, yT, [], rfl, (out14_len ns).symm, slb HO3.out (bt HBC.out hbA), HRO.out.go (Chg.ofBelow (bt HBC.out hbA)) (fun b hb h => ⟨by omega, Nat.lt_of_lt_of_le hb (bt HBC.out hbA).size⟩), rfl⟩
          have HROWA := Lib.hid hrow
          have HTA := Lib.hid (Rw.sl rT 1 3 rfl (by decide))
          have HBA := Lib.hid (bt (bt HB.out HBC.out) hbA)
          have HBA2 := Lib.hid (bt HBC.out hbA); have HBA3 := Lib.hid hbA
          clear hrow rK rT hbA
          have tokA : True := trivial
          go_wp2_with fail
          rw [← hwA]
          clear hwA
          refine ((Cols_v l3_sch14 l3_wy14 l3_rep14 [rec14 ns] _ _ 3 1 _ wA (slb HS.out HBA.out) HTA.out HROWA.out).mono (fun e w' h => CQ.of l3_sch14 h)).mono ?_
          rintro e wX ⟨aC, nC, cC, xC, rfl, hcr, hbC⟩
          have hL : colsL l314 sh314 [rec14 ns] = [clC Cf] := by
            unfold colsL
            rw [if_pos HCZ.out, l3_leafs14, HCF.out]
            rfl
          rw [hL] at hcr
          obtain rfl : nC = 1 := hcr.n
          rw [HCZ.out]
          obtain ⟨b, o, x0, c0', x1, c1', x2, c2', rfl, k0, k1, k2, hcl⟩ := hcr.get 0 (by simp)
          have hxr : (clC Cf).r.length = Cf.length := by simp [clC]
          have hxd : (clC Cf).d.length = Cf.length := by simp [clC]
          have hxv : (clC Cf).v.length = (celV Cf).length := rfl
          simp only [Nat.zero_mul, Nat.add_zero, List.getElem_cons_zero] at k0 k1 k2 hcl
          have hqr := hcl.r; have hqd := hcl.d; have hqv := hcl.v
          rw [hxr, clC_r] at hqr
          rw [hxd, clC_d] at hqd
          rw [hxv] at hqv
          rw [hxr] at k0
          rw [hxd] at k1
          rw [hxv] at k2
          have HQR := Lib.hid hqr; have HQD := Lib.hid hqd; have HQV : Hid (Sl (fun b => b < wX.heap.size) wX 2 x2 (celV Cf).length c2' (vcs (celV Cf))) := Lib.hid hqv
          have HSRX := Lib.hid (slb HSR.out (bt HBA3.out hbC)); have HSDX := Lib.hid (slb HSD.out (bt HBA3.out hbC)); have HSVX := Lib.hid (slb HO2.out (bt HBA2.out hbC))
          have HBX := Lib.hid (bt (bt HB2.out HBA.out) hbC)
          generalize aa 2 = aV at *
          have HK := Lib.hid (And.intro k0 (And.intro k1 k2))
          clear hqr hqd hqv hcl hxr hxd hxv hL hcr hbC
          have hnn1 : ((Cf.length : Int) != (Cf.length : Int)) = false := by simp
          have hnn2 : (((celV Cf).length : Int) != ((celV Cf).length : Int)) = false := by simp
          go_wp2_with fail
          clear hnn1 hnn2 k0 k1 k2
          go_loopw [15] (fun iv wq => ∃ j : Nat, iv = .int .i64 (j : Int) ∧ j ≤ Cf.length ∧ Hid (Below wX.heap.size wX wq)) (fun iv _ => Cf.length - (intOf iv).toNat)
          case atStart => exact ⟨0, rfl, Nat.zero_le _, Lib.hid (b0 wX)⟩
          case round =>
            obtain ⟨j, rfl, hj, HBj⟩ := hrel
            by_cases hlt : j < Cf.length
            · obtain ⟨p0, o0, rfl, _, hp0⟩ := HQR.out.pos (by omega)
              obtain ⟨p1, o1, rfl, _, hp1⟩ := HQD.out.pos (by omega)
              obtain ⟨p2, o2, rfl, _, hp2⟩ := HSRX.out.pos (by omega)
              obtain ⟨p3, o3, rfl, _, hp3⟩ := HSDX.out.pos (by omega)
              have u0 := cb HBj.out (hp0 j _ (celR_get Cf j hlt)); have u1 := cb HBj.out (hp1 j _ (celD_get Cf j hlt)); have u2 := cb HBj.out (hp2 j _ (celR_get Cf j hlt)); have u3 := cb HBj.out (hp3 j _ (celD_get Cf j hlt))
              have t0 := cb HBj.out HK.out.1; have t1 := cb HBj.out HK.out.2.1
              have HU := Lib.hid (And.intro t0 (And.intro t1 (And.intro u0 (And.intro u1 (And.intro u2 u3)))))
              generalize (Cf[j].r : Int) = zr at *
              generalize (Cf[j].d : Int) = zd at *
              clear hp0 hp1 hp2 hp3
              have hzr : (zr != zr) = false := by simp
              have hzd : (zd != zd) = false := by simp
              go_upto_region 32 with fail
              clear u0 u1 u2 u3 t0 t1
              refine wp_region_F (fun w' => w'.cell? ⟨b, o, none⟩ = some (.slice (some ⟨p0, o0, none⟩) Cf.length c0') ∧ w'.cell? ⟨b, o + 1, none⟩ = some (.slice (some ⟨p1, o1, none⟩) Cf.length c1') ∧ w'.cell? ⟨p0, o0 + j, none⟩ = some (.int .i64 zr) ∧ w'.cell? ⟨p1, o1 + j, none⟩ = some (.int .i64 zd) ∧ w'.cell? ⟨p2, o2 + j, none⟩ = some (.int .i64 zr) ∧ w'.cell? ⟨p3, o3 + j, none⟩ = some (.int .i64 zd)) [] (by kernel_rfl) ?g3rgS (fun hHeld => ?g3rgR)
              case g3rgS => (try dsimp only); (exact HU.out)
              try dsimp only at hHeld
              refine wpAnyF_take 0 (oi := ⟨some 141, .move (.tmp 13), 34, "more.go:48", #[], none⟩) (v := ?g3rv1) rfl (by kernel_rfl) (fun _ _ _ h => h) (by assumption) (by rfl) ?g3ry1 ?g3rr1
              case g3ry1 => intro w hSw; obtain ⟨s0, s1, s2, s3, s4, s5⟩ := hSw; go_simp; try with_reducible rfl
              try simp only [Act.put, List.setIfInBounds_toArray, List.set_cons_zero, List.set_cons_succ]
              refine wpAnyF_take 1 (oi := ⟨some 142, .indexAddr 34 (.tmp 141) (.const (.int .i64 0)), 0, "more.go:48", #[⟨0, .data⟩], none⟩) (v := ?g3rv2) rfl (by kernel_rfl) (fun _ _ _ h => h) (by assumption) (by rfl) ?g3ry2 ?g3rr2
              case g3ry2 => intro w hSw; obtain ⟨s0, s1, s2, s3, s4, s5⟩ := hSw; go_simp; try with_reducible rfl
              try simp only [Act.put, List.setIfInBounds_toArray, List.set_cons_zero, List.set_cons_succ]
              refine wpAnyF_take 2 (oi := ⟨some 143, .fieldAddr 46 (.tmp 142) 0, 0, "more.go:48", #[⟨1, .data⟩], none⟩) (v := ?g3rv3) rfl (by kernel_rfl) (fun _ _ _ h => h) (by assumption) (by rfl) ?g3ry3 ?g3rr3
              case g3ry3 => intro w hSw; obtain ⟨s0, s1, s2, s3, s4, s5⟩ := hSw; go_simp; try with_reducible rfl
              try simp only [Act.put, List.setIfInBounds_toArray, List.set_cons_zero, List.set_cons_succ]
              refine wpAnyF_take 3 (oi := ⟨some 144, .load 22 (.tmp 143), 22, "more.go:48", #[⟨2, .data⟩], none⟩) (v := ?g3rv4) rfl (by kernel_rfl) (fun _ _ _ h => h) (by assumption) (by rfl) ?g3ry4 ?g3rr4
              case g3ry4 => intro w hSw; obtain ⟨s0, s1, s2, s3, s4, s5⟩ := hSw; go_simp; try with_reducible rfl
              try simp only [Act.put, List.setIfInBounds_toArray, List.set_cons_zero, List.set_cons_succ]
              refine wpAnyF_take 4 (oi := ⟨some 145, .move (.tmp 15), 3, "more.go:48", #[], none⟩) (v := ?g3rv5) rfl (by kernel_rfl) (fun _ _ _ h => h) (by assumption) (by rfl) ?g3ry5 ?g3rr5
              case g3ry5 => intro w hSw; obtain ⟨s0, s1, s2, s3, s4, s5⟩ := hSw; go_simp; try with_reducible rfl
              try simp only [Act.put, List.setIfInBounds_toArray, List.set_cons_zero, List.set_cons_succ]
              refine wpAnyF_take 5 (oi := ⟨some 146, .indexAddr 22 (.tmp 144) (.tmp 145), 0, "more.go:48", #[⟨3, .data⟩, ⟨4, .data⟩], none⟩) (v := ?g3rv6) rfl (by kernel_rfl) (fun _ _ _ h => h) (by assumption) (by rfl) ?g3ry6 ?g3rr6
              case g3ry6 => intro w hSw; obtain ⟨s0, s1, s2, s3, s4, s5⟩ := hSw; go_simp; try with_reducible rfl
              try simp only [Act.put, List.setIfInBounds_toArray, List.set_cons_zero, List.set_cons_succ]
              refine wpAnyF_take 6 (oi := ⟨some 147, .load 3 (.tmp 146), 3, "more.go:48", #[⟨5, .data⟩], none⟩) (v := ?g3rv7) rfl (by kernel_rfl) (fun _ _ _ h => h) (by assumption) (by rfl) ?g3ry7 ?g3rr7
              case g3ry7 => intro w hSw; obtain ⟨s0, s1, s2, s3, s4, s5⟩ := hSw; go_simp; try with_reducible rfl
              try simp only [Act.put, List.setIfInBounds_toArray, List.set_cons_zero, List.set_cons_succ]
              refine wpAnyF_take 7 (oi := ⟨some 148, .move (.tmp 5), 22, "more.go:48", #[], none⟩) (v := ?g3rv8) rfl (by kernel_rfl) (fun _ _ _ h => h) (by assumption) (by rfl) ?g3ry8 ?g3rr8
              case g3ry8 => intro w hSw; obtain ⟨s0, s1, s2, s3, s4, s5⟩ := hSw; go_simp; try with_reducible rfl
              try simp only [Act.put, List.setIfInBounds_toArray, List.set_cons_zero, List.set_cons_succ]
              refine wpAnyF_take 8 (oi := ⟨some 149, .move (.tmp 15), 3, "more.go:48", #[], none⟩) (v := ?g3rv9) rfl (by kernel_rfl) (fun _ _ _ h => h) (by assumption) (by rfl) ?g3ry9 ?g3rr9
              case g3ry9 => intro w hSw; obtain ⟨s0, s1, s2, s3, s4, s5⟩ := hSw; go_simp; try with_reducible rfl
              try simp only [Act.put, List.setIfInBounds_toArray, List.set_cons_zero, List.set_cons_succ]
              refine wpAnyF_take 9 (oi := ⟨some 150, .indexAddr 22 (.tmp 148) (.tmp 149), 0, "more.go:48", #[⟨7, .data⟩, ⟨8, .data⟩], none⟩) (v := ?g3rv10) rfl (by kernel_rfl) (fun _ _ _ h => h) (by assumption) (by rfl) ?g3ry10 ?g3rr10
              case g3ry10 => intro w hSw; obtain ⟨s0, s1, s2, s3, s4, s5⟩ := hSw; go_simp; try with_reducible rfl
              try simp only [Act.put, List.setIfInBounds_toArray, List.set_cons_zero, List.set_cons_succ]
              refine wpAnyF_take 10 (oi := ⟨some 151, .load 3 (.tmp 150), 3, "more.go:48", #[⟨9, .data⟩], none⟩) (v := ?g3rv11) rfl (by kernel_rfl) (fun _ _ _ h => h) (by assumption) (by rfl) ?g3ry11 ?g3rr11
              case g3ry11 => intro w hSw; obtain ⟨s0, s1, s2, s3, s4, s5⟩ := hSw; go_simp; try with_reducible rfl
              try simp only [Act.put, List.setIfInBounds_toArray, List.set_cons_zero, List.set_cons_succ]
              refine wpAnyF_take 11 (oi := ⟨some 152, .binOp .neq 3 (.tmp 147) (.tmp 151) 3, 4, "more.go:48", #[⟨6, .data⟩, ⟨10, .data⟩], none⟩) (v := ?g3rv12) rfl (by kernel_rfl) (fun _ _ _ h => h) (by assumption) (by rfl) ?g3ry12 ?g3rr12
              case g3ry12 => intro w hSw; obtain ⟨s0, s1, s2, s3, s4, s5⟩ := hSw; go_simp; try with_reducible rfl
              try simp only [Act.put, List.setIfInBounds_toArray, List.set_cons_zero, List.set_cons_succ]
              refine wpAnyF_take 12 (oi := ⟨some 153, .move (.tmp 152), 4, "more.go:48", #[⟨11, .data⟩], none⟩) (v := ?g3rv13) rfl (by kernel_rfl) (fun _ _ _ h => h) (by assumption) (by rfl) ?g3ry13 ?g3rr13
              case g3ry13 => intro w hSw; obtain ⟨s0, s1, s2, s3, s4, s5⟩ := hSw; go_simp; try with_reducible rfl
              try simp only [Act.put, List.setIfInBounds_toArray, List.set_cons_zero, List.set_cons_succ]
              first
                | refine wpAnyF_skip 13 (oi := ⟨some 154, .move (.tmp 13), 34, "more.go:48", #[⟨12, .guard⟩], some (12, false)⟩) rfl (by kernel_rfl) (fun _ _ _ h => h) (by assumption) (by rfl) ?_
                | (refine wpAnyF_take 13 (oi := ⟨some 154, .move (.tmp 13), 34, "more.go:48", #[⟨12, .guard⟩], some (12, false)⟩) (v := ?g3rv14) rfl (by kernel_rfl) (fun _ _ _ h => h) (by assumption) (by rfl) ?g3ry14 ?g3rr14
                   case g3ry14 => intro w hSw; obtain ⟨s0, s1, s2, s3, s4, s5⟩ := hSw; go_simp; try with_reducible rfl)
              try simp only [Act.put, List.setIfInBounds_toArray, List.set_cons_zero, List.set_cons_succ]
              first
                | refine wpAnyF_skip 14 (oi := ⟨some 155, .indexAddr 34 (.tmp 154) (.const (.int .i64 0)), 0, "more.go:48", #[⟨13, .data⟩, ⟨12, .guard⟩], some (12, false)⟩) rfl (by kernel_rfl) (fun _ _ _ h => h) (by assumption) (by rfl) ?_
                | (refine wpAnyF_take 14 (oi := ⟨some 155, .indexAddr 34 (.tmp 154) (.const (.int .i64 0)), 0, "more.go:48", #[⟨13, .data⟩, ⟨12, .guard⟩], some (12, false)⟩) (v := ?g3rv15) rfl (by kernel_rfl) (fun _ _ _ h => h) (by assumption) (by rfl) ?g3ry15 ?g3rr15
                   case g3ry15 => intro w hSw; obtain ⟨s0, s1, s2, s3, s4, s5⟩ := hSw; go_simp; try with_reducible rfl)
              try simp only [Act.put, List.setIfInBounds_toArray, List.set_cons_zero, List.set_cons_succ]
              first
                | refine wpAnyF_skip 15 (oi := ⟨some 156, .fieldAddr 46 (.tmp 155) 1, 0, "more.go:48", #[⟨14, .data⟩, ⟨12, .guard⟩], some (12, false)⟩) rfl (by kernel_rfl) (fun _ _ _ h => h) (by assumption) (by rfl) ?_
                | (refine wpAnyF_take 15 (oi := ⟨some 156, .fieldAddr 46 (.tmp 155) 1, 0, "more.go:48", #[⟨14, .data⟩, ⟨12, .guard⟩], some (12, false)⟩) (v := ?g3rv16) rfl (by kernel_rfl) (fun _ _ _ h => h) (by assumption) (by rfl) ?g3ry16 ?g3rr16
                   case g3ry16 => intro w hSw; obtain ⟨s0, s1, s2, s3, s4, s5⟩ := hSw; go_simp; try with_reducible rfl)
              try simp only [Act.put, List.setIfInBounds_toArray, List.set_cons_zero, List.set_cons_succ]
              first
                | refine wpAnyF_skip 16 (oi := ⟨some 157, .load 22 (.tmp 156), 22, "more.go:48", #[⟨15, .data⟩, ⟨12, .guard⟩], some (12, false)⟩) rfl (by kernel_rfl) (fun _ _ _ h => h) (by assumption) (by rfl) ?_
                | (refine wpAnyF_take 16 (oi := ⟨some 157, .load 22 (.tmp 156), 22, "more.go:48", #[⟨15, .data⟩, ⟨12, .guard⟩], some (12, false)⟩) (v := ?g3rv17) rfl (by kernel_rfl) (fun _ _ _ h => h) (by assumption) (by rfl) ?g3ry17 ?g3rr17
                   case g3ry17 => intro w hSw; obtain ⟨s0, s1, s2, s3, s4, s5⟩ := hSw; go_simp; try with_reducible rfl)
              try simp only [Act.put, List.setIfInBounds_toArray, List.set_cons_zero, List.set_cons_succ]
              first
                | refine wpAnyF_skip 17 (oi := ⟨some 158, .move (.tmp 15), 3, "more.go:48", #[⟨12, .guard⟩], some (12, false)⟩) rfl (by kernel_rfl) (fun _ _ _ h => h) (by assumption) (by rfl) ?_
                | (refine wpAnyF_take 17 (oi := ⟨some 158, .move (.tmp 15), 3, "more.go:48", #[⟨12, .guard⟩], some (12, false)⟩) (v := ?g3rv18) rfl (by kernel_rfl) (fun _ _ _ h => h) (by assumption) (by rfl) ?g3ry18 ?g3rr18
                   case g3ry18 => intro w hSw; obtain ⟨s0, s1, s2, s3, s4, s5⟩ := hSw; go_simp; try with_reducible rfl)
              try simp only [Act.put, List.setIfInBounds_toArray, List.set_cons_zero, List.set_cons_succ]
              first
                | refine wpAnyF_skip 18 (oi := ⟨some 159, .indexAddr 22 (.tmp 157) (.tmp 158), 0, "more.go:48", #[⟨16, .data⟩, ⟨17, .data⟩, ⟨12, .guard⟩], some (12, false)⟩) rfl (by kernel_rfl) (fun _ _ _ h => h) (by assumption) (by rfl) ?_
                | (refine wpAnyF_take 18 (oi := ⟨some 159, .indexAddr 22 (.tmp 157) (.tmp 158), 0, "more.go:48", #[⟨16, .data⟩, ⟨17, .data⟩, ⟨12, .guard⟩], some (12, false)⟩) (v := ?g3rv19) rfl (by kernel_rfl) (fun _ _ _ h => h) (by assumption) (by rfl) ?g3ry19 ?g3rr19
                   case g3ry19 => intro w hSw; obtain ⟨s0, s1, s2, s3, s4, s5⟩ := hSw; go_simp; try with_reducible rfl)
              try simp only [Act.put, List.setIfInBounds_toArray, List.set_cons_zero, List.set_cons_succ]
              first
                | refine wpAnyF_skip 19 (oi := ⟨some 160, .load 3 (.tmp 159), 3, "more.go:48", #[⟨18, .data⟩, ⟨12, .guard⟩], some (12, false)⟩) rfl (by kernel_rfl) (fun _ _ _ h => h) (by assumption) (by rfl) ?_
                | (refine wpAnyF_take 19 (oi := ⟨some 160, .load 3 (.tmp 159), 3, "more.go:48", #[⟨18, .data⟩, ⟨12, .guard⟩], some (12, false)⟩) (v := ?g3rv20) rfl (by kernel_rfl) (fun _ _ _ h => h) (by assumption) (by rfl) ?g3ry20 ?g3rr20
                   case g3ry20 => intro w hSw; obtain ⟨s0, s1, s2, s3, s4, s5⟩ := hSw; go_simp; try with_reducible rfl)
              try simp only [Act.put, List.setIfInBounds_toArray, List.set_cons_zero, List.set_cons_succ]
              first
                | refine wpAnyF_skip 20 (oi := ⟨some 161, .move (.tmp 6), 22, "more.go:48", #[⟨12, .guard⟩], some (12, false)⟩) rfl (by kernel_rfl) (fun _ _ _ h => h) (by assumption) (by rfl) ?_
                | (refine wpAnyF_take 20 (oi := ⟨some 161, .move (.tmp 6), 22, "more.go:48", #[⟨12, .guard⟩], some (12, false)⟩) (v := ?g3rv21) rfl (by kernel_rfl) (fun _ _ _ h => h) (by assumption) (by rfl) ?g3ry21 ?g3rr21
                   case g3ry21 => intro w hSw; obtain ⟨s0, s1, s2, s3, s4, s5⟩ := hSw; go_simp; try with_reducible rfl)
              try simp only [Act.put, List.setIfInBounds_toArray, List.set_cons_zero, List.set_cons_succ]
              first
                | refine wpAnyF_skip 21 (oi := ⟨some 162, .move (.tmp 15), 3, "more.go:48", #[⟨12, .guard⟩], some (12, false)⟩) rfl (by kernel_rfl) (fun _ _ _ h => h) (by assumption) (by rfl) ?_
                | (refine wpAnyF_take 21 (oi := ⟨some 162, .move (.tmp 15), 3, "more.go:48", #[⟨12, .guard⟩], some (12, false)⟩) (v := ?g3rv22) rfl (by kernel_rfl) (fun _ _ _ h => h) (by assumption) (by rfl) ?g3ry22 ?g3rr22
                   case g3ry22 => intro w hSw; obtain ⟨s0, s1, s2, s3, s4, s5⟩ := hSw; go_simp; try with_reducible rfl)
              try simp only [Act.put, List.setIfInBounds_toArray, List.set_cons_zero, List.set_cons_succ]
              first
                | refine wpAnyF_skip 22 (oi := ⟨some 163, .indexAddr 22 (.tmp 161) (.tmp 162), 0, "more.go:48", #[⟨20, .data⟩, ⟨21, .data⟩, ⟨12, .guard⟩], some (12, false)⟩) rfl (by kernel_rfl) (fun _ _ _ h => h) (by assumption) (by rfl) ?_
                | (refine wpAnyF_take 22 (oi := ⟨some 163, .indexAddr 22 (.tmp 161) (.tmp 162), 0, "more.go:48", #[⟨20, .data⟩, ⟨21, .data⟩, ⟨12, .guard⟩], some (12, false)⟩) (v := ?g3rv23) rfl (by kernel_rfl) (fun _ _ _ h => h) (by assumption) (by rfl) ?g3ry23 ?g3rr23
                   case g3ry23 => intro w hSw; obtain ⟨s0, s1, s2, s3, s4, s5⟩ := hSw; go_simp; try with_reducible rfl)
              try simp only [Act.put, List.setIfInBounds_toArray, List.set_cons_zero, List.set_cons_succ]
              first
                | refine wpAnyF_skip 23 (oi := ⟨some 164, .load 3 (.tmp 163), 3, "more.go:48", #[⟨22, .data⟩, ⟨12, .guard⟩], some (12, false)⟩) rfl (by kernel_rfl) (fun _ _ _ h => h) (by assumption) (by rfl) ?_
                | (refine wpAnyF_take 23 (oi := ⟨some 164, .load 3 (.tmp 163), 3, "more.go:48", #[⟨22, .data⟩, ⟨12, .guard⟩], some (12, false)⟩) (v := ?g3rv24) rfl (by kernel_rfl) (fun _ _ _ h => h) (by assumption) (by rfl) ?g3ry24 ?g3rr24
                   case g3ry24 => intro w hSw; obtain ⟨s0, s1, s2, s3, s4, s5⟩ := hSw; go_simp; try with_reducible rfl)
              try simp only [Act.put, List.setIfInBounds_toArray, List.set_cons_zero, List.set_cons_succ]
              first
                | refine wpAnyF_skip 24 (oi := ⟨some 165, .binOp .neq 3 (.tmp 160) (.tmp 164) 3, 4, "more.go:48", #[⟨19, .data⟩, ⟨23, .data⟩, ⟨12, .guard⟩], some (12, false)⟩) rfl (by kernel_rfl) (fun _ _ _ h => h) (by assumption) (by rfl) ?_
                | (refine wpAnyF_take 24 (oi := ⟨some 165, .binOp .neq 3 (.tmp 160) (.tmp 164) 3, 4, "more.go:48", #[⟨19, .data⟩, ⟨23, .data⟩, ⟨12, .guard⟩], some (12, false)⟩) (v := ?g3rv25) rfl (by kernel_rfl) (fun _ _ _ h => h) (by assumption) (by rfl) ?g3ry25 ?g3rr25
                   case g3ry25 => intro w hSw; obtain ⟨s0, s1, s2, s3, s4, s5⟩ := hSw; go_simp; try with_reducible rfl)
              try simp only [Act.put, List.setIfInBounds_toArray, List.set_cons_zero, List.set_cons_succ]
              refine wpAnyF_take 25 (oi := ⟨some 166, .pick (.tmp 153) (.const (.bool true)) (.tmp 165), 4, "more.go:48", #[⟨12, .data⟩, ⟨24, .data⟩], none⟩) (v := ?g3rv26) rfl (by kernel_rfl) (fun _ _ _ h => h) (by assumption) (by rfl) ?g3ry26 ?g3rr26
              case g3ry26 => intro w hSw; obtain ⟨s0, s1, s2, s3, s4, s5⟩ := hSw; go_simp; try with_reducible rfl
              try simp only [Act.put, List.setIfInBounds_toArray, List.set_cons_zero, List.set_cons_succ]
              refine wpAnyF_done (by kernel_rfl) ?_
              clear hHeld hzr hzd
              go_wp2_with fail
              go_roundw
              case rel => exact ⟨j + 1, by go_num, by omega, Lib.hid HBj.out.drew⟩
              case measure => simp [intOf]; omega
            · obtain rfl : j = Cf.length := by omega
              clear hlt
              go_wp2_with fail
              go_loopw [16] (fun iv wq => ∃ j : Nat, iv = .int .i64 (j : Int) ∧ j ≤ (celV Cf).length ∧ Hid (Below wX.heap.size wX wq)) (fun iv _ => (celV Cf).length - (intOf iv).toNat)
              case atStart => exact ⟨0, rfl, Nat.zero_le _, HBj⟩
              case round =>
                obtain ⟨j, rfl, hj2, HBq⟩ := hrel
                by_cases hlt : j < (celV Cf).length
                · obtain ⟨p0, o0, rfl, _, hp0⟩ := HQV.out.pos (by omega)
                  obtain ⟨p2, o2, rfl, _, hp2⟩ := HSVX.out.pos (by omega)
                  have u0 := cb HBq.out (hp0 _ _ (vcs_get (celV Cf) j hlt).1); have u2 := cb HBq.out (hp2 j _ (ns_get (celV Cf) j hlt))
                  have t0 := cb HBq.out HK.out.2.2
                  have HU := Lib.hid (And.intro t0 (And.intro u0 u2))
                  generalize (celV Cf)[j].n = zr at *
                  clear hp0 hp2
                  have hzr : (zr != zr) = false := by simp
                  go_upto_region 37 with fail
                  clear u0 u2 t0
                  refine wp_region_F (fun w' => w'.cell? ⟨b, o + 2, none⟩ = some (.slice (some ⟨p0, o0, none⟩) (celV Cf).length c2') ∧ w'.cell? ⟨p0, o0 + j * 2, none⟩ = some (.int .i64 zr) ∧ w'.cell? ⟨p2, o2 + j, none⟩ = some (.int .i64 zr)) [] (by kernel_rfl) ?g4rgS (fun hHeld => ?g4rgR)
                  case g4rgS => (try dsimp only); (exact HU.out)
                  try dsimp only at hHeld
                  refine wpAnyF_take 0 (oi := ⟨some 173, .move (.tmp 13), 34, "more.go:53", #[], none⟩) (v := ?g4rv1) rfl (by kernel_rfl) (fun _ _ _ h => h) (by assumption) (by rfl) ?g4ry1 ?g4rr1
                  case g4ry1 => intro w hSw; obtain ⟨s0, s1, s2⟩ := hSw; go_simp; try with_reducible rfl
                  try simp only [Act.put, List.setIfInBounds_toArray, List.set_cons_zero, List.set_cons_succ]
                  refine wpAnyF_take 1 (oi := ⟨some 174, .indexAddr 34 (.tmp 173) (.const (.int .i64 0)), 0, "more.go:53", #[⟨0, .data⟩], none⟩) (v := ?g4rv2) rfl (by kernel_rfl) (fun _ _ _ h => h) (by assumption) (by rfl) ?g4ry2 ?g4rr2
                  case g4ry2 => intro w hSw; obtain ⟨s0, s1, s2⟩ := hSw; go_simp; try with_reducible rfl
                  try simp only [Act.put, List.setIfInBounds_toArray, List.set_cons_zero, List.set_cons_succ]
                  refine wpAnyF_take 2 (oi := ⟨some 175, .fieldAddr 46 (.tmp 174) 2, 0, "more.go:53", #[⟨1, .data⟩], none⟩) (v := ?g4rv3) rfl (by kernel_rfl) (fun _ _ _ h => h) (by assumption) (by rfl) ?g4ry3 ?g4rr3
                  case g4ry3 => intro w hSw; obtain ⟨s0, s1, s2⟩ := hSw; go_simp; try with_reducible rfl
                  try simp only [Act.put, List.setIfInBounds_toArray, List.set_cons_zero, List.set_cons_succ]
                  refine wpAnyF_take 3 (oi := ⟨some 176, .load 44 (.tmp 175), 44, "more.go:53", #[⟨2, .data⟩], none⟩) (v := ?g4rv4) rfl (by kernel_rfl) (fun _ _ _ h => h) (by assumption) (by rfl) ?g4ry4 ?g4rr4
                  case g4ry4 => intro w hSw; obtain ⟨s0, s1, s2⟩ := hSw; go_simp; try with_reducible rfl
                  try simp only [Act.put, List.setIfInBounds_toArray, List.set_cons_zero, List.set_cons_succ]
                  refine wpAnyF_take 4 (oi := ⟨some 177, .move (.tmp 16), 3, "more.go:53", #[], none⟩) (v := ?g4rv5) rfl (by kernel_rfl) (fun _ _ _ h => h) (by assumption) (by rfl) ?g4ry5 ?g4rr5
                  case g4ry5 => intro w hSw; obtain ⟨s0, s1, s2⟩ := hSw; go_simp; try with_reducible rfl
                  try simp only [Act.put, List.setIfInBounds_toArray, List.set_cons_zero, List.set_cons_succ]
                  refine wpAnyF_take 5 (oi := ⟨some 178, .indexAddr 44 (.tmp 176) (.tmp 177), 0, "more.go:53", #[⟨3, .data⟩, ⟨4, .data⟩], none⟩) (v := ?g4rv6) rfl (by kernel_rfl) (fun _ _ _ h => h) (by assumption) (by rfl) ?g4ry6 ?g4rr6
                  case g4ry6 => intro w hSw; obtain ⟨s0, s1, s2⟩ := hSw; go_simp; try with_reducible rfl
                  try simp only [Act.put, List.setIfInBounds_toArray, List.set_cons_zero, List.set_cons_succ]
                  refine wpAnyF_take 6 (oi := ⟨some 179, .fieldAddr 54 (.tmp 178) 0, 0, "more.go:53", #[⟨5, .data⟩], none⟩) (v := ?g4rv7) rfl (by kernel_rfl) (fun _ _ _ h => h) (by assumption) (by rfl) ?g4ry7 ?g4rr7
                  case g4ry7 => intro w hSw; obtain ⟨s0, s1, s2⟩ := hSw; go_simp; try with_reducible rfl
                  try simp only [Act.put, List.setIfInBounds_toArray, List.set_cons_zero, List.set_cons_succ]
                  refine wpAnyF_take 7 (oi := ⟨some 180, .load 3 (.tmp 179), 3, "more.go:53", #[⟨6, .data⟩], none⟩) (v := ?g4rv8) rfl (by kernel_rfl) (fun _ _ _ h => h) (by assumption) (by rfl) ?g4ry8 ?g4rr8
                  case g4ry8 => intro w hSw; obtain ⟨s0, s1, s2⟩ := hSw; go_simp; try with_reducible rfl
                  try simp only [Act.put, List.setIfInBounds_toArray, List.set_cons_zero, List.set_cons_succ]
                  refine wpAnyF_take 8 (oi := ⟨some 181, .move (.tmp 7), 22, "more.go:53", #[], none⟩) (v := ?g4rv9) rfl (by kernel_rfl) (fun _ _ _ h => h) (by assumption) (by rfl) ?g4ry9 ?g4rr9
                  case g4ry9 => intro w hSw; obtain ⟨s0, s1, s2⟩ := hSw; go_simp; try with_reducible rfl
                  try simp only [Act.put, List.setIfInBounds_toArray, List.set_cons_zero, List.set_cons_succ]
                  refine wpAnyF_take 9 (oi := ⟨some 182, .move (.tmp 16), 3, "more.go:53", #[], none⟩) (v := ?g4rv10) rfl (by kernel_rfl) (fun _ _ _ h => h) (by assumption) (by rfl) ?g4ry10 ?g4rr10
                  case g4ry10 => intro w hSw; obtain ⟨s0, s1, s2⟩ := hSw; go_simp; try with_reducible rfl
                  try simp only [Act.put, List.setIfInBounds_toArray, List.set_cons_zero, List.set_cons_succ]
                  refine wpAnyF_take 10 (oi := ⟨some 183, .indexAddr 22 (.tmp 181) (.tmp 182), 0, "more.go:53", #[⟨8, .data⟩, ⟨9, .data⟩], none⟩) (v := ?g4rv11) rfl (by kernel_rfl) (fun _ _ _ h => h) (by assumption) (by rfl) ?g4ry11 ?g4rr11
                  case g4ry11 => intro w hSw; obtain ⟨s0, s1, s2⟩ := hSw; go_simp; try with_reducible rfl
                  try simp only [Act.put, List.setIfInBounds_toArray, List.set_cons_zero, List.set_cons_succ]
                  refine wpAnyF_take 11 (oi := ⟨some 184, .load 3 (.tmp 183), 3, "more.go:53", #[⟨10, .data⟩], none⟩) (v := ?g4rv12) rfl (by kernel_rfl) (fun _ _ _ h => h) (by assumption) (by rfl) ?g4ry12 ?g4rr12
                  case g4ry12 => intro w hSw; obtain ⟨s0, s1, s2⟩ := hSw; go_simp; try with_reducible rfl
                  try simp only [Act.put, List.setIfInBounds_toArray, List.set_cons_zero, List.set_cons_succ]
                  refine wpAnyF_take 12 (oi := ⟨some 185, .binOp .neq 3 (.tmp 180) (.tmp 184) 3, 4, "more.go:53", #[⟨7, .data⟩, ⟨11, .data⟩], none⟩) (v := ?g4rv13) rfl (by kernel_rfl) (fun _ _ _ h => h) (by assumption) (by rfl) ?g4ry13 ?g4rr13
                  case g4ry13 => intro w hSw; obtain ⟨s0, s1, s2⟩ := hSw; go_simp; try with_reducible rfl
                  try simp only [Act.put, List.setIfInBounds_toArray, List.set_cons_zero, List.set_cons_succ]
                  refine wpAnyF_done (by kernel_rfl) ?_
                  clear hHeld hzr
                  go_wp2_with fail
                  go_roundw
                  case rel => exact ⟨j + 1, by go_num, by omega, Lib.hid HBq.out.drew⟩
                  case measure => simp [intOf]; omega
                · obtain rfl : j = (celV Cf).length := by omega
                  go_wp2_with fail
                  go_ret
                  exact ⟨rfl, bt HBX.out HBq.out⟩
end Go.Proofs.Ytibhcibcfommeaa
