/-
  Copies of rows of trees; the walk of wire's reader: trees. The walks of wire's reader: trees, list. The walk of wire's reader: tree: leaves. The walk of wire's reader: tree: groups; Parse.
-/
import Derived.Test.YtofhlopedflkiaaRead9
import Derived.Test.YtofhlopedflkiaaMkr2
import Derived.Test.YtofhlopedflkiaaVal9
import Derived.Test.YtofhlopedflkiaaOf9
set_option linter.unusedSimpArgs false
namespace Go.Proofs.Ytofhlopedflkiaa
open Go.RowKit Go.Shr
set_option maxHeartbeats 400000 in
theorem clone_t (ok : Nat → Prop) (a : Option Addr) (n cap : Nat) (xs : List Value) (w : World) (h : Sl ok w 3 a n cap xs) (hx : ∀ u ∈ xs, u.oneCell' = true) (hn : n ≤ 1000000) :
    Calls Try.prog 49 #[.slice a n cap] w fun e w' => ∃ a' cap', e = .returned (.slice a' n cap') ∧ Own w.heap.size w' 35 3 a' n cap' xs ∧ Below w.heap.size w w' := by
  have hnil := fun (w : World) => Lib.run_eql_slice_nil (P := Try.prog) w 28 35 a n cap 0 0 Try.underlying28
  obtain ⟨i0, hi, hz0, hz1, hz2⟩ := info_parts info_tr
  rcases a with _ | a
  · have h0 : n = 0 := by rcases h.row with h0 | ⟨_, _, h1, _⟩; exact h0; cases h1
    subst h0
    have hx0 : xs = [] := List.eq_nil_of_length_eq_zero (by simpa using h.len)
    subst hx0
    have H := Lib.hid h; clear h hx
    go_enter Try.func49, Try.ntmps49
    go_wp2
    go_ret
    exact ⟨none, 0, rfl, Own.nil _ _ _ _, Below.refl _ _⟩
  · have hs := (h.alloc (.cells #[] 35)).src (P := Try.prog) (tx := 28) Try.underlying28 hx
    have HS := Lib.hid hs; clear hs h hx
    go_enter Try.func49, Try.ntmps49
    go_wp2_with (at_builtin; refine wpList_append (B := w.heap.size) rfl _ _ _ _ rfl i0 (.agg #[.int .i64 0, .string ByteArray.empty, .slice none 0 0]) 48 Try.underlying28 hi hz0 hz1 hz2 rfl rfl (Own.bare _ _ _ _ _) _ rfl _ _ HS.out (by simp only [maxLen]; omega) (by omega) (by simp) ?_; intro a' cap' w' hown hchg hnew)
    go_ret
    exact ⟨a', cap', by simp, by simpa using hown, ((Below.refl _ _).alloc (Nat.le_refl _) _).trans (hchg.below (by simp) (fun i hi ⟨_, h2⟩ => by omega))⟩
set_option maxHeartbeats 400000 in
theorem clone_k (ok : Nat → Prop) (a : Option Addr) (n cap : Nat) (xs : List Value) (w : World) (h : Sl ok w 1 a n cap xs) (hx : ∀ u ∈ xs, u.oneCell' = true) (hn : n ≤ 1000000) :
    Calls Try.prog 64 #[.slice a n cap] w fun e w' => ∃ a' cap', e = .returned (.slice a' n cap') ∧ Own w.heap.size w' 28 1 a' n cap' xs ∧ Below w.heap.size w w' := by
  have hnil := fun (w : World) => Lib.run_eql_slice_nil (P := Try.prog) w 33 28 a n cap 0 0 Try.underlying33
  obtain ⟨i0, hi, hz0, hz1, hz2⟩ := info_parts info_ts
  rcases a with _ | a
  · have h0 : n = 0 := by rcases h.row with h0 | ⟨_, _, h1, _⟩; exact h0; cases h1
    subst h0
    have hx0 : xs = [] := List.eq_nil_of_length_eq_zero (by simpa using h.len)
    subst hx0
    have H := Lib.hid h; clear h hx
    go_enter Try.func64, Try.ntmps64
    go_wp2
    go_ret
    exact ⟨none, 0, rfl, Own.nil _ _ _ _, Below.refl _ _⟩
  · have hs := (h.alloc (.cells #[] 28)).src (P := Try.prog) (tx := 33) Try.underlying33 hx
    have HS := Lib.hid hs; clear hs h hx
    go_enter Try.func64, Try.ntmps64
    go_wp2_with (at_builtin; refine wpList_append (B := w.heap.size) rfl _ _ _ _ rfl i0 (.slice none 0 0) 24 Try.underlying33 hi hz0 hz1 hz2 rfl rfl (Own.bare _ _ _ _ _) _ rfl _ _ HS.out (by simp only [maxLen]; omega) (by omega) (by simp) ?_; intro a' cap' w' hown hchg hnew)
    go_ret
    exact ⟨a', cap', by simp, by simpa using hown, ((Below.refl _ _).alloc (Nat.le_refl _) _).trans (hchg.below (by simp) (fun i hi ⟨_, h2⟩ => by omega))⟩
/-- What the reader's tree, list yield. -/
def TreeRd (R : Nat) (sa : Option Addr) (scap bk : Nat) (l : List Fl) (s : Sh) : Prop := ∀ (i : Nat) (bs : List UInt8) (e : Nat) (w : World), Ix l (KF l) i s → RdS R sa scap bk l w bs e →
  Calls Try.prog 48 #[.pointer (some ⟨R, 0, none⟩), .int .i64 i] w fun en w' => ∃ t a cap bs' e', en = .returned (.agg #[.int .i64 t.n, .string t.s, .slice a t.kids.length cap]) ∧ TrG (fun b => w.heap.size ≤ b) w' t [.int .i64 t.n, .string t.s, .slice a t.kids.length cap] ∧ Res e (decT s bs) t bs' e' ∧ RdS R sa scap bk l w' bs' e' ∧ Chg (fun k => k = R) w w'
def ListRd (R : Nat) (sa : Option Addr) (scap bk : Nat) (l : List Fl) (s : Sh) : Prop := ∀ (i : Nat) (bs : List UInt8) (e : Nat) (w : World), Ix l (KF l) i s → RdS R sa scap bk l w bs e →
  Calls Try.prog 63 #[.pointer (some ⟨R, 0, none⟩), .int .i64 i] w fun en w' => ∃ x a cap ys bs' e', en = .returned (.slice a x.length cap) ∧ Sl (fun b => w.heap.size ≤ b) w' 3 a x.length cap ys ∧ RowG (fun b => w.heap.size ≤ b) w' x ys ∧ Res e (decA s bs) x bs' e' ∧ RdS R sa scap bk l w' bs' e' ∧ Chg (fun k => k = R) w w'
/-- How far trees has come. -/
def Way (f : List UInt8 → Rd Tr) (n : Nat) (bs : List UInt8) (e : Nat) (x : List Tr) (bs1 : List UInt8) (e1 : Nat) : Prop :=
  if e = 0 then (e1 = 0 → x.length ≤ n ∧ decX f n bs = (match decX f (n - x.length) bs1 with | .ok (y, r) => .ok (x ++ y, r) | .error z => .error z)) ∧ (e1 ≠ 0 → decX f n bs = .error e1) else e1 = e
theorem Way.start (f : List UInt8 → Rd Tr) (n : Nat) (bs : List UInt8) (e : Nat) : Way f n bs e [] bs e := by
  unfold Way
  by_cases he : e = 0
  · rw [if_pos he]
    refine ⟨fun _ => ⟨Nat.zero_le _, ?_⟩, fun h => absurd he h⟩
    rw [List.length_nil, Nat.sub_zero]
    cases decX f n bs with
    | error z => rfl
    | ok p => rfl
  · rw [if_neg he]
theorem Way.step {f : List UInt8 → Rd Tr} {n : Nat} {bs : List UInt8} {x : List Tr} {bs1 : List UInt8} (h : Way f n bs 0 x bs1 0) (hk : x.length < n) {t : Tr} {bs2 : List UInt8} {e2 : Nat} (hr : Res 0 (f bs1) t bs2 e2) : Way f n bs 0 (x ++ [t]) bs2 e2 := by
  unfold Way at h ⊢
  rw [if_pos rfl] at h ⊢
  unfold Res at hr
  rw [if_pos rfl] at hr
  have h1 := (h.1 rfl).2
  obtain ⟨m, hm⟩ : ∃ m, n - x.length = m + 1 := ⟨n - x.length - 1, by omega⟩
  rw [hm, decX] at h1
  cases hf : f bs1 with
  | error z =>
    rw [hf] at h1 hr
    dsimp only at h1 hr
    obtain ⟨rfl, h3⟩ := hr
    exact ⟨fun h4 => absurd h4 h3, fun _ => h1⟩
  | ok p =>
    obtain ⟨t', r⟩ := p
    rw [hf] at h1 hr
    dsimp only at h1 hr
    obtain ⟨rfl, rfl, rfl⟩ := hr
    refine ⟨fun _ => ⟨by simp; omega, ?_⟩, fun h4 => absurd rfl h4⟩
    rw [h1, show n - (x ++ [t]).length = m by simp; omega]
    cases decX f m bs2 with
    | error z => rfl
    | ok q => simp
theorem Way.done {f : List UInt8 → Rd Tr} {n : Nat} {bs : List UInt8} {e : Nat} {x : List Tr} {bs1 : List UInt8} {e1 : Nat} (h : Way f n bs e x bs1 e1) (hx : e1 = 0 → n ≤ x.length) : Res e (decX f n bs) x bs1 e1 := by
  unfold Way at h
  unfold Res
  by_cases he : e = 0
  · rw [if_pos he] at h ⊢
    by_cases h1 : e1 = 0
    · have h2 := h.1 h1
      have h3 := hx h1
      rw [show n - x.length = 0 by omega, decX] at h2
      rw [h2.2]
      simp [h1]
    · rw [h.2 h1]
      exact ⟨rfl, h1⟩
  · rw [if_neg he] at h ⊢
    exact h
end Go.Proofs.Ytofhlopedflkiaa
namespace Go.Proofs.Ytofhlopedflkiaa
open Go.RowKit Go.Shr
def rdBind {α β : Type} (D : Rd α) (G : α → List UInt8 → Rd β) : Rd β := match D with | .error z => .error z | .ok (a, r) => G a r
theorem decA_eq (s : Sh) (bs : List UInt8) : decA s bs = rdBind (rdCnt s.rep bs) (fun n b1 => decX (decT s) n b1) := by
  unfold decA rdBind
  cases rdCnt s.rep bs <;> rfl
theorem decK_eq (s : Sh) (r : List Sh) (bs : List UInt8) : decK (s :: r) bs = rdBind (decA s bs) (fun x b2 => rdBind (decK r b2) (fun xs b3 => .ok (x :: xs, b3))) := by
  rw [decK, decA]
  unfold rdBind
  cases rdCnt s.rep bs with
  | error z => rfl
  | ok p =>
    obtain ⟨n, b1⟩ := p
    dsimp only
    cases decX (decT s) n b1 with
    | error z => rfl
    | ok q =>
      obtain ⟨x, b2⟩ := q
      dsimp only
      cases decK r b2 <;> rfl
theorem Res.bind {α β : Type} {e : Nat} {D : Rd α} {v : α} {bs1 : List UInt8} {e1 : Nat} (h : Res e D v bs1 e1) {G : α → List UInt8 → Rd β} {u : β} {bs2 : List UInt8} {e2 : Nat} (h2 : Res e1 (G v bs1) u bs2 e2) :
    Res e (rdBind D G) u bs2 e2 := by
  unfold Res at h h2 ⊢
  unfold rdBind
  by_cases he : e = 0
  · rw [if_pos he] at h ⊢
    cases D with
    | error z =>
      dsimp only at h ⊢
      obtain ⟨rfl, h3⟩ := h
      rw [if_neg h3] at h2
      exact ⟨h2, h3⟩
    | ok p =>
      obtain ⟨a, r⟩ := p
      dsimp only at h ⊢
      obtain ⟨rfl, rfl, rfl⟩ := h
      rw [if_pos rfl] at h2
      exact h2
  · rw [if_neg he] at h ⊢
    subst h
    rw [if_neg he] at h2
    exact h2
set_option maxHeartbeats 2000000 in
set_option maxRecDepth 100000 in
theorem trees_rd (R : Nat) (sa : Option Addr) (scap bk : Nat) (l : List Fl) (s : Sh) (hT : TreeRd R sa scap bk l s) (i n : Nat) (hn : n ≤ 1000) (bs : List UInt8) (e : Nat) (w : World) (hix : Ix l (KF l) i s) (hrd : RdS R sa scap bk l w bs e) :
    Calls Try.prog 31 #[.pointer (some ⟨R, 0, none⟩), .int .i64 i, .int .i64 n] w fun en w' => ∃ x a cap ys bs' e', en = .returned (.slice a x.length cap) ∧ Sl (fun b => w.heap.size ≤ b) w' 3 a x.length cap ys ∧ RowG (fun b => w.heap.size ≤ b) w' x ys ∧ Res e (decX (decT s) n bs) x bs' e' ∧ RdS R sa scap bk l w' bs' e' ∧ Chg (fun k => k = R) w w' := by
  obtain ⟨it, hit, hz0t, hz1t, hz2t⟩ := info_parts info_tr
  have HT := Lib.hid hT; have HIX := Lib.hid hix; have HRD := Lib.hid hrd
  have hRw := hrd.lt
  clear hT hix hrd
  go_enter Try.func31, Try.ntmps31
  go_wp2_with fail
  refine wp_gotoloop 0 (fun a' wr => ∃ (x : List Tr) (aL : Option Addr) (cL : Nat) (ys : List Value) (bs1 : List UInt8) (e1 : Nat) (u3 u4 u5 u6 u9 u10 u11 u12 u13 u14 u15 u16 u17 u18 u19 u20 u21 u22 u23 u24 u25 u26 u27 u28 : Value), a' = { tmps := #[.pointer (some ⟨R, 0, none⟩), .int .i64 i, .int .i64 n, u3, u4, u5, u6, .slice aL x.length cL, .int .i64 (x.length : Int), u9, u10, u11, u12, u13, u14, u15, u16, u17, u18, u19, u20, u21, u22, u23, u24, u25, u26, u27, u28], defers := [] } ∧ x.length ≤ n ∧ Hid (ORow 35 w.heap.size wr aL x.length cL x ys) ∧ Hid (RdS R sa scap bk l wr bs1 e1) ∧ Hid (Way (decT s) n bs e x bs1 e1) ∧ Hid (Chg (fun k => k = R) w wr))
    (fun a' _ => n - (intOf (a'.tmps.getD 8 undef)).toNat) rfl ?pass ?first
  case first =>
    intro hp; have HP := Lib.hid hp; clear hp
    apply wp_seq_k; intro K hK; have HK := Lib.hid hK; clear hK
    go_wp2_with fail
    apply HK.out
    apply wp_seq_k; intro K' hK'; have HK' := Lib.hid hK'; clear hK'
    go_wp2_with fail
    apply HK'.out
    refine wp_label_seq (HP.out _ _ ⟨[], none, 0, [], bs, e, _, _, _, _, _, _, _, _, _, _, _, _, _, _, _, _, _, _, _, _, _, _, _, _, rfl, Nat.zero_le _, Lib.hid (ORow.nil _ _ _), HRD, Lib.hid (Way.start _ _ _ _), Lib.hid (Chg.refl _ _)⟩)
  case pass =>
    rintro a' wr ⟨x, aL, cL, ys, bs1, e1, u3, u4, u5, u6, u9, u10, u11, u12, u13, u14, u15, u16, u17, u18, u19, u20, u21, u22, u23, u24, u25, u26, u27, u28, rfl, hx, HO, HR, HW, HC⟩
    have hszr := HC.out.size
    obtain ⟨ba, bcap, r1, _⟩ := HR.out.row
    have q3 : wr.cell? ⟨R, 3, none⟩ = some (.int .i64 (e1 : Int)) := r1.cell 3
    clear r1
    by_cases hgo : x.length < n ∧ e1 = 0
    · obtain ⟨hk, rfl⟩ := hgo
      have hk' : (x.length : Int) < (n : Int) := by omega
      go_wp2_with fail
      refine (HT.out i bs1 0 wr HIX.out HR.out).mono ?_
      rintro en w2 ⟨t, a2, c2, bs2, e2, rfl, ht, hres, hrd2, hc2⟩
      have he0 : Hid (e = 0) := Lib.hid (by
        have h := HW.out
        unfold Way at h
        by_cases he : e = 0
        · exact he
        · rw [if_neg he] at h; omega)
      have HW2 : Hid (Way (decT s) n bs e (x ++ [t]) bs2 e2) := Lib.hid (by
        have h := HW.out
        rw [he0.out] at h ⊢
        exact h.step hk hres)
      have hsz2 := hc2.size
      have hor2 := HO.out.chg hc2 (fun b hb => by omega)
      have HOR2 := Lib.hid (hor2.chg ((Chg.refl (fun _ => False) w2).alloc (.cells #[.int .i64 t.n, .string t.s, .slice a2 t.kids.length c2] 35)) (fun _ _ h => h))
      have hlt2 := HO.out.lt
      have HT2 := Lib.hid (TrG.go (ok' := fun b => w.heap.size ≤ b ∧ ¬ blk aL b) ((Chg.refl (fun _ => False) w2).alloc (.cells #[.int .i64 t.n, .string t.s, .slice a2 t.kids.length c2] 35)) (fun b _ hb => ⟨fun h => h, by omega, fun h => by have := hlt2 b h; omega⟩) ht)
      have HOO := Lib.hid hor2.own
      have HR2 := Lib.hid hrd2; have HC2 := Lib.hid (HC.out.trans hc2 (fun _ _ h => h))
      clear hres hrd2 hc2 ht hor2 hlt2 q3
      have tok1 : True := trivial
      go_wp2_with (first
        | (at_builtin; have _t := tok1; clear tok1; clear _t; refine wpList_append (B := w.heap.size) rfl _ _ _ _ rfl it (.agg #[.int .i64 0, .string ByteArray.empty, .slice none 0 0]) 48 Try.underlying28 hit hz0t hz1t hz2t rfl rfl (HOO.out.alloc _) _ rfl _ _ (src_built (e' := 35) Try.underlying28 w2 #[.int .i64 t.n, .string t.s, .slice a2 t.kids.length c2] 35 1 3 rfl (by simp [Value.oneCell'])) (by simp only [maxLen]; omega) (by omega) (by first | omega | (simp; omega) | simp) ?_; intro a5 cap5 w5 ho5 hc5 hn5); (have HOR5 := Lib.hid (ORow.push HOR2.out HT2.out ho5 hc5 hn5)); (have HC5 := Lib.hid hc5); clear ho5 hc5 hn5
        | fail)
      go_step3
      have hl1 : (x ++ [t]).length = x.length + 1 := by simp
      have hRx : ∀ S : Nat → Prop, (∀ k, S k → w.heap.size ≤ k) → ∀ {W : World}, Chg S (w2.alloc (.cells #[.int .i64 t.n, .string t.s, .slice a2 t.kids.length c2] 35)) W → RdS R sa scap bk l W bs2 e2 ∧ Chg (fun k => k = R) w W := fun S hS W hc => by
        have h1 := HR2.out.below (Go.Shr.ba (b0 w2) (.cells #[.int .i64 t.n, .string t.s, .slice a2 t.kids.length c2] 35))
        obtain ⟨bb, bc, h2, h3⟩ := h1.row
        have hlow : Below w.heap.size (w2.alloc (.cells #[.int .i64 t.n, .string t.s, .slice a2 t.kids.length c2] 35)) W := hc.below (by simp; omega) (fun i hi h => by have := hS i h; omega)
        refine ⟨⟨⟨bb, bc, (hlow.block R hRw).trans h2, h3.chg (Chg.ofBelow hlow) (fun k hk => by omega)⟩, h1.shp.keep (hlow.mono (by omega)), h1.small⟩, (HC2.out.alloc _).trans hc (fun i hi h => by have := hS i h; omega)⟩
      have hq := hRx _ (fun k h => h.2.1) HC5.out
      refine ⟨rfl, ⟨x ++ [t], a5, cap5, ys ++ [.int .i64 t.n, .string t.s, .slice a2 t.kids.length c2], bs2, e2, _, _, _, _, _, _, _, _, _, _, _, _, _, _, _, _, _, _, _, _, _, _, _, _, by rw [hl1]; congr 1, by omega, Lib.hid ?_, Lib.hid hq.1, HW2, Lib.hid hq.2⟩, ?_⟩
      · rw [hl1]; exact HOR5.out
      · simp [intOf]; omega
    · have HRES : Hid (Res e (decX (decT s) n bs) x bs1 e1) := Lib.hid (HW.out.done (fun h => by omega))
      have HOS := Lib.hid HO.out.sl
      have hone := RowG.one' HOS.out.2
      have HONE := Lib.hid hone
      clear hone
      by_cases hk : x.length < n
      · have he1 : e1 ≠ 0 := by omega
        have hk' : (x.length : Int) < (n : Int) := by omega
        have heb : ((e1 : Int) == 0) = false := beq_eq_false_iff_ne.2 (by omega)
        clear hgo he1
        go_wp2_with fail
        refine (clone_t _ aL x.length cL ys wr HOS.out.1 HONE.out (by omega)).mono ?_
        rintro en w2 ⟨a5, c5, rfl, ho5, hb5⟩
        have HO5 := Lib.hid ho5; have HB5 := Lib.hid hb5
        clear ho5 hb5
        go_wp2_with fail
        simp only [Exit.jump]
        go_ret
        exact ⟨x, a5, c5, ys, bs1, e1, rfl, HO5.out.sl.mono (fun k _ h => by omega) (by decide), HOS.out.2.go (Chg.ofBelow HB5.out) (fun k hk h => ⟨by omega, h⟩), HRES.out, HR.out.below HB5.out, HC.out.trans (Chg.ofBelow HB5.out) (fun i hi h => by omega)⟩
      · have hk' : ¬ (x.length : Int) < (n : Int) := by omega
        clear hgo
        go_wp2_with fail
        refine (clone_t _ aL x.length cL ys wr HOS.out.1 HONE.out (by omega)).mono ?_
        rintro en w2 ⟨a5, c5, rfl, ho5, hb5⟩
        have HO5 := Lib.hid ho5; have HB5 := Lib.hid hb5
        clear ho5 hb5
        go_wp2_with fail
        simp only [Exit.jump]
        go_ret
        exact ⟨x, a5, c5, ys, bs1, e1, rfl, HO5.out.sl.mono (fun k _ h => by omega) (by decide), HOS.out.2.go (Chg.ofBelow HB5.out) (fun k hk h => ⟨by omega, h⟩), HRES.out, HR.out.below HB5.out, HC.out.trans (Chg.ofBelow HB5.out) (fun i hi h => by omega)⟩
set_option maxHeartbeats 2000000 in
set_option maxRecDepth 100000 in
theorem list_rd (R : Nat) (sa : Option Addr) (scap bk : Nat) (l : List Fl) (s : Sh) (hT : TreeRd R sa scap bk l s) : ListRd R sa scap bk l s := by
  intro i bs e w hix hrd
  obtain ⟨hil, hrep, _⟩ := hix.at
  have hRw := hrd.lt
  obtain ⟨ba, bcap, r1, _⟩ := hrd.row
  have q0 : w.cell? ⟨R, 0, none⟩ = some (.slice sa l.length scap) := r1.cell 0
  have q1 : w.cell? ⟨R, 1, none⟩ = some (.slice (some ⟨bk, 0, none⟩) l.length l.length) := r1.cell 1
  have hmk := mark_v R sa scap bk l i w hrd.shp hil
  rw [hrep] at hmk
  have HMK := Lib.hid hmk; have HT := Lib.hid hT; have HIX := Lib.hid hix; have HRD := Lib.hid hrd
  clear hmk hT hix hrd r1 hrep
  by_cases h1 : s.rep = 1
  · have hmn : markN s.rep = 63 := by simp [markN, h1]
    have HD : Hid (decA s bs = rdBind (rdBit bs) (fun n b1 => decX (decT s) n b1)) := Lib.hid (by rw [decA_eq, rdCnt, if_pos h1])
    rw [hmn] at HMK
    clear hmn h1
    go_enter Try.func63, Try.ntmps63
    go_wp2_with fail
    refine HMK.out.mono ?_
    rintro en w1 ⟨rfl, hb1⟩
    have HR1 := Lib.hid (HRD.out.below hb1); have HB1 := Lib.hid hb1
    clear hb1 q0 q1
    go_wp2_with fail
    refine (truth_v R sa scap bk l bs e w1 HR1.out).mono ?_
    rintro en w2 ⟨v, bs2, e2, rfl, hv1, hres, hr2, hc2⟩
    have HR2 := Lib.hid hr2; have HRES := Lib.hid hres
    have HC2 := Lib.hid ((Chg.ofBelow HB1.out |>.mono (S' := fun k => k = R) (fun i hi h => by omega)).trans hc2 (fun _ _ h => h))
    have hsz2 := HC2.out.size
    clear hr2 hres hc2
    go_wp2_with fail
    refine (trees_rd R sa scap bk l s HT.out i v (by omega) bs2 e2 w2 HIX.out HR2.out).mono ?_
    rintro en w3 ⟨x, a3, c3, ys, bs3, e3, rfl, hs3, hr3, hres3, hrd3, hc3⟩
    have HS3 := Lib.hid (hs3.mono (ok' := fun b => w.heap.size ≤ b) (fun k _ h => by omega) (by decide)); have HR3 := Lib.hid (hr3.go (ok' := fun b => w.heap.size ≤ b) (Chg.refl (fun _ => False) w3) (fun k _ h => ⟨fun h => h, by omega⟩)); have HRD3 := Lib.hid hrd3; have HC3 := Lib.hid (HC2.out.trans hc3 (fun _ _ h => h))
    have HRES3 : Hid (Res e (decA s bs) x bs3 e3) := Lib.hid (by rw [HD.out]; exact HRES.out.bind hres3)
    clear hs3 hr3 hres3 hrd3 hc3
    go_wp2_with fail
    go_ret
    exact ⟨x, a3, c3, ys, bs3, e3, rfl, HS3.out, HR3.out, HRES3.out, HRD3.out, HC3.out⟩
  · by_cases h2 : s.rep = 2
    · have hmn : markN s.rep = 42 := by simp [markN, h2]
      have HD : Hid (decA s bs = rdBind (rdNum 50 4 bs) (fun n b1 => decX (decT s) n b1)) := Lib.hid (by rw [decA_eq, rdCnt, if_neg h1, if_pos h2])
      rw [hmn] at HMK
      clear hmn h1 h2
      go_enter Try.func63, Try.ntmps63
      go_wp2_with fail
      refine HMK.out.mono ?_
      rintro en w1 ⟨rfl, hb1⟩
      have HR1 := Lib.hid (HRD.out.below hb1); have HB1 := Lib.hid hb1
      clear hb1 q0 q1
      go_wp2_with fail
      refine (number_v R sa scap bk l bs e 50 4 w1 HR1.out (by decide) (by decide)).mono ?_
      rintro en w2 ⟨v, bs2, e2, rfl, hv1, hres, hr2, hc2⟩
      have HR2 := Lib.hid hr2; have HRES := Lib.hid hres
      have HC2 := Lib.hid ((Chg.ofBelow HB1.out |>.mono (S' := fun k => k = R) (fun i hi h => by omega)).trans hc2 (fun _ _ h => h))
      have hsz2 := HC2.out.size
      clear hr2 hres hc2
      go_wp2_with fail
      refine (trees_rd R sa scap bk l s HT.out i v (by omega) bs2 e2 w2 HIX.out HR2.out).mono ?_
      rintro en w3 ⟨x, a3, c3, ys, bs3, e3, rfl, hs3, hr3, hres3, hrd3, hc3⟩
      have HS3 := Lib.hid (hs3.mono (ok' := fun b => w.heap.size ≤ b) (fun k _ h => by omega) (by decide)); have HR3 := Lib.hid (hr3.go (ok' := fun b => w.heap.size ≤ b) (Chg.refl (fun _ => False) w3) (fun k _ h => ⟨fun h => h, by omega⟩)); have HRD3 := Lib.hid hrd3; have HC3 := Lib.hid (HC2.out.trans hc3 (fun _ _ h => h))
      have HRES3 : Hid (Res e (decA s bs) x bs3 e3) := Lib.hid (by rw [HD.out]; exact HRES.out.bind hres3)
      clear hs3 hr3 hres3 hrd3 hc3
      go_wp2_with fail
      go_ret
      exact ⟨x, a3, c3, ys, bs3, e3, rfl, HS3.out, HR3.out, HRES3.out, HRD3.out, HC3.out⟩
    · have hmn : markN s.rep = 49 := by simp [markN, h1, h2]
      have HD : Hid (decA s bs = decX (decT s) 1 bs) := Lib.hid (by rw [decA_eq, rdCnt, if_neg h1, if_neg h2]; rfl)
      rw [hmn] at HMK
      clear hmn h1 h2
      go_enter Try.func63, Try.ntmps63
      go_wp2_with fail
      refine HMK.out.mono ?_
      rintro en w1 ⟨rfl, hb1⟩
      have HR1 := Lib.hid (HRD.out.below hb1); have HB1 := Lib.hid hb1
      have hsz1 := hb1.size
      clear hb1 q0 q1
      go_wp2_with fail
      refine (trees_rd R sa scap bk l s HT.out i 1 (by omega) bs e w1 HIX.out HR1.out).mono ?_
      rintro en w3 ⟨x, a3, c3, ys, bs3, e3, rfl, hs3, hr3, hres3, hrd3, hc3⟩
      have HS3 := Lib.hid (hs3.mono (ok' := fun b => w.heap.size ≤ b) (fun k _ h => by omega) (by decide)); have HR3 := Lib.hid (hr3.go (ok' := fun b => w.heap.size ≤ b) (Chg.refl (fun _ => False) w3) (fun k _ h => ⟨fun h => h, by omega⟩)); have HRD3 := Lib.hid hrd3; have HC3 := Lib.hid ((Chg.ofBelow HB1.out |>.mono (S' := fun k => k = R) (fun i hi h => by omega)).trans hc3 (fun _ _ h => h))
      have HRES3 : Hid (Res e (decA s bs) x bs3 e3) := Lib.hid (by rw [HD.out]; exact hres3)
      clear hs3 hr3 hres3 hrd3 hc3
      go_wp2_with fail
      go_ret
      exact ⟨x, a3, c3, ys, bs3, e3, rfl, HS3.out, HR3.out, HRES3.out, HRD3.out, HC3.out⟩
end Go.Proofs.Ytofhlopedflkiaa
namespace Go.Proofs.Ytofhlopedflkiaa
open Go.RowKit Go.Shr
theorem RdS.low {R : Nat} {sa : Option Addr} {scap bk : Nat} {l : List Fl} {w w' : World} {bs : List UInt8} {e : Nat} (h : RdS R sa scap bk l w bs e) (hb : Below (R + 1) w w') : RdS R sa scap bk l w' bs e := by
  obtain ⟨ba, bcap, h1, h2⟩ := h.row
  exact ⟨⟨ba, bcap, (hb.block R (by omega)).trans h1, h2.chg (Chg.ofBelow hb) (fun k hk => by omega)⟩, h.shp.keep (hb.mono (by omega)), h.small⟩
theorem Res.map {α β : Type} {e : Nat} {D : Rd α} {v : α} {bs' : List UInt8} {e' : Nat} (f : α → β) (h : Res e D v bs' e') : Res e (rdMap f D) (f v) bs' e' := by
  unfold Res at h ⊢
  by_cases he : e = 0
  · rw [if_pos he] at h ⊢
    cases D with
    | error z => exact h
    | ok p =>
      obtain ⟨a, r⟩ := p
      dsimp only at h
      obtain ⟨rfl, h2⟩ := h
      exact ⟨rfl, h2⟩
  · rw [if_neg he] at h ⊢
    exact h
theorem res_fix (n : Nat) (bs : List UInt8) (e : Nat) : Res e (rdFix n bs) (ofLe (takeS n bs e).1) (takeS n bs e).2.1 (takeS n bs e).2.2 := by
  unfold Res takeS rdFix
  by_cases he : e = 0
  · subst he
    by_cases hl : bs.length < n <;> simp [hl]
  · simp [he]
theorem rdStr_eq (bs : List UInt8) : rdStr bs = rdBind (rdNum 100 5 bs) (fun n r => if r.length < n then .error 8 else .ok ((⟨(r.take n).toArray⟩ : ByteArray), r.drop n)) := by
  unfold rdStr rdBind
  cases rdNum 100 5 bs <;> rfl
theorem res_str (n : Nat) (bs : List UInt8) (e : Nat) : Res e (if bs.length < n then .error 8 else .ok ((⟨(bs.take n).toArray⟩ : ByteArray), bs.drop n) : Rd ByteArray) (⟨(takeS n bs e).1.toArray⟩ : ByteArray) (takeS n bs e).2.1 (takeS n bs e).2.2 := by
  unfold Res takeS
  by_cases he : e = 0
  · subst he
    by_cases hl : bs.length < n <;> simp [hl]
  · simp [he]
theorem wrap_i64v (u : Nat) : IntKind.i64.wrap (u : Int) = i64 u := by
  rw [IntKind.wrap_i64]; unfold i64; split <;> omega
theorem wrap_i32v (u : Nat) : IntKind.i64.wrap (IntKind.i32.wrap (u : Int)) = i32 u ∧ IntKind.i32.wrap (u : Int) = i32 u := by
  have h : IntKind.i32.wrap (u : Int) = i32 u := by
    have : ∀ n : Int, IntKind.i32.wrap n = (n + 2147483648) % 4294967296 - 2147483648 := fun n => by
      simp only [IntKind.wrap, IntKind.bits, IntKind.signed]; simp; omega
    rw [this]; unfold i32; split <;> omega
  refine ⟨?_, h⟩
  rw [h, IntKind.wrap_i64]; unfold i32; split <;> omega
/-- What a leaf's value leaves: the result's cell, written. -/
theorem leaf_fin {R : Nat} {sa : Option Addr} {scap bk : Nat} {l : List Fl} {w w1 w2 : World} {bs' : List UInt8} {e' : Nat} (h1 : Below w.heap.size w w1) (hz : w1.heap.size = w.heap.size + 1) (hR : R < w.heap.size) (hc : Chg (fun k => k = R) w1 w2) (hr : RdS R sa scap bk l w2 bs' e') (u0 u1 u2 : Value) :
    RdS R sa scap bk l (((w2.setCell ⟨w.heap.size, 0, none⟩ u0).setCell ⟨w.heap.size, 1, none⟩ u1).setCell ⟨w.heap.size, 2, none⟩ u2) bs' e' ∧ Chg (fun k => k = R) w (((w2.setCell ⟨w.heap.size, 0, none⟩ u0).setCell ⟨w.heap.size, 1, none⟩ u1).setCell ⟨w.heap.size, 2, none⟩ u2) := by
  have hc2 : Chg (fun k => k = w.heap.size) w2 (((w2.setCell ⟨w.heap.size, 0, none⟩ u0).setCell ⟨w.heap.size, 1, none⟩ u1).setCell ⟨w.heap.size, 2, none⟩ u2) := (((Chg.refl (fun k => k = w.heap.size) w2).setCell (p := ⟨w.heap.size, 0, none⟩) (.inr rfl) _).setCell (p := ⟨w.heap.size, 1, none⟩) (.inr rfl) _).setCell (p := ⟨w.heap.size, 2, none⟩) (.inr rfl) _
  have hs := hc.size
  refine ⟨hr.low (hc2.below (by omega) (fun i hi h => by omega)), ?_⟩
  exact (((Chg.ofBelow h1).mono (S' := fun k => k = R) (fun i hi h => by omega)).trans hc (fun _ _ h => h)).trans hc2 (fun i hi h => by omega)
set_option maxHeartbeats 2000000 in
set_option maxRecDepth 100000 in
theorem leaf_rd (R : Nat) (sa : Option Addr) (scap bk : Nat) (l : List Fl) (nm : ByteArray) (rp kd : Int) (ks : List Sh) (hkd : kd = 1 ∨ kd = 2 ∨ kd = 3 ∨ kd = 4) : TreeRd R sa scap bk l (.mk nm rp kd ks) := by
  intro i bs e w hix hrd
  have hRw := hrd.lt
  simp only [Ix] at hix
  obtain ⟨hil, hie⟩ := List.getElem?_eq_some_iff.1 hix.1
  obtain ⟨_, _, f2, _⟩ := fls_get l i hil
  rw [hie] at f2
  dsimp only at f2
  obtain ⟨sb, soff, rfl, hsb, hsc⟩ := hrd.shp.sl.pos (by omega)
  replace f2 := hsc _ _ f2
  rw [← Nat.add_assoc] at f2
  obtain ⟨ba', bcap, r1, _⟩ := hrd.row
  obtain ⟨wx, hwx⟩ : ∃ wx, wx = w.alloc (.cells #[.int .i64 0, .string ⟨#[]⟩, .slice none 0 0] 35) := ⟨_, rfl⟩
  have hbx : Below w.heap.size w wx := by rw [hwx]; exact ba (b0 w) _
  have hzx : wx.heap.size = w.heap.size + 1 := by rw [hwx]; simp
  have rT : Rw wx w.heap.size #[.int .i64 0, .string ⟨#[]⟩, .slice none 0 0] 35 := by rw [hwx]; exact Rw.new w _ _
  have rx := r1.below hbx
  have q0 : wx.cell? ⟨R, 0, none⟩ = some (.slice (some ⟨sb, soff, none⟩) l.length scap) := rx.cell 0
  replace f2 := cb hbx f2
  have HRX := Lib.hid (hrd.below hbx); have HBX := Lib.hid hbx; have HZX := Lib.hid hzx; have HRT := Lib.hid rT
  have hi0' : (0 : Int) ≤ (i : Int) := by omega
  have hi1' : (i : Int) < (l.length : Int) := by omega
  clear hsc hix hrd r1 rx hbx hzx rT hie
  go_enter Try.func48, Try.ntmps48
  go_upto_region 1 with fail
  rw [← hwx]; clear hwx
  rcases hkd with rfl | rfl | rfl | rfl
  · have HE : Hid (decT (.mk nm rp 1 ks) bs = rdMap (fun (v : Nat) => .mk (v : Int) ⟨#[]⟩ []) (rdBit bs)) := Lib.hid (by rw [decT, if_pos rfl])
    go_wp2_with fail
    refine (truth_v R _ scap bk l bs e wx HRX.out).mono ?_
    rintro en w2 ⟨v, bs2, e2, rfl, hv1, hres, hr2, hc2⟩
    have HR2 := Lib.hid hr2; have HRES := Lib.hid hres; have HC2 := Lib.hid hc2
    have rT2 := HRT.out.chg hc2 (by omega)
    have RT2 := Lib.hid rT2
    have z0 : w2.cell? ⟨w.heap.size, 0, none⟩ = some (.int .i64 0) := rT2.cell 0
    have z1 : w2.cell? ⟨w.heap.size, 1, none⟩ = some (.string ⟨#[]⟩) := rT2.cell 1
    have z2 : w2.cell? ⟨w.heap.size, 2, none⟩ = some (.slice none 0 0) := rT2.cell 2
    have zf := rT2.frozen
    have zl := rT2.lt
    clear hr2 hres hc2 rT2 q0 f2
    go_wp2_with fail
    clear z0 z1 z2 zf
    have hq := RT2.out.set3 (u0 := .int .i64 (v : Int)) (u1 := .string ⟨#[]⟩) (u2 := .slice none 0 0)
    have z0 := hq.cell 0; have z1 := hq.cell 1; have z2 := hq.cell 2
    have hf := leaf_fin HBX.out HZX.out hRw HC2.out HR2.out (.int .i64 (v : Int)) (.string ⟨#[]⟩) (.slice none 0 0)
    refine bodyPost_ret (v := .agg #[.int .i64 (v : Int), .string ⟨#[]⟩, .slice none 0 0]) (by simp [results, Try.results48, go_sem, z0, z1, z2]) rfl ?_
    exact ⟨.mk (v : Int) ⟨#[]⟩ [], none, 0, bs2, e2, rfl, TrG.leaf (by decide), by rw [HE.out]; exact HRES.out.map (fun (v : Nat) => Tr.mk (v : Int) ⟨#[]⟩ []), hf.1, hf.2⟩
  · have HE : Hid (decT (.mk nm rp 2 ks) bs = rdMap (fun v => .mk (i32 v) ⟨#[]⟩ []) (rdFix 4 bs)) := Lib.hid (by rw [decT, if_neg (by decide), if_pos rfl])
    go_wp2_with fail
    refine (fixed_v R _ scap bk l bs e 4 wx HRX.out (by decide) (by decide)).mono ?_
    rintro en w2 ⟨rfl, hr2, hc2⟩
    have hres := res_fix 4 bs e
    have hwi := wrap_i32v (ofLe (takeS 4 bs e).1)
    generalize ofLe (takeS 4 bs e).1 = v at *
    generalize (takeS 4 bs e).2.1 = bs2 at *
    generalize (takeS 4 bs e).2.2 = e2 at *
    have HR2 := Lib.hid hr2; have HRES := Lib.hid hres; have HC2 := Lib.hid hc2
    have rT2 := HRT.out.chg hc2 (by omega)
    have RT2 := Lib.hid rT2
    have z0 : w2.cell? ⟨w.heap.size, 0, none⟩ = some (.int .i64 0) := rT2.cell 0
    have z1 : w2.cell? ⟨w.heap.size, 1, none⟩ = some (.string ⟨#[]⟩) := rT2.cell 1
    have z2 : w2.cell? ⟨w.heap.size, 2, none⟩ = some (.slice none 0 0) := rT2.cell 2
    have zf := rT2.frozen
    have zl := rT2.lt
    have hw1 := hwi.1; have hw2 := hwi.2
    rw [hw2] at hw1
    clear hr2 hres hc2 rT2 q0 f2 hwi
    go_wp2_with fail
    clear z0 z1 z2 zf
    have hq := RT2.out.set3 (u0 := .int .i64 (i32 v)) (u1 := .string ⟨#[]⟩) (u2 := .slice none 0 0)
    have z0 := hq.cell 0; have z1 := hq.cell 1; have z2 := hq.cell 2
    have hf := leaf_fin HBX.out HZX.out hRw HC2.out HR2.out (.int .i64 (i32 v)) (.string ⟨#[]⟩) (.slice none 0 0)
    refine bodyPost_ret (v := .agg #[.int .i64 (i32 v), .string ⟨#[]⟩, .slice none 0 0]) (by simp [results, Try.results48, go_sem, z0, z1, z2]) rfl ?_
    exact ⟨.mk (i32 v) ⟨#[]⟩ [], none, 0, bs2, e2, rfl, TrG.leaf (by decide), by rw [HE.out]; exact HRES.out.map (fun v => Tr.mk (i32 v) ⟨#[]⟩ []), hf.1, hf.2⟩
  · have HE : Hid (decT (.mk nm rp 3 ks) bs = rdMap (fun v => .mk (i64 v) ⟨#[]⟩ []) (rdFix 8 bs)) := Lib.hid (by rw [decT, if_neg (by decide), if_neg (by decide), if_pos rfl])
    go_wp2_with fail
    refine (fixed_v R _ scap bk l bs e 8 wx HRX.out (by decide) (by decide)).mono ?_
    rintro en w2 ⟨rfl, hr2, hc2⟩
    have hres := res_fix 8 bs e
    have hw1 := wrap_i64v (ofLe (takeS 8 bs e).1)
    generalize ofLe (takeS 8 bs e).1 = v at *
    generalize (takeS 8 bs e).2.1 = bs2 at *
    generalize (takeS 8 bs e).2.2 = e2 at *
    have HR2 := Lib.hid hr2; have HRES := Lib.hid hres; have HC2 := Lib.hid hc2
    have rT2 := HRT.out.chg hc2 (by omega)
    have RT2 := Lib.hid rT2
    have z0 : w2.cell? ⟨w.heap.size, 0, none⟩ = some (.int .i64 0) := rT2.cell 0
    have z1 : w2.cell? ⟨w.heap.size, 1, none⟩ = some (.string ⟨#[]⟩) := rT2.cell 1
    have z2 : w2.cell? ⟨w.heap.size, 2, none⟩ = some (.slice none 0 0) := rT2.cell 2
    have zf := rT2.frozen
    have zl := rT2.lt
    clear hr2 hres hc2 rT2 q0 f2
    go_wp2_with fail
    clear z0 z1 z2 zf
    have hq := RT2.out.set3 (u0 := .int .i64 (i64 v)) (u1 := .string ⟨#[]⟩) (u2 := .slice none 0 0)
    have z0 := hq.cell 0; have z1 := hq.cell 1; have z2 := hq.cell 2
    have hf := leaf_fin HBX.out HZX.out hRw HC2.out HR2.out (.int .i64 (i64 v)) (.string ⟨#[]⟩) (.slice none 0 0)
    refine bodyPost_ret (v := .agg #[.int .i64 (i64 v), .string ⟨#[]⟩, .slice none 0 0]) (by simp [results, Try.results48, go_sem, z0, z1, z2]) rfl ?_
    exact ⟨.mk (i64 v) ⟨#[]⟩ [], none, 0, bs2, e2, rfl, TrG.leaf (by decide), by rw [HE.out]; exact HRES.out.map (fun v => Tr.mk (i64 v) ⟨#[]⟩ []), hf.1, hf.2⟩
  · have HE : Hid (decT (.mk nm rp 4 ks) bs = rdMap (fun s => .mk 0 s []) (rdStr bs)) := Lib.hid (by rw [decT, if_neg (by decide), if_neg (by decide), if_neg (by decide), if_pos rfl])
    go_wp2_with fail
    refine (number_v R _ scap bk l bs e 100 5 wx HRX.out (by decide) (by decide)).mono ?_
    rintro en w1 ⟨n, bs1, e1, rfl, hn1, hres1, hr1, hc1⟩
    have HR1 := Lib.hid hr1; have HRES1 := Lib.hid hres1; have HC1 := Lib.hid hc1
    clear hr1 hres1 hc1 q0 f2
    go_wp2_with fail
    refine (take_v R _ scap bk l bs1 e1 n w1 HR1.out (by omega)).mono ?_
    rintro en w2 ⟨a2, c2, rfl, hs2, hr2, hc2⟩
    have hres := res_str n bs1 e1
    have hdl := takeS_len n bs1 e1
    have hsm := HR1.out.small
    generalize (takeS n bs1 e1).1 = ds at *
    generalize (takeS n bs1 e1).2.1 = bs2 at *
    generalize (takeS n bs1 e1).2.2 = e2 at *
    have cv := hs2.toString (P := Try.prog) Try.underlying30 Try.underlying5 Try.underlying9
    have HR2 := Lib.hid hr2; have HRES := Lib.hid hres; have HC2 := Lib.hid (HC1.out.trans hc2 (fun _ _ h => h))
    have rT2 := HRT.out.chg HC2.out (by omega)
    have RT2 := Lib.hid rT2
    have z0 : w2.cell? ⟨w.heap.size, 0, none⟩ = some (.int .i64 0) := rT2.cell 0
    have z1 : w2.cell? ⟨w.heap.size, 1, none⟩ = some (.string ⟨#[]⟩) := rT2.cell 1
    have z2 : w2.cell? ⟨w.heap.size, 2, none⟩ = some (.slice none 0 0) := rT2.cell 2
    have zf := rT2.frozen
    have zl := rT2.lt
    clear hr2 hres hc2 rT2 hs2
    go_wp2_with fail
    clear z0 z1 z2 zf cv
    have hq := RT2.out.set3 (u0 := .int .i64 0) (u1 := .string ⟨ds.toArray⟩) (u2 := .slice none 0 0)
    have z0 := hq.cell 0; have z1 := hq.cell 1; have z2 := hq.cell 2
    have hf := leaf_fin HBX.out HZX.out hRw HC2.out HR2.out (.int .i64 0) (.string ⟨ds.toArray⟩) (.slice none 0 0)
    refine bodyPost_ret (v := .agg #[.int .i64 0, .string ⟨ds.toArray⟩, .slice none 0 0]) (by simp [results, Try.results48, go_sem, z0, z1, z2]) rfl ?_
    have hds : (⟨ds.toArray⟩ : ByteArray).size ≤ maxLen := by
      have : (⟨ds.toArray⟩ : ByteArray).size = ds.length := by simp [ByteArray.size]
      rw [this]; unfold maxLen; omega
    exact ⟨.mk 0 ⟨ds.toArray⟩ [], none, 0, bs2, e2, rfl, TrG.leaf hds, by rw [HE.out, rdStr_eq]; exact (HRES1.out.bind HRES.out).map (fun s => Tr.mk 0 s []), hf.1, hf.2⟩
end Go.Proofs.Ytofhlopedflkiaa
namespace Go.Proofs.Ytofhlopedflkiaa
open Go.RowKit Go.Shr
/-- How far the fields of a group have come. -/
def WayK (ks : List Sh) (bs : List UInt8) (e : Nat) (j : Nat) (xs : List (List Tr)) (bs1 : List UInt8) (e1 : Nat) : Prop :=
  if e = 0 then (e1 = 0 → decK ks bs = rdBind (decK (ks.drop j) bs1) (fun ys r => .ok (xs ++ ys, r))) ∧ (e1 ≠ 0 → decK ks bs = .error e1) else e1 = e
theorem _root_.Go.Shr.OKid.below' {e : TypeId} {B : Nat} {w w' : World} {a : Option Addr} {n cap : Nat} {l : List (List Tr)} {ys : List Value} (h : OKid e B w a n cap l ys) (hb : Below w.heap.size w w') : OKid e B w' a n cap l ys :=
  ⟨h.own.below hb, h.kid.go (Chg.ofBelow hb) (fun k hk h => ⟨by omega, h⟩), fun b h2 => Nat.lt_of_lt_of_le (h.lt b h2) hb.size, h.len⟩
theorem WayK.start (ks : List Sh) (bs : List UInt8) (e : Nat) : WayK ks bs e 0 [] bs e := by
  unfold WayK
  by_cases he : e = 0
  · rw [if_pos he]
    refine ⟨fun _ => ?_, fun h => absurd he h⟩
    rw [List.drop_zero]
    cases decK ks bs <;> rfl
  · rw [if_neg he]
theorem WayK.step {ks : List Sh} {bs : List UInt8} {e j : Nat} {xs : List (List Tr)} {bs1 : List UInt8} {e1 : Nat} (h : WayK ks bs e j xs bs1 e1) {s : Sh} (hd : ks.drop j = s :: ks.drop (j + 1)) {x : List Tr} {bs2 : List UInt8} {e2 : Nat} (hr : Res e1 (decA s bs1) x bs2 e2) : WayK ks bs e (j + 1) (xs ++ [x]) bs2 e2 := by
  unfold WayK at h ⊢
  unfold Res at hr
  by_cases he : e = 0
  · rw [if_pos he] at h ⊢
    by_cases h1 : e1 = 0
    · rw [if_pos h1] at hr
      have h2 := h.1 h1
      rw [hd, decK_eq] at h2
      cases hA : decA s bs1 with
      | error z =>
        rw [hA] at hr h2
        dsimp only at hr
        obtain ⟨rfl, h3⟩ := hr
        exact ⟨fun h4 => absurd h4 h3, fun _ => h2⟩
      | ok p =>
        obtain ⟨x', r⟩ := p
        rw [hA] at hr h2
        dsimp only at hr
        obtain ⟨rfl, rfl, rfl⟩ := hr
        refine ⟨fun _ => ?_, fun h4 => absurd rfl h4⟩
        rw [h2]
        simp only [rdBind]
        cases decK (ks.drop (j + 1)) bs2 with
        | error z => rfl
        | ok q => simp
    · rw [if_neg h1] at hr
      subst hr
      exact ⟨fun h4 => absurd h4 h1, h.2⟩
  · rw [if_neg he] at h ⊢
    subst h
    rw [if_neg he] at hr
    exact hr
theorem WayK.done {ks : List Sh} {bs : List UInt8} {e : Nat} {xs : List (List Tr)} {bs1 : List UInt8} {e1 : Nat} (h : WayK ks bs e ks.length xs bs1 e1) : Res e (decK ks bs) xs bs1 e1 := by
  unfold WayK at h
  unfold Res
  by_cases he : e = 0
  · rw [if_pos he] at h ⊢
    by_cases h1 : e1 = 0
    · have h2 := h.1 h1
      rw [List.drop_length] at h2
      rw [h2]
      simp [rdBind, decK, h1]
    · rw [h.2 h1]
      exact ⟨rfl, h1⟩
  · rw [if_neg he] at h ⊢
    exact h
set_option maxHeartbeats 4000000 in
set_option maxRecDepth 100000 in
theorem grp_rd (R : Nat) (sa : Option Addr) (scap bk : Nat) (l : List Fl) (nm : ByteArray) (rp kd : Int) (ks : List Sh) (hk1 : kd ≠ 1) (hk2 : kd ≠ 2) (hk3 : kd ≠ 3) (hk4 : kd ≠ 4) (hlen : l.length ≤ 1000) (hL : ∀ s ∈ ks, ListRd R sa scap bk l s) : TreeRd R sa scap bk l (.mk nm rp kd ks) := by
  intro i bs e w hix hrd
  obtain ⟨ik, hik, hz0k, hz1k, hz2k⟩ := info_parts info_ts
  have hRw := hrd.lt
  simp only [Ix] at hix
  obtain ⟨hix1, hix2, hix3⟩ := hix
  obtain ⟨hil, hie⟩ := List.getElem?_eq_some_iff.1 hix1
  obtain ⟨_, _, f2, _⟩ := fls_get l i hil
  rw [hie] at f2
  dsimp only at f2
  obtain ⟨sb, soff, rfl, hsb, hsc⟩ := hrd.shp.sl.pos (by omega)
  replace f2 := hsc _ _ f2
  rw [← Nat.add_assoc] at f2
  obtain ⟨ka, kc, k1, k2⟩ := hrd.shp.kids i hil
  have hbk := hrd.shp.bk
  obtain ⟨ba', bcap, r1, _⟩ := hrd.row
  obtain ⟨wx, hwx⟩ : ∃ wx, wx = (w.alloc (.cells #[.int .i64 0, .string ⟨#[]⟩, .slice none 0 0] 35)).alloc (.cells #[.int .i64 0, .string ⟨#[]⟩, .slice none 0 0] 35) := ⟨_, rfl⟩
  have hbx : Below w.heap.size w wx := by rw [hwx]; exact ba (ba (b0 w) _) _
  have hzx : wx.heap.size = w.heap.size + 1 + 1 := by rw [hwx]; simp
  have rO : Rw wx w.heap.size #[.int .i64 0, .string ⟨#[]⟩, .slice none 0 0] 35 := by rw [hwx]; exact (Rw.new w _ _).alloc _
  have rT : Rw wx (w.heap.size + 1) #[.int .i64 0, .string ⟨#[]⟩, .slice none 0 0] 35 := by rw [hwx]; exact Rw.new' (by simp)
  have r1w : Rw (w.alloc (.cells #[.int .i64 0, .string ⟨#[]⟩, .slice none 0 0] 35)) R _ _ := r1.alloc _
  have q0 : (w.alloc (.cells #[.int .i64 0, .string ⟨#[]⟩, .slice none 0 0] 35)).cell? ⟨R, 0, none⟩ = some (.slice (some ⟨sb, soff, none⟩) l.length scap) := r1w.cell 0
  have f2w := cb (ba (b0 w) (.cells #[.int .i64 0, .string ⟨#[]⟩, .slice none 0 0] 35)) f2
  have rx := r1.below hbx
  have q1 : wx.cell? ⟨R, 1, none⟩ = some (.slice (some ⟨bk, 0, none⟩) l.length l.length) := rx.cell 1
  replace k1 := cb hbx k1
  have hkl : (KF l i).length = ks.length := by rw [hix2, offs_len]
  have hksl : ks.length ≤ 1000 := by have := kidsOf_len (par l) (i : Int); rw [par_length] at this; have h2 : (KF l i).length = (kidsOf (par l) (i : Int)).length := rfl; omega
  rw [hkl] at k1 k2
  rw [hix2] at k2
  have HK2 := Lib.hid k2; have HIX := Lib.hid hix3
  have HRX := Lib.hid (hrd.below hbx); have HBX := Lib.hid hbx; have HZX := Lib.hid hzx; have HRO := Lib.hid rO; have HRT := Lib.hid rT; have HL := Lib.hid hL
  have hi0' : (0 : Int) ≤ (i : Int) := by omega
  have hi1' : (i : Int) < (l.length : Int) := by omega
  have b1 : (kd == 1) = false := beq_eq_false_iff_ne.2 hk1
  have b2 : (kd == 2) = false := beq_eq_false_iff_ne.2 hk2
  have b3 : (kd == 3) = false := beq_eq_false_iff_ne.2 hk3
  have b4 : (kd == 4) = false := beq_eq_false_iff_ne.2 hk4
  have HE : Hid (decT (.mk nm rp kd ks) bs = rdMap (fun k => .mk 0 ⟨#[]⟩ k) (decK ks bs)) := Lib.hid (by rw [decT, if_neg hk1, if_neg hk2, if_neg hk3, if_neg hk4])
  clear hsc hix1 hix2 hix3 hrd r1 r1w rx hbx hzx rT rO hie hL k2 hkl hk1 hk2 hk3 hk4 f2
  go_enter Try.func48, Try.ntmps48
  go_upto_region 11 with fail
  rw [← hwx]; clear hwx q0 f2w b1 b2 b3 b4
  go_wp2_with fail
  clear q1 k1
  obtain ⟨T, hT⟩ : ∃ T, T = w.heap.size + 1 := ⟨_, rfl⟩
  rw [← hT] at HRT HZX ⊢
  have hTw : w.heap.size < T := by omega
  have HTE := Lib.hid hT
  clear hT
  go_loopw [52] (fun iv wr => ∃ (j : Nat) (aK : Option Addr) (cK : Nat) (kks : List (List Tr)) (xs : List Value) (bs1 : List UInt8) (e1 : Nat), iv = .int .i64 (j : Int) ∧ j ≤ ks.length ∧ Hid (Rw wr T #[.int .i64 0, .string ⟨#[]⟩, .slice aK j cK] 35) ∧ Hid (OKid 28 (T + 1) wr aK j cK kks xs) ∧ Hid (RdS R (some ⟨sb, soff, none⟩) scap bk l wr bs1 e1) ∧ Hid (WayK ks bs e j kks bs1 e1) ∧ Hid (Chg (fun k => k = R) w wr) ∧ Hid (Rw wr w.heap.size #[.int .i64 0, .string ⟨#[]⟩, .slice none 0 0] 35)) (fun iv _ => ks.length - (intOf iv).toNat)
  case atStart => exact ⟨0, none, 0, [], [], bs, e, rfl, Nat.zero_le _, HRT, Lib.hid (OKid.nil _ _ _), HRX, Lib.hid (WayK.start _ _ _), Lib.hid ((Chg.ofBelow HBX.out).mono (fun i hi h => by omega)), HRO⟩
  case round =>
    clear HRT HRX HRO
    obtain ⟨j, aK, cK, kks, xs, bs1, e1, rfl, hj, RT, HOK, HRD, HW, HC, RO⟩ := hrel
    have hszr := HC.out.size
    have tl := RT.out.lt
    by_cases hlt : j < ks.length
    · obtain ⟨jb, joff, hja, hjb, hjc⟩ := HK2.out.pos (by omega)
      have hol : j < (offs (i + 1) ks).length := by rw [offs_len]; exact hlt
      have hlowR : Below R w wr := HC.out.below (by omega) (fun i hi h => by omega)
      have g1 := (Chg.ofBelow hlowR).keep (hjc _ _ (ints_get (offs (i + 1) ks) j hol)) (by omega)
      obtain ⟨o, ho, hixo⟩ := ixL_at ks (i + 1) j hlt HIX.out
      have hoe : (offs (i + 1) ks)[j] = (o : Int) := by rw [List.getElem?_eq_getElem hol] at ho; exact Option.some.inj ho
      rw [hoe] at g1
      have t2 : wr.cell? ⟨T, 2, none⟩ = some (.slice aK j cK) := RT.out.cell 2
      have HLS := Lib.hid (HL.out _ (List.getElem_mem hlt))
      have HDR : Hid (ks.drop j = ks[j] :: ks.drop (j + 1)) := Lib.hid (List.drop_eq_getElem_cons hlt)
      have HIXO := Lib.hid hixo
      generalize ks[j] = s at *
      have HT2 := Lib.hid t2
      subst hja
      clear hjc ho hoe hol hixo hlowR
      go_wp2_with fail
      have r5 := RT.out; have hokr := HOK.out
      refine Go.Shr.wp_region_F (fun w' => w'.cell? ⟨T, 2, none⟩ = some (.slice aK j cK)) [8] (by kernel_rfl) ?g5rgS (fun hHeld => ?g5rgR)
      case g5rgS => (try dsimp only); (first | exact HT2.out | exact r5.cell 2)
      try dsimp only at hHeld
      obtain ⟨W, hW⟩ : ∃ W, W = wr.drew := ⟨_, rfl⟩; rw [← hW] at hHeld ⊢; (have hrdW : RdS R (some ⟨sb, soff, none⟩) scap bk l W bs1 e1 := by rw [hW]; exact HRD.out.below (b0 wr).drew); (have hcW : Chg (fun k => k = R) w W := by rw [hW]; exact HC.out.drew); (replace r5 := Rw.ren hW r5.drew); (have hokW : OKid 28 (T + 1) W aK j cK kks xs := by rw [hW]; exact hokr.chg (Chg.refl (fun _ => False) wr).drew (fun _ _ h => h)); (have roW := Rw.ren hW RO.out.drew); clear hW
      refine Go.Shr.wpAnyF_take 0 (oi := { dst := some 56, op := Go.Op.fieldAddr 35 (Go.Operand.tmp 5) 2, type := 0, pos := "wire.go:167", after := #[], guard := none }) (v := ?g5rv1) rfl (by kernel_rfl) (fun _ _ _ h => h) (by assumption) (by rfl) ?g5ry1 ?g5rr1
      case g5ry1 => intro w hSw; have s1 := hSw; go_simp; try with_reducible rfl
      try simp only [Act.put, List.setIfInBounds_toArray, List.set_cons_zero, List.set_cons_succ]
      refine Go.Shr.wpAnyF_take 1 (oi := { dst := some 57, op := Go.Op.load 33 (Go.Operand.tmp 56), type := 33, pos := "wire.go:167", after := #[{ on := 0, ground := Go.Ground.data }], guard := none }) (v := ?g5rv2) rfl (by kernel_rfl) (fun _ _ _ h => h) (by assumption) (by rfl) ?g5ry2 ?g5rr2
      case g5ry2 => intro w hSw; have s1 := hSw; go_simp; try with_reducible rfl
      try simp only [Act.put, List.setIfInBounds_toArray, List.set_cons_zero, List.set_cons_succ]
      refine Go.Shr.wpAnyF_take 2 (oi := { dst := some 58, op := Go.Op.move (Go.Operand.tmp 0), type := 67, pos := "wire.go:167", after := #[], guard := none }) (v := ?g5rv3) rfl (by kernel_rfl) (fun _ _ _ h => h) (by assumption) (by rfl) ?g5ry3 ?g5rr3
      case g5ry3 => intro w hSw; have s1 := hSw; go_simp; try with_reducible rfl
      try simp only [Act.put, List.setIfInBounds_toArray, List.set_cons_zero, List.set_cons_succ]
      refine Go.Shr.wpAnyF_take 3 (oi := { dst := some 59, op := Go.Op.move (Go.Operand.tmp 7), type := 3, pos := "wire.go:167", after := #[], guard := none }) (v := ?g5rv4) rfl (by kernel_rfl) (fun _ _ _ h => h) (by assumption) (by rfl) ?g5ry4 ?g5rr4
      case g5ry4 => intro w hSw; have s1 := hSw; go_simp; try with_reducible rfl
      try simp only [Act.put, List.setIfInBounds_toArray, List.set_cons_zero, List.set_cons_succ]
      refine Go.Shr.wpAnyF_ready [4] (by kernel_rfl) (by simp) ?_
      refine Go.Shr.AllReadyF.cons 4 (o := { dst := some 60, op := Go.Op.call { callee := Go.Callee.value (Go.Operand.func 63), args := #[Go.Operand.tmp 58, Go.Operand.tmp 59], argTypes := #[67, 3] }, type := 28, pos := "wire.go:167", after := #[{ on := 2, ground := Go.Ground.data }, { on := 3, ground := Go.Ground.data }], guard := none }) rfl (fun K hK => ?g5ro5) ?g5rm5
      case g5rm5 => exact Go.Shr.AllReadyF.nil
      (have hWs := hcW.size); (have htW := r5.lt); go_simp; refine (HLS.out o bs1 e1 W HIXO.out hrdW).mono ?_; rintro en W2 ⟨x, ax, cx, ysx, bs2, e2, rfl, hsx, hrx, hresx, hrd2, hc2⟩; dsimp only; (have r52 := r5.chg hc2 (by omega)); (have hok2 := hokW.chg hc2 (fun b hb => by omega)); (have ro2 := roW.chg hc2 (by omega)); (have hltK := hokW.lt); (have hsx2 := Sl.go (ok' := fun b => T + 1 ≤ b ∧ ¬ blk aK b) (Chg.refl (fun _ => False) W2) (fun b _ hb => ⟨fun h => h, by omega, fun h => by have := hltK b h; omega⟩) hsx (by decide)); (have hrx2 := RowG.go (ok' := fun b => T + 1 ≤ b ∧ ¬ blk aK b) (Chg.refl (fun _ => False) W2) (fun b _ hb => ⟨fun h => h, by omega, fun h => by have := hltK b h; omega⟩) hrx); (have HWK := Lib.hid (HW.out.step HDR.out hresx)); (have hcW2 := hcW.trans hc2 (fun _ _ h => h)); (have hs2 := hcW2.size); clear r5 hokW roW hsx hrx hresx hltK hrdW hcW; have r5 := r52
      refine hK.out _ _ ?g5rs5 (fun hHeld => ?g5rt5)
      case g5rs5 => (try dsimp only); (first | exact HT2.out | exact r5.cell 2)
      try dsimp only at hHeld
      clear hK K
      try simp only [Act.put, List.setIfInBounds_toArray, List.set_cons_zero, List.set_cons_succ]
      refine Go.Shr.wpAnyF_ready [5] (by kernel_rfl) (by simp) ?_
      refine Go.Shr.AllReadyF.cons 5 (o := { dst := some 61, op := Go.Op.buildSlice 33 1 #[(0, Go.Operand.tmp 60)], type := 33, pos := "wire.go:167", after := #[{ on := 4, ground := Go.Ground.data }], guard := none }) rfl (fun K hK => ?g5ro6) ?g5rm6
      case g5rm6 => exact Go.Shr.AllReadyF.nil
      go_simp; refine gen_w (fun W3 hW3 => ?_); (have hb3 : Below W2.heap.size W2 W3 := by rw [hW3]; exact ba (b0 W2) _); (have rn := Rw.ren hW3 (Rw.new W2 #[.slice ax x.length cx] 28)); (replace r5 := r5.below hb3); (have ro3 := ro2.below hb3); (have hok3 := hok2.below' hb3); (have hsx3 := Sl.go (ok' := fun b => T + 1 ≤ b ∧ ¬ blk aK b) (Chg.ofBelow hb3) (fun b hb h => ⟨by omega, h⟩) hsx2 (by decide)); (have hrx3 := RowG.go (ok' := fun b => T + 1 ≤ b ∧ ¬ blk aK b) (Chg.ofBelow hb3) (fun b hb h => ⟨by omega, h⟩) hrx2); (have hrd3 := hrd2.below hb3); (have hcW3 := hcW2.trans (Chg.ofBelow hb3) (fun i hi h => by omega)); (have hs3 := hcW3.size); clear hW3 hsx2 hrx2 hrd2 hcW2 hok2 ro2
      refine hK.out _ _ ?g5rs6 (fun hHeld => ?g5rt6)
      case g5rs6 => (try dsimp only); (first | exact HT2.out | exact r5.cell 2)
      try dsimp only at hHeld
      clear hK K
      try simp only [Act.put, List.setIfInBounds_toArray, List.set_cons_zero, List.set_cons_succ]
      refine Go.Shr.wpAnyF_ready [6] (by kernel_rfl) (by simp) ?_
      refine Go.Shr.AllReadyF.cons 6 (o := { dst := some 62, op := Go.Op.call { callee := Go.Callee.builtin Go.Builtin.append, args := #[Go.Operand.tmp 57, Go.Operand.tmp 61], argTypes := #[33, 33] }, type := 33, pos := "wire.go:167", after := #[{ on := 1, ground := Go.Ground.data }, { on := 5, ground := Go.Ground.data }, { on := 4, ground := Go.Ground.chain }], guard := none }) rfl (fun K hK => ?g5ro7) ?g5rm7
      case g5rm7 => exact Go.Shr.AllReadyF.nil
      (refine step_append (B := T + 1) rfl _ _ _ _ rfl ik (.slice none 0 0) 24 Try.underlying33 hik hz0k hz1k hz2k rfl rfl hok3.own _ rfl 1 _ (src_rw (P := Try.prog) (tx := 33) Try.underlying33 rn 1 1 rfl (by intro u hu; simp at hu; subst hu; rfl)) (by simp only [maxLen]; omega) (by omega) (by have := r5.lt; omega) ?_; intro a6 cap6 W6 ho6 hc6 hn6); (have hok6 := OKid.push hok3 rfl hsx3 hrx3 ho6 hc6 hn6); (have ht3 := r5.lt); (replace r5 := r5.chg hc6 (fun h => by omega)); (have ro6 := ro3.chg hc6 (fun h => by omega)); (have hrd6 := hrd3.low (hc6.below (by omega) (fun i hi h => by omega))); (have hcW6 := hcW3.trans hc6 (fun i hi h => by omega)); clear hok3 hsx3 hrx3 ho6 hc6 hn6 ro3 hrd3 hcW3 rn
      refine hK.out _ _ ?g5rs7 (fun hHeld => ?g5rt7)
      case g5rs7 => (try dsimp only); (first | exact HT2.out | exact r5.cell 2)
      try dsimp only at hHeld
      clear hK K
      try simp only [Act.put, List.setIfInBounds_toArray, List.set_cons_zero, List.set_cons_succ]
      refine Go.Shr.wpAnyF_take 7 (oi := { dst := some 63, op := Go.Op.fieldAddr 35 (Go.Operand.tmp 5) 2, type := 0, pos := "wire.go:167", after := #[{ on := 0, ground := Go.Ground.phase }, { on := 1, ground := Go.Ground.phase }, { on := 2, ground := Go.Ground.phase }, { on := 3, ground := Go.Ground.phase }, { on := 4, ground := Go.Ground.phase }, { on := 5, ground := Go.Ground.phase }, { on := 6, ground := Go.Ground.phase }], guard := none }) (v := ?g5rv8) rfl (by kernel_rfl) (fun _ _ _ h => h) (by assumption) (by rfl) ?g5ry8 ?g5rr8
      case g5ry8 => intro w hSw; have s1 := hSw; go_simp; try with_reducible rfl
      try simp only [Act.put, List.setIfInBounds_toArray, List.set_cons_zero, List.set_cons_succ]
      refine Go.Shr.wpAnyF_ready [8] (by kernel_rfl) (by simp) ?_
      refine Go.Shr.AllReadyF.last 8 (o := { dst := none, op := Go.Op.store 33 (Go.Operand.tmp 63) (Go.Operand.tmp 62), type := 0, pos := "wire.go:167", after := #[{ on := 7, ground := Go.Ground.data }, { on := 6, ground := Go.Ground.data }, { on := 6, ground := Go.Ground.chain }, { on := 0, ground := Go.Ground.phase }, { on := 1, ground := Go.Ground.phase }, { on := 2, ground := Go.Ground.phase }, { on := 3, ground := Go.Ground.phase }, { on := 4, ground := Go.Ground.phase }, { on := 5, ground := Go.Ground.phase }, { on := 6, ground := Go.Ground.phase }], guard := none }) rfl (by kernel_rfl) (fun K hK => ?g5ro9) ?g5rm9
      case g5rm9 => exact Go.Shr.AllReadyF.nil
      (have qc : W6.cell? ⟨T, 2, none⟩ = some (.slice aK j cK) := r5.cell 2); (have qf := r5.frozen); (have ql := r5.lt); go_simp; clear qc qf ql
      refine hK.out _ _ ?_
      clear hK K
      try simp only [Act.put, List.setIfInBounds_toArray, List.set_cons_zero, List.set_cons_succ]
      refine Go.Shr.wpAnyF_done (by kernel_rfl) ?_
      have hch : Chg (fun b => b = T) W6 (W6.setCell ⟨T, 2, none⟩ (.slice a6 (j + 1) cap6)) := (Chg.refl (fun b => b = T) W6).setCell (p := ⟨T, 2, none⟩) (.inr rfl) _
      have HR6 := Lib.hid (hrd6.low (hch.below (by have := r5.lt; omega) (fun i hi h => by omega)))
      have HC6 := Lib.hid (hcW6.trans hch (fun i hi h => by omega))
      have HOK6 := Lib.hid (hok6.chg hch (fun b hb => by omega))
      have HT6 := Lib.hid (r5.set 2 (.slice a6 (j + 1) cap6))
      have HO6 := Lib.hid (ro6.other (p := ⟨T, 2, none⟩) (by show w.heap.size ≠ T; omega) (.slice a6 (j + 1) cap6))
      clear hrd6 hcW6 hok6 ro6 r5 hch t2 g1
      generalize (W6.setCell ⟨T, 2, none⟩ (.slice a6 (j + 1) cap6)) = W7 at *
      go_wp2_with fail
      go_roundw
      case rel => exact ⟨j + 1, a6, cap6, kks ++ [x], _, bs2, e2, by go_num, by omega, HT6, HOK6, HR6, HWK, HC6, HO6⟩
      case measure => simp [intOf]; omega
    · obtain rfl : j = ks.length := by omega
      have HRES := Lib.hid (HW.out.done.map (fun k => Tr.mk 0 ⟨#[]⟩ k))
      have HOS := Lib.hid HOK.out.sl
      have HONE := Lib.hid (KidG.one' HOS.out.2)
      have hkl := HOK.out.len
      have HKL := Lib.hid hkl
      have t2 : wr.cell? ⟨T, 2, none⟩ = some (.slice aK ks.length cK) := RT.out.cell 2
      clear hlt hkl
      go_wp2_with fail
      refine (clone_k _ aK ks.length cK xs wr HOS.out.1 HONE.out (by omega)).mono ?_
      rintro en w2 ⟨a7, c7, rfl, ho7, hb7⟩
      have rT2 := RT.out.below hb7
      have HO7 := Lib.hid ho7
      have HKG := Lib.hid (KidG.go (ok' := fun b => T + 1 ≤ b) (Chg.ofBelow hb7) (fun k hk h => ⟨by omega, h⟩) HOS.out.2)
      have HR2 := Lib.hid (HRD.out.below hb7); have HO2 := Lib.hid (RO.out.below hb7)
      have HC2 := Lib.hid (HC.out.trans (Chg.ofBelow hb7) (fun i hi h => by omega))
      have hsz7 := hb7.size
      have y2 : w2.cell? ⟨T, 2, none⟩ = some (.slice aK ks.length cK) := rT2.cell 2
      have yf := rT2.frozen
      have yl := rT2.lt
      have HT2 := Lib.hid rT2
      clear ho7 hb7 rT2 t2
      go_upto_region 17 with fail
      have hch : Chg (fun b => b = T) w2 (w2.setCell ⟨T, 2, none⟩ (.slice a7 ks.length c7)) := (Chg.refl (fun b => b = T) w2).setCell (p := ⟨T, 2, none⟩) (.inr rfl) _
      have rT3 := HT2.out.set 2 (.slice a7 ks.length c7)
      have rO3 := HO2.out.other (p := ⟨T, 2, none⟩) (by show w.heap.size ≠ T; omega) (.slice a7 ks.length c7)
      have HR3 := Lib.hid (HR2.out.low (hch.below (by omega) (fun i hi h => by omega)))
      have HC3 := Lib.hid (HC2.out.trans hch (fun i hi h => by omega))
      have HKG3 := Lib.hid (KidG.go (ok' := fun b => T + 1 ≤ b) hch (fun k hk h => ⟨by omega, h⟩) HKG.out)
      have HS3 := Lib.hid (Sl.go (ok' := fun b => T + 1 ≤ b) hch (fun k hk h => ⟨by omega, by omega⟩) HO7.out.sl (by decide))
      have hs3 : w2.heap.size = (w2.setCell ⟨T, 2, none⟩ (.slice a7 ks.length c7)).heap.size := by simp
      clear y2 yf hch
      generalize (w2.setCell ⟨T, 2, none⟩ (.slice a7 ks.length c7)) = w3 at *
      have z0 : w3.cell? ⟨T, 0, none⟩ = some (.int .i64 0) := rT3.cell 0
      have z1 : w3.cell? ⟨T, 1, none⟩ = some (.string ⟨#[]⟩) := rT3.cell 1
      have z2 : w3.cell? ⟨T, 2, none⟩ = some (.slice a7 ks.length c7) := rT3.cell 2
      have y0 : w3.cell? ⟨w.heap.size, 0, none⟩ = some (.int .i64 0) := rO3.cell 0
      have y1 : w3.cell? ⟨w.heap.size, 1, none⟩ = some (.string ⟨#[]⟩) := rO3.cell 1
      have y2 : w3.cell? ⟨w.heap.size, 2, none⟩ = some (.slice none 0 0) := rO3.cell 2
      have yf := rO3.frozen
      have yl3 := rO3.lt
      go_wp2_with fail
      clear z0 z1 z2 y0 y1 y2 yf
      have hq := rO3.set3 (u0 := .int .i64 0) (u1 := .string ⟨#[]⟩) (u2 := .slice a7 ks.length c7)
      have z0 := hq.cell 0; have z1 := hq.cell 1; have z2 := hq.cell 2
      refine bodyPost_ret (v := .agg #[.int .i64 0, .string ⟨#[]⟩, .slice a7 ks.length c7]) (by simp [results, Try.results48, go_sem, z0, z1, z2]) rfl ?_
      have hc4 : Chg (fun b => b = w.heap.size) w3 (((w3.setCell ⟨w.heap.size, 0, none⟩ (.int .i64 0)).setCell ⟨w.heap.size, 1, none⟩ (.string ⟨#[]⟩)).setCell ⟨w.heap.size, 2, none⟩ (.slice a7 ks.length c7)) := (((Chg.refl (fun b => b = w.heap.size) w3).setCell (p := ⟨w.heap.size, 0, none⟩) (.inr rfl) _).setCell (p := ⟨w.heap.size, 1, none⟩) (.inr rfl) _).setCell (p := ⟨w.heap.size, 2, none⟩) (.inr rfl) _
      have hkl := HKL.out
      refine ⟨.mk 0 ⟨#[]⟩ kks, a7, c7, bs1, e1, by rw [hkl]; rfl, ?_, by rw [HE.out]; exact HRES.out, HR3.out.low (hc4.below (by omega) (fun i hi h => by omega)), HC3.out.trans hc4 (fun i hi h => by omega)⟩
      have hS := Sl.go (ok' := fun b => w.heap.size ≤ b) hc4 (fun k hk h => ⟨by omega, by omega⟩) HS3.out (by decide)
      have hK := KidG.go (ok' := fun b => w.heap.size ≤ b) hc4 (fun k hk h => ⟨by omega, by omega⟩) HKG3.out
      simp only [TrG]
      exact ⟨a7, ks.length, c7, xs, by rw [hkl]; rfl, by decide, hS, hK⟩
theorem tree_rd (R : Nat) (sa : Option Addr) (scap bk : Nat) (l : List Fl) (hlen : l.length ≤ 1000) : ∀ (N : Nat) (s : Sh), s.size ≤ N → TreeRd R sa scap bk l s
  | 0, .mk _ _ _ _, h => by simp [Sh.size] at h
  | N + 1, .mk nm rp kd ks, h => by
    by_cases c : kd = 1 ∨ kd = 2 ∨ kd = 3 ∨ kd = 4
    · exact leaf_rd R sa scap bk l nm rp kd ks c
    · refine grp_rd R sa scap bk l nm rp kd ks (by omega) (by omega) (by omega) (by omega) hlen (fun s hs => list_rd R sa scap bk l s (tree_rd R sa scap bk l hlen N s ?_))
      have : ∀ (q : List Sh), s ∈ q → s.size ≤ shSizes q := by
        intro q
        induction q with
        | nil => intro h; cases h
        | cons x q ih =>
          intro h
          rcases List.mem_cons.1 h with rfl | h
          · simp [shSizes]
          · have := ih h; simp only [shSizes]; omega
      have := this ks hs
      simp only [Sh.size] at h
      omega
end Go.Proofs.Ytofhlopedflkiaa
