/-
  Plain: what is read is written as it stood; it fits.
-/
import Derived.Test.YtofhlopedflkiaaDecP
import Derived.Test.YtofhlopedflkiaaRead9
import Derived.Test.YtofhlopedflkiaaFitMk
set_option linter.unusedSimpArgs false
namespace Go.Proofs.Ytofhlopedflkiaa
open Go.RowKit Go.Shr
theorem vget_canon : ∀ (l : List UInt8) (k acc : Nat), (vgetFrom k acc l).2.2 = 0 → ∃ u, (vgetFrom k acc l).1 = acc + u * 128 ^ k ∧ k < (vgetFrom k acc l).2.1 ∧ l = vput u ++ l.drop ((vgetFrom k acc l).2.1 - k) ∧ (0 < k → 0 < u)
  | [], k, acc, h => by simp [vgetFrom] at h
  | x :: r, k, acc, h => by
    have hx := x.toNat_lt
    rw [vgetFrom] at h ⊢
    split at h
    · simp at h
    · rename_i h9
      rw [if_neg h9]
      split at h
      · rename_i hlt
        split at h
        · simp at h
        · rename_i hz
          rw [if_pos hlt, if_neg hz]
          refine ⟨x.toNat, rfl, by dsimp only; omega, ?_, fun hk => by omega⟩
          have e : UInt8.ofNat x.toNat = x := by simp
          rw [vput_lt hlt, e]
          dsimp only
          rw [show k + 1 - k = 1 by omega]
          rfl
      · rename_i hge
        rw [if_neg hge]
        obtain ⟨u, h1, h2, h3, h4⟩ := vget_canon r (k + 1) (acc + (x.toNat % 128) * 128 ^ k) h
        have hu := h4 (by omega)
        refine ⟨x.toNat % 128 + 128 * u, ?_, by omega, ?_, fun _ => by omega⟩
        · rw [h1, Nat.pow_succ, Nat.add_mul]
          have : u * (128 ^ k * 128) = 128 * u * 128 ^ k := by rw [Nat.mul_comm 128 u, Nat.mul_assoc, Nat.mul_comm 128]
          omega
        · have e1 : (x.toNat % 128 + 128 * u) % 128 + 128 = x.toNat := by omega
          have e2 : (x.toNat % 128 + 128 * u) / 128 = u := by omega
          have e : UInt8.ofNat x.toNat = x := by simp
          rw [vput_ge (by omega), e1, e2, e]
          generalize (vgetFrom (k + 1) (acc + (x.toNat % 128) * 128 ^ k) r).2.1 = n at *
          have e3 : n - k = (n - (k + 1)) + 1 := by omega
          rw [e3, List.drop_succ_cons, List.cons_append, ← h3]
theorem rdBit_ok {bs : List UInt8} {v : Nat} {r : List UInt8} (h : rdBit bs = .ok (v, r)) : v ≤ 1 ∧ bs = UInt8.ofNat v :: r := by
  cases bs with
  | nil => cases h
  | cons b q =>
    rw [rdBit] at h
    split at h
    · cases h
    · injection h with h
      injection h with h1 h2
      subst h1 h2
      exact ⟨by omega, by simp⟩
theorem rdNum_ok {most wrong : Nat} {bs : List UInt8} {v : Nat} {r : List UInt8} (h : rdNum most wrong bs = .ok (v, r)) : v ≤ most ∧ bs = vput v ++ r := by
  unfold rdNum at h
  split at h
  · cases h
  · rename_i h0
    split at h
    · cases h
    · injection h with h
      injection h with h1 h2
      have h0' : (vget bs).2.2 = 0 := by omega
      obtain ⟨u, g1, _, g3, _⟩ := vget_canon bs 0 0 h0'
      have e : (vget bs).1 = u := by show (vgetFrom 0 0 bs).1 = u; rw [g1]; simp
      rw [e] at h1
      subst h1 h2
      exact ⟨by omega, g3⟩
theorem leN_ofLe : ∀ (l : List UInt8), leN l.length (ofLe l) = l
  | [] => rfl
  | b :: r => by
    have hb := b.toNat_lt
    have e1 : (b.toNat + 256 * ofLe r) % 256 = b.toNat := by omega
    have e2 : (b.toNat + 256 * ofLe r) / 256 = ofLe r := by omega
    rw [List.length_cons, leN, ofLe, e1, e2, leN_ofLe r]
    simp
theorem leN_mod (n v : Nat) : leN n (v % 256 ^ n) = leN n v := by
  have h := leN_ofLe (leN n v)
  rw [ofLe_leN, leN_len] at h
  exact h
theorem rdFix_ok {n : Nat} {bs : List UInt8} {v : Nat} {r : List UInt8} (h : rdFix n bs = .ok (v, r)) : v < 256 ^ n ∧ bs = leN n v ++ r := by
  unfold rdFix at h
  split at h
  · cases h
  · rename_i hl
    injection h with h
    injection h with h1 h2
    subst h1 h2
    have hlen : (bs.take n).length = n := by rw [List.length_take]; omega
    have e := leN_ofLe (bs.take n)
    have b := ofLe_lt (bs.take n)
    rw [hlen] at e b
    exact ⟨b, by rw [e, List.take_append_drop]⟩
theorem rdStr_ok {bs : List UInt8} {s : ByteArray} {r : List UInt8} (h : rdStr bs = .ok (s, r)) : s.size ≤ 100 ∧ bs = vput s.size ++ s.toList ++ r := by
  unfold rdStr at h
  cases hn : rdNum 100 5 bs with
  | error z => rw [hn] at h; cases h
  | ok q =>
    obtain ⟨n, b1⟩ := q
    rw [hn] at h
    dsimp only at h
    obtain ⟨h1, h2⟩ := rdNum_ok hn
    split at h
    · cases h
    · rename_i hl
      injection h with h
      injection h with h3 h4
      subst h3 h4
      have hs : (⟨(b1.take n).toArray⟩ : ByteArray).size = n := by simp [ByteArray.size]; omega
      have ht : (⟨(b1.take n).toArray⟩ : ByteArray).toList = b1.take n := by rw [ByteArray.toList_eq]
      rw [hs, ht, List.append_assoc, List.take_append_drop]
      exact ⟨h1, h2⟩
theorem rdCnt_ok {rep : Int} {bs : List UInt8} {m : Nat} {r : List UInt8} (h : rdCnt rep bs = .ok (m, r)) : okRep rep m ∧ bs = markB rep m ++ r := by
  unfold rdCnt at h
  unfold okRep markB
  by_cases h1 : rep = 1
  · rw [if_pos h1] at h
    rw [if_pos h1, if_pos h1]
    obtain ⟨g1, g2⟩ := rdBit_ok h
    have e : m % 256 = m := by omega
    rw [e]
    exact ⟨g1, g2⟩
  · rw [if_neg h1] at h
    rw [if_neg h1, if_neg h1]
    by_cases h2 : rep = 2
    · rw [if_pos h2] at h
      rw [if_pos h2, if_pos h2]
      exact rdNum_ok h
    · rw [if_neg h2] at h
      rw [if_neg h2, if_neg h2]
      injection h with h
      injection h with h3 h4
      exact ⟨h3.symm, h4⟩
theorem decX_ok {f : List UInt8 → Rd Tr} {s : Sh} (hf : ∀ b t r, f b = .ok (t, r) → okT s t ∧ b = encT s t ++ r) : ∀ (n : Nat) (bs : List UInt8) (x : List Tr) (r : List UInt8), decX f n bs = .ok (x, r) → x.length = n ∧ (∀ t ∈ x, okT s t) ∧ bs = x.flatMap (encT s) ++ r
  | 0, bs, x, r, h => by
    rw [decX] at h
    injection h with h
    injection h with h1 h2
    subst h1 h2
    exact ⟨rfl, by simp, rfl⟩
  | n + 1, bs, x, r, h => by
    rw [decX] at h
    cases hd : f bs with
    | error z => rw [hd] at h; cases h
    | ok q =>
      obtain ⟨t, b1⟩ := q
      rw [hd] at h
      dsimp only at h
      cases hx : decX f n b1 with
      | error z => rw [hx] at h; cases h
      | ok q2 =>
        obtain ⟨y, b2⟩ := q2
        rw [hx] at h
        dsimp only at h
        injection h with h
        injection h with h1 h2
        subst h1 h2
        obtain ⟨g1, g2⟩ := hf _ _ _ hd
        obtain ⟨g3, g4, g5⟩ := decX_ok hf n b1 y b2 hx
        refine ⟨by simp [g3], ?_, ?_⟩
        · intro u hu
          rcases List.mem_cons.1 hu with rfl | hu
          · exact g1
          · exact g4 u hu
        · rw [List.flatMap_cons, List.append_assoc, ← g5]; exact g2
theorem rdMap_ok {α : Type} {f : α → Tr} {D : Rd α} {t : Tr} {r : List UInt8} (h : rdMap f D = .ok (t, r)) : ∃ a, D = .ok (a, r) ∧ t = f a := by
  cases D with
  | error z => cases h
  | ok q =>
    obtain ⟨a, b⟩ := q
    injection h with h
    injection h with h1 h2
    subst h2
    exact ⟨a, rfl, h1.symm⟩
mutual
theorem decT_ok : ∀ (s : Sh) (bs : List UInt8) (t : Tr) (r : List UInt8), decT s bs = .ok (t, r) → okT s t ∧ bs = encT s t ++ r
  | .mk nm rp kd ks, bs, t, r, h => by
    rw [decT] at h
    rw [okT, encT]
    by_cases k1 : kd = 1
    · rw [if_pos k1] at h
      rw [if_pos k1, if_pos k1]
      obtain ⟨v, g1, rfl⟩ := rdMap_ok h
      obtain ⟨g2, g3⟩ := rdBit_ok g1
      refine ⟨⟨by show (v : Int) = 0 ∨ (v : Int) = 1; omega, rfl, rfl⟩, ?_⟩
      have e : u64 (Tr.mk (v : Int) ⟨#[]⟩ []).n % 256 = v := by show u64 (v : Int) % 256 = v; unfold u64; omega
      simp only [leN, e, List.singleton_append]
      exact g3
    · rw [if_neg k1] at h
      rw [if_neg k1, if_neg k1]
      by_cases k2 : kd = 2
      · rw [if_pos k2] at h
        rw [if_pos k2, if_pos k2]
        obtain ⟨v, g1, rfl⟩ := rdMap_ok h
        obtain ⟨g2, g3⟩ := rdFix_ok g1
        have hb : -2147483648 ≤ i32 v ∧ i32 v ≤ 2147483647 := by unfold i32; split <;> omega
        refine ⟨⟨hb, rfl, rfl⟩, ?_⟩
        have e : u64 (Tr.mk (i32 v) ⟨#[]⟩ []).n % 256 ^ 4 = v := by show u64 (i32 v) % 256 ^ 4 = v; unfold u64 i32; split <;> omega
        rw [← leN_mod, e]
        exact g3
      · rw [if_neg k2] at h
        rw [if_neg k2, if_neg k2]
        by_cases k3 : kd = 3
        · rw [if_pos k3] at h
          rw [if_pos k3, if_pos k3]
          obtain ⟨v, g1, rfl⟩ := rdMap_ok h
          obtain ⟨g2, g3⟩ := rdFix_ok g1
          have hb : -9223372036854775808 ≤ i64 v ∧ i64 v ≤ 9223372036854775807 := by unfold i64; split <;> omega
          refine ⟨⟨hb, rfl, rfl⟩, ?_⟩
          have e : u64 (Tr.mk (i64 v) ⟨#[]⟩ []).n % 256 ^ 8 = v := by show u64 (i64 v) % 256 ^ 8 = v; unfold u64 i64; split <;> omega
          rw [← leN_mod, e]
          exact g3
        · rw [if_neg k3] at h
          rw [if_neg k3, if_neg k3]
          by_cases k4 : kd = 4
          · rw [if_pos k4] at h
            rw [if_pos k4, if_pos k4]
            obtain ⟨s, g1, rfl⟩ := rdMap_ok h
            obtain ⟨g2, g3⟩ := rdStr_ok g1
            exact ⟨⟨rfl, g2, rfl⟩, g3⟩
          · rw [if_neg k4] at h
            rw [if_neg k4, if_neg k4]
            obtain ⟨xs, g1, rfl⟩ := rdMap_ok h
            obtain ⟨g2, g3⟩ := decK_ok ks bs xs r g1
            exact ⟨⟨rfl, rfl, g2⟩, g3⟩
theorem decK_ok : ∀ (ks : List Sh) (bs : List UInt8) (xs : List (List Tr)) (r : List UInt8), decK ks bs = .ok (xs, r) → okK ks xs ∧ bs = encK ks xs ++ r
  | [], bs, xs, r, h => by
    rw [decK] at h
    injection h with h
    injection h with h1 h2
    subst h1 h2
    exact ⟨by rw [okK], rfl⟩
  | s :: q, bs, xs, r, h => by
    rw [decK] at h
    cases hc : rdCnt s.rep bs with
    | error z => rw [hc] at h; cases h
    | ok p1 =>
      obtain ⟨n, b1⟩ := p1
      rw [hc] at h
      dsimp only at h
      cases hx : decX (decT s) n b1 with
      | error z => rw [hx] at h; cases h
      | ok p2 =>
        obtain ⟨x, b2⟩ := p2
        rw [hx] at h
        dsimp only at h
        cases hk : decK q b2 with
        | error z => rw [hk] at h; cases h
        | ok p3 =>
          obtain ⟨ys, b3⟩ := p3
          rw [hk] at h
          dsimp only at h
          injection h with h
          injection h with h1 h2
          subst h1 h2
          obtain ⟨c1, c2⟩ := rdCnt_ok hc
          obtain ⟨x1, x2, x3⟩ := decX_ok (fun b t r => decT_ok s b t r) n b1 x b2 hx
          obtain ⟨k1, k2⟩ := decK_ok q b2 ys b3 hk
          rw [okK, encK]
          refine ⟨⟨by rw [x1]; exact c1, x2, k1⟩, ?_⟩
          rw [x1, c2, x3, k2]
          simp
end
theorem decR_ok {s : Sh} {bs : List UInt8} {x : List Tr} (h : decR s bs = .ok x) : x.length ≤ 200 ∧ (∀ t ∈ x, okT s t) ∧ encR s x = bs := by
  unfold decR at h
  cases hn : rdNum 200 4 bs with
  | error z => rw [hn] at h; cases h
  | ok q =>
    obtain ⟨n, b1⟩ := q
    rw [hn] at h
    dsimp only at h
    cases hx : decX (decT s) n b1 with
    | error z => rw [hx] at h; cases h
    | ok p =>
      obtain ⟨y, b2⟩ := p
      rw [hx] at h
      dsimp only at h
      split at h
      · cases h
      · rename_i hl
        injection h with h
        subst h
        obtain ⟨g1, g2⟩ := rdNum_ok hn
        obtain ⟨x1, x2, x3⟩ := decX_ok (fun b t r => decT_ok s b t r) n b1 y b2 hx
        have hb : b2 = [] := List.eq_nil_of_length_eq_zero (by omega)
        refine ⟨by omega, x2, ?_⟩
        unfold encR
        rw [x1, g2, x3, hb]
        simp
theorem repT_ok {rep : Int} {m : Nat} (h : okRep rep m) : repT rep m = 0 := by
  unfold okRep at h
  unfold repT
  by_cases h1 : rep = 1
  · rw [if_pos h1] at h
    rw [if_neg (by omega), if_neg (by omega)]
  · rw [if_neg h1] at h
    by_cases h3 : rep = 2
    · rw [if_pos h3] at h
      rw [if_neg (by omega), if_neg (by omega)]
    · rw [if_neg h3] at h
      rw [if_neg (by omega), if_neg (by omega)]
theorem fitX_ok {l : List Fl} {K : Int → List Int} {i : Int} : ∀ (x : List Tr), (∀ t ∈ x, fitT l K t i = 0) → fitX l K x i = 0
  | [], _ => by simp [fitX]
  | t :: r, h => by
    have h1 := h t List.mem_cons_self
    have h2 := fitX_ok r (fun t ht => h t (List.mem_cons_of_mem _ ht))
    simp only [fitX, h1, h2]; simp
mutual
theorem fit_okT {l : List Fl} {K : Int → List Int} : ∀ (s : Sh) (i : Nat) (t : Tr), Ix l K i s → GoodS s → okT s t → fitT l K t i = 0
  | .mk nm rp kd ks, i, t, hi, hg, ht => by
    simp only [Ix] at hi
    simp only [GoodS] at hg
    obtain ⟨h1, h2, h3⟩ := hi
    have hf : flAt l (i : Int) = ⟨nm, rp, kd, ks.length⟩ := by simp [flAt, h1]
    rw [fitT_eq, hf]
    rw [okT] at ht
    dsimp only
    by_cases hk : kd = 0
    · subst hk
      rw [if_neg (by decide), if_neg (by decide), if_neg (by decide), if_neg (by decide)] at ht
      obtain ⟨t1, t2, t3⟩ := ht
      have hkk := fit_okK ks (i + 1) t.kids h3 hg.2.2.2.2.2.2 t3
      rw [if_neg (fun h => h rfl)]
      rw [if_neg (by rintro (h | h | h)
                     · exact h t1
                     · rw [t2] at h; exact h nostr
                     · rw [h2, offs_len] at h; exact h hkk.2)]
      rw [h2]; exact hkk.1
    · rw [if_pos hk]
      by_cases k1 : kd = 1
      · rw [if_pos k1] at ht
        obtain ⟨t1, t2, t3⟩ := ht
        unfold leafT
        rw [if_neg (by rw [t2, t3, nostr]; simp; omega), if_pos k1, if_neg (by omega)]
      · rw [if_neg k1] at ht
        by_cases k2 : kd = 2
        · rw [if_pos k2] at ht
          obtain ⟨t1, t2, t3⟩ := ht
          unfold leafT
          rw [if_neg (by rw [t2, t3, nostr]; simp; omega), if_neg k1, if_pos k2, if_neg (by omega)]
        · rw [if_neg k2] at ht
          by_cases k3 : kd = 3
          · rw [if_pos k3] at ht
            obtain ⟨t1, t2, t3⟩ := ht
            unfold leafT
            rw [if_neg (by rw [t2, t3, nostr]; simp; omega), if_neg k1, if_neg k2, if_pos k3]
          · rw [if_neg k3] at ht
            have k4 : kd = 4 := by omega
            rw [if_pos k4] at ht
            obtain ⟨t1, t2, t3⟩ := ht
            unfold leafT
            rw [if_neg (by rw [t1, t3]; simp [k4]), if_neg k1, if_neg k2, if_neg k3, if_neg (by omega)]
theorem fit_okK {l : List Fl} {K : Int → List Int} : ∀ (ks : List Sh) (i : Nat) (xs : List (List Tr)), IxL l K i ks → GoodL ks → okK ks xs → fitK l K xs (offs i ks) = 0 ∧ xs.length = ks.length
  | [], i, xs, _, _, h => by rw [okK] at h; subst h; simp [fitK]
  | s :: r, i, [], _, _, h => by rw [okK] at h; exact h.elim
  | s :: r, i, x :: xs, hi, hg, h => by
    simp only [IxL] at hi
    simp only [GoodL] at hg
    rw [okK] at h
    obtain ⟨g1, g2, g3⟩ := h
    have h1 := fitX_ok (l := l) (K := K) (i := (i : Int)) x (fun t ht => fit_okT s i t hi.1 hg.1 (g2 t ht))
    have h2 := fit_okK r (i + s.size) xs hi.2 hg.2 g3
    have hf : (flAt l (i : Int)).rep = s.rep := by
      obtain ⟨nm, rp, kd, ks⟩ := s
      have := hi.1; simp only [Ix] at this
      simp [flAt, this.1, Sh.rep]
    have hr : repT s.rep x.length = 0 := by
      obtain ⟨nm, rp, kd, ks⟩ := s
      have := hg.1; simp only [GoodS] at this
      exact repT_ok g1
    simp only [offs, List.length_cons, h2.2]
    refine ⟨?_, trivial⟩
    rw [fitK_cons]
    simp only [List.headD_cons, List.tail_cons, fitA, hf, hr, h1]
    simpa using h2.1
end
end Go.Proofs.Ytofhlopedflkiaa
