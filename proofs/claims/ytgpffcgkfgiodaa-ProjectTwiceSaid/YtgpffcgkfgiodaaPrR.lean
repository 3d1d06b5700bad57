/-
  Plain: keeping by ways: once, twice, less.
-/
import Derived.Test.YtgpffcgkfgiodaaPrQ
set_option linter.unusedSimpArgs false
namespace Go.Proofs.Ytgpffcgkfgiodaa
open Go.RowKit Go.Shr
mutual
theorem waysS_pre : ∀ (s : Sh) (pre : List UInt8), ∀ x ∈ waysS pre s, pre <+: x
  | .mk nm r k ks, pre, x, h => by
    simp only [waysS, List.mem_cons] at h
    rcases h with h | h
    · rw [h]; exact List.prefix_refl _
    · exact waysL_pre ks pre x h
theorem waysL_pre : ∀ (ks : List Sh) (pre : List UInt8), ∀ x ∈ waysL pre ks, pre <+: x
  | [], _, x, h => by simp [waysL] at h
  | s :: r, pre, x, h => by
    simp only [waysL, List.mem_append] at h
    rcases h with h | h
    · exact (List.prefix_append _ _).trans (waysS_pre s _ x h)
    · exact waysL_pre r pre x h
end
/-- Paths that are ways with points. -/
def PW (ps : List ByteArray) : Prop := ∀ p ∈ ps, ∃ a : List UInt8, a ≠ [] ∧ p.data.toList = inter a
theorem KW_iff {ps : List ByteArray} (h : PW ps) {x : List UInt8} : KW ps x = true ↔ ps = [] ∨ ∃ p ∈ ps, ∃ a : List UInt8, a ≠ [] ∧ p.data.toList = inter a ∧ (a <+: x ∨ x <+: a) := by
  unfold KW kp
  rw [Bool.or_eq_true, List.isEmpty_iff, List.any_eq_true]
  refine or_congr_right ⟨?_, ?_⟩
  · rintro ⟨p, hp, h1⟩
    obtain ⟨q, hq, rfl⟩ := mem_byts hp
    obtain ⟨a, ha, e⟩ := h q hq
    rw [e, kp_inter ha] at h1
    exact ⟨q, hq, a, ha, e, h1⟩
  · rintro ⟨p, hp, a, ha, e, h1⟩
    exact ⟨p.data.toList, List.mem_map.2 ⟨p, hp, rfl⟩, by rw [e, kp_inter ha]; exact h1⟩
theorem KW_pre {ps : List ByteArray} (h : PW ps) {x y : List UInt8} (hy : y <+: x) (hx : KW ps x = true) : KW ps y = true := by
  rw [KW_iff h] at hx ⊢
  refine hx.imp id ?_
  rintro ⟨p, hp, a, ha, e, h1⟩
  refine ⟨p, hp, a, ha, e, ?_⟩
  rcases h1 with h1 | h1
  · exact List.prefix_or_prefix_of_prefix h1 hy
  · exact .inr (hy.trans h1)
theorem KW_sub {ps qs : List ByteArray} (hp : PW ps) (hs : ∀ q ∈ qs, q ∈ ps) (hne : qs ≠ []) (x : List UInt8) : (KW ps x && KW qs x) = KW qs x := by
  cases hq : KW qs x with
  | false => simp
  | true =>
    rw [KW_iff (fun p hp' => hp p (hs p hp'))] at hq
    rw [Bool.and_true, KW_iff hp]
    rcases hq with h | ⟨p, h1, h2⟩
    · exact absurd h hne
    · exact .inr ⟨p, hs p h1, h2⟩
mutual
theorem ways_prW {K : List UInt8 → Bool} (hK : ∀ x y, y <+: x → K x = true → K y = true) : ∀ (s : Sh) (pre : List UInt8), K pre = true → waysS pre (prW K pre s) = (waysS pre s).filter K
  | .mk nm r k ks, pre, h => by
    simp only [prW, waysS, List.filter_cons, h, if_true]
    rw [ways_prWL hK ks pre]
theorem ways_prWL {K : List UInt8 → Bool} (hK : ∀ x y, y <+: x → K x = true → K y = true) : ∀ (ks : List Sh) (pre : List UInt8), waysL pre (prWL K pre ks) = (waysL pre ks).filter K
  | [], _ => by simp [prWL, waysL]
  | s :: r, pre => by
    have hn : (prW K (pre ++ [let1 s.name]) s).name = s.name := by obtain ⟨nm, rp, k, ks⟩ := s; rfl
    simp only [waysL, List.filter_append, ← ways_prWL hK r pre]
    by_cases h : K (pre ++ [let1 s.name]) = true
    · simp only [prWL, h, if_true, waysL, hn, ways_prW hK s _ h]
    · have : (waysS (pre ++ [let1 s.name]) s).filter K = [] := by
        rw [List.filter_eq_nil_iff]
        intro x hx e
        exact h (hK x _ (waysS_pre s _ x hx) e)
      simp only [prWL, h, if_false, this, List.nil_append]
      rfl
end
theorem wayAt_mem {sh : Sh} {i : Nat} (h : i < sh.size) : wayAt sh i ∈ waysS [] sh := by
  unfold wayAt
  rw [List.getD_eq_getElem?_getD, List.getElem?_eq_getElem (by rw [waysS_len]; exact h)]
  exact List.getElem_mem _
theorem mem_wayAt {sh : Sh} {x : List UInt8} (h : x ∈ waysS [] sh) : ∃ i, i < sh.size ∧ wayAt sh i = x := by
  obtain ⟨i, hi, e⟩ := List.getElem_of_mem h
  refine ⟨i, by rw [waysS_len] at hi; exact hi, ?_⟩
  unfold wayAt
  rw [List.getD_eq_getElem?_getD, List.getElem?_eq_getElem hi, ← e]; rfl
/-- A schema, its shape, its ways. -/
structure SW (l : List Fl) (sh : Sh) : Prop where
  sch : Sch l sh
  len : l.length ≤ 20
  nms : Nms l
theorem SW.wy {l : List Fl} {sh : Sh} (h : SW l sh) : Wy l (wayAt sh) := Wy.mk' h.sch h.len h.nms
theorem make_sw (ns : List Int) : SW (makeL ns) (makeSh ns) := ⟨make_sch ns, by have := (make_len ns).2; omega, make_nms ns⟩
theorem SW.pw {l : List Fl} {sh : Sh} (h : SW l sh) {ps : List ByteArray} (ha : allA l ps) : PW ps := fun p hp => by
  obtain ⟨i, h0, hi, e⟩ := isA_iff.1 (ha p hp)
  exact ⟨_, h.wy.ne h0 hi, by rw [← e, h.wy.own h0 hi]⟩
/-- The fields that paths keep. -/
def kL (ps : List ByteArray) (l : List Fl) (sh : Sh) : List Fl := keptL (fun k => KW ps (wayAt sh k)) l
def kS (ps : List ByteArray) (sh : Sh) : Sh := prW (KW ps) [] sh
theorem kS_eq (ps : List ByteArray) (sh : Sh) : prS (fun k => KW ps (wayAt sh k)) 0 sh = kS ps sh := prS_prW (fun _ => rfl) sh 0 [] (ways_all sh)
theorem SW.kept {l : List Fl} {sh : Sh} (h : SW l sh) {ps : List ByteArray} (ha : allA l ps) : SW (kL ps l sh) (kS ps sh) := by
  have hko := h.wy.ko h.sch ha
  refine ⟨kS_eq ps sh ▸ h.sch.kept hko, ?_, keptL_nms h.nms _⟩
  unfold kL
  rw [keptL_len]
  have := rank_le (f := fun k => KW ps (wayAt sh k)) (m := l.length)
  have := h.len
  omega
theorem SW.flat_kept {l : List Fl} {sh : Sh} (h : SW l sh) {ps : List ByteArray} (ha : allA l ps) : kL ps l sh = flat (kS ps sh) := (h.kept ha).sch.flat
theorem SW.ways {l : List Fl} {sh : Sh} (h : SW l sh) {ps : List ByteArray} (ha : allA l ps) : waysS [] (kS ps sh) = (waysS [] sh).filter (KW ps) := by
  refine ways_prW (fun x y => KW_pre (h.pw ha)) sh [] ?_
  have := (h.wy.ko h.sch ha).root
  have hr := h.wy.root
  have e : KW ps (wayAt sh 0) = true := this
  rw [hr] at e; exact e
theorem SW.allA_kept {l : List Fl} {sh : Sh} (h : SW l sh) {ps qs : List ByteArray} (ha : allA l ps) (hq : ∀ q ∈ qs, q ∈ ps) : allA (kL ps l sh) qs := by
  intro q hqm
  obtain ⟨i, h0, hi, e⟩ := isA_iff.1 (ha q (hq q hqm))
  rw [h.wy.own h0 hi] at e
  have hk : KW ps (wayAt sh i) = true := (KW_iff (h.pw ha)).2 (.inr ⟨q, hq q hqm, _, h.wy.ne h0 hi, e.symm, .inl (List.prefix_refl _)⟩)
  have hm : wayAt sh i ∈ waysS [] (kS ps sh) := by
    rw [h.ways ha]
    exact List.mem_filter.2 ⟨wayAt_mem (by rw [← h.sch.len]; exact hi), hk⟩
  obtain ⟨b, hb, eb⟩ := mem_wayAt hm
  have hK := h.kept ha
  have hb' : b < (kL ps l sh).length := by rw [hK.sch.len]; exact hb
  have hb0 : 0 < b := by
    rcases Nat.eq_zero_or_pos b with e0 | e0
    · rw [e0, hK.wy.root] at eb
      exact absurd eb.symm (h.wy.ne h0 hi)
    · exact e0
  exact isA_iff.2 ⟨b, hb0, hb', by rw [hK.wy.own hb0 hb', eb]; exact e⟩
/-- Kept, and less of it kept. -/
theorem SW.less {l : List Fl} {sh : Sh} (h : SW l sh) {ps qs : List ByteArray} (ha : allA l ps) (hq : ∀ q ∈ qs, q ∈ ps) (hne : qs ≠ []) : kS qs (kS ps sh) = kS qs sh ∧ kL qs (kL ps l sh) (kS ps sh) = kL qs l sh := by
  have h1 : kS qs (kS ps sh) = kS qs sh := by
    unfold kS
    rw [prW_prW]
    exact prW_congr sh [] (fun x _ => KW_sub (h.pw ha) hq hne x)
  refine ⟨h1, ?_⟩
  rw [(h.kept ha).flat_kept (h.allA_kept ha hq), h.flat_kept (fun q hq' => ha q (hq q hq')), h1]
/-- The same of trees. -/
theorem SW.less_t {l : List Fl} {sh : Sh} (h : SW l sh) {ps qs : List ByteArray} (ha : allA l ps) (hq : ∀ q ∈ qs, q ∈ ps) (hne : qs ≠ []) (t : Tr) : keptTW (KW qs) [] (kS ps sh) (keptTW (KW ps) [] sh t) = keptTW (KW qs) [] sh t := by
  unfold kS
  rw [keptTW_twice]
  exact keptTW_congr sh [] (fun x _ => KW_sub (h.pw ha) hq hne x) t
theorem kept_tree (ps : List ByteArray) (sh : Sh) : keptT (fun k => KW ps (wayAt sh k)) 0 sh = keptTW (KW ps) [] sh := keptT_W (fun _ => rfl) sh 0 [] (ways_all sh)
theorem KW_nil : KW [] = fun _ => true := by funext x; rfl
theorem kS_nil (sh : Sh) : kS [] sh = sh := by unfold kS; rw [KW_nil]; exact prW_true sh []
theorem allA_nil (l : List Fl) : allA l [] := fun _ h => by cases h
theorem SW.kL_nil {l : List Fl} {sh : Sh} (h : SW l sh) : kL [] l sh = l := by
  rw [h.flat_kept (allA_nil l), kS_nil, ← h.sch.flat]
end Go.Proofs.Ytgpffcgkfgiodaa
