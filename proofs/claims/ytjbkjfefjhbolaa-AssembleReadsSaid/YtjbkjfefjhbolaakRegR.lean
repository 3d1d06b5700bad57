import Derived.Test.YtjbkjfefjhbolaakRegJ
set_option linter.all false
open List renaming mem_range → zLP, mem_filter → zLS, all_eq_true → zLT, range → zLU
open Bool renaming and_eq_true → zLQ
open Array renaming getD_eq_getD_getElem? → zLR, replicate → zLV, getElem?_eq_none → zLW, getElem?_eq_some_iff → zLX, getElem?_eq_getElem → zLY
open Option renaming isSome_iff_exists → zLZ, getD_some → zL1
open Nat renaming lt_or_ge → zL0
namespace Go.Shr
open Go Go.RowKit
section
variable {P : Program} {ops : Array Oper} {Q : Exit → Act → World → Prop}
theorem zE1 {listed : Array Bool} (hc : zAD .any ops listed) {n : Nat} : ∀ {j i : Nat}, listed.getD j false = true → yY .any ops n j i = true → listed.getD i false = true := by
  induction n with
  | zero => intro j i _ h; cases h
  | succ n ih =>
    intro j i hj h
    obtain ⟨o, ho, e, he, hb, h1⟩ := zBp h
    have h2 := hc j o ho hj e he hb
    rcases h1 with h1 | h1
    · rw [← h1]; exact h2
    · exact ih h2 h1
def ObR (P : Program) (ops : Array Oper) (Q : Exit → Act → World → Prop) (a0 : Act) (w0 : World) (ds : List Nat) (S : World → Prop) (C : Nat → Value → World → Prop) (rel : Nat → Option (Nat × (Value → Value → Prop))) (i : Nat) : Prop :=
  ∀ o, ops[i]? = some o → ∀ a w, zBe a0 ds a → S w → Below w0.heap.size w0 w → (∀ d, yY .any ops 6 i d = true → C d (a.tmps.getD (yJ ops d) undef) w) → (∀ j d p, yY .any ops 6 i j = true → rel j = some (d, p) → p (a.tmps.getD (yJ ops d) undef) (a.tmps.getD (yJ ops j) undef)) →
    if Region.wanted o (yielded ops a.tmps) = true then Oper.wp P o a w (fun a' w' => ∃ v, a' = a.put o.dst v ∧ Below w.heap.size w w' ∧ C i v w' ∧ ∀ d p, rel i = some (d, p) → p (a.tmps.getD (yJ ops d) undef) v) Q else C i undef w ∧ ∀ d p, rel i = some (d, p) → p (a.tmps.getD (yJ ops d) undef) undef
structure HR (rel : Nat → Option (Nat × (Value → Value → Prop))) (ops : Array Oper) (F : List Nat) (a0 : Act) (w0 : World) (ds : List Nat) (S : World → Prop) (C : Nat → Value → World → Prop) (A : List Nat) (listed : Array Bool) (a : Act) (w : World) : Prop where
  ag : zBe a0 ds a
  s : S w
  b : Below w0.heap.size w0 w
  c : ∀ i, i < ops.size → F.contains i = false → listed.getD i false = true → C i (a.tmps.getD (yJ ops i) undef) w
  d : ∀ i ∈ A, ∀ j ∈ A, i ≠ j → listed.getD i false = true → listed.getD j false = true → a.tmps.getD (yJ ops i) undef ≠ a.tmps.getD (yJ ops j) undef
  e : ∀ i d p, i < ops.size → F.contains i = false → listed.getD i false = true → rel i = some (d, p) → p (a.tmps.getD (yJ ops d) undef) (a.tmps.getD (yJ ops i) undef)
theorem zJM {rel : Nat → Option (Nat × (Value → Value → Prop))} {F : List Nat} {a0 : Act} {w0 : World} {ds : List Nat} {S : World → Prop} {C : Nat → Value → World → Prop} {A : List Nat} {Z : Nat → Array Value × TypeId}
    (hok : okJ ops F ds = true) (hlt : ∀ d ∈ ds, d < a0.tmps.size) (hS : ∀ w w', Below w.heap.size w w' → S w → S w') (hC : ∀ i v w w', Below w.heap.size w w' → C i v w → C i v w')
    (hrl : ∀ i d p, rel i = some (d, p) → yY .any ops 6 i d = true ∧ d ≠ i ∧ d < ops.size ∧ F.contains d = false) (hra : ∀ i ∈ A, rel i = none)
    (hCA : ∀ i ∈ A, C i = zIC w0.heap.size (Z i).1 (Z i).2)
    (hob : ∀ i, i < ops.size → F.contains i = false → A.contains i = false → ObR P ops Q a0 w0 ds S C rel i) (hal : ∀ i ∈ A, ObA P ops Q i (Z i).1 (Z i).2)
    (hend : ∀ a w, HR rel ops F a0 w0 ds S C A (zAs ops.size F) a w → wpAny P .any ops Q F.length (zAs ops.size F) a w) :
    ∀ (m : Nat) (listed : Array Bool) (a : Act) (w : World), zDt ops.size F listed = m → listed.size = ops.size → zAD .any ops listed → (∀ f ∈ F, listed.getD f true = false) → HR rel ops F a0 w0 ds S C A listed a w → wpAny P .any ops Q (m + F.length) listed a w := by
  simp only [okJ, zLQ] at hok
  obtain ⟨⟨⟨hok1, hok2⟩, hok3⟩, hok4⟩ := hok
  have k1 : ∀ i o, ops[i]? = some o → F.contains i = false → (∃ d, o.dst = some d ∧ d ∈ ds) ∧ ∀ e ∈ o.after, Region.binds .any e = true → e.on < i ∧ F.contains e.on = false := by
    intro i o ho hF
    have hi := (zLX.1 ho).1
    have h1 := zLT.1 hok1 i (zLP.2 hi)
    simp only [hF, Bool.false_or, ho, zLQ] at h1
    refine ⟨?_, fun e he hb => ?_⟩
    · cases hd : o.dst with
      | none => rw [hd] at h1; simp at h1
      | some d => rw [hd] at h1; exact ⟨d, rfl, by simpa using h1.1⟩
    · have := Array.all_eq_true'.1 h1.2 e he
      simpa [hb] using this
  have k2 : ∀ i j, i < ops.size → j < ops.size → F.contains i = false → F.contains j = false → i ≠ j → yJ ops i ≠ yJ ops j := by
    intro i j hi hj hFi hFj hne
    have h1 := zLT.1 hok2 i (zLP.2 hi)
    simp only [hFi, Bool.false_or] at h1
    have h2 := zLT.1 h1 j (zLP.2 hj)
    rw [hFj] at h2; simpa [hne] using h2
  have k3 : ∀ f ∈ F, ∀ i, i < ops.size → F.contains i = false → yY .any ops 6 f i = true := by
    intro f hf i hi hFi
    have h1 := zLT.1 hok3 f hf
    simp only [zLQ] at h1
    have h2 := zLT.1 h1.2 i (zLP.2 hi)
    rw [hFi] at h2; simpa using h2
  intro m
  induction m with
  | zero =>
    intro listed a w hm hsz hcl hF hJ
    have hall : ∀ i, i < ops.size → F.contains i = false → listed.getD i true = true := by
      intro i hi hFi
      cases h : listed.getD i true with
      | true => rfl
      | false =>
        have : i ∈ (zLU ops.size).filter fun i => !F.contains i && !listed.getD i true := by
          rw [zLS]; exact ⟨zLP.2 hi, by rw [hFi, h]; rfl⟩
        unfold zDt at hm
        rw [List.length_eq_zero_iff.1 hm] at this
        cases this
    have e : listed = zAs ops.size F := by
      apply Array.ext
      · simp [zAs, hsz]
      · intro i h1 h2
        have hi : i < ops.size := by omega
        simp only [zAs, List.getElem_toArray, List.getElem_map, List.getElem_range]
        cases hc : F.contains i with
        | true =>
          have := hF i (by simpa using hc)
          simpa [h1] using this
        | false =>
          have := hall i hi hc
          simpa [h1] using this
    rw [Nat.zero_add, e]
    exact hend a w (e ▸ hJ)
  | succ m ih =>
    intro listed a w hm hsz hcl hF hJ
    rw [show m + 1 + F.length = (m + F.length) + 1 by omega]
    -- the least that is not listed yet
    have hex : ∃ i, i < ops.size ∧ F.contains i = false ∧ listed.getD i true = false := by
      have : 0 < zDt ops.size F listed := by omega
      obtain ⟨i, hi⟩ := List.exists_mem_of_length_pos this
      rw [zLS] at hi
      simp only [zLQ, Bool.not_eq_true'] at hi
      exact ⟨i, zLP.1 hi.1, hi.2.1, hi.2.2⟩
    obtain ⟨j0, hj0, hFj0, hlj0⟩ := hex
    have hleast : ∀ n j, j < n → j < ops.size → F.contains j = false → listed.getD j true = false → ∃ i, i ∈ Region.ready .any ops listed := by
      intro n
      induction n with
      | zero => intro j h; omega
      | succ n ihn =>
        intro j hjn hj hFj hlj
        by_cases hlow : ∃ k, k < j ∧ k < ops.size ∧ F.contains k = false ∧ listed.getD k true = false
        · obtain ⟨k, hk1, hk2, hk3, hk4⟩ := hlow
          exact ihn k (by omega) hk2 hk3 hk4
        · refine ⟨j, mem_ready.2 ⟨hlj, ops[j], zLY hj, fun e he hb => ?_⟩⟩
          obtain ⟨_, h2⟩ := k1 j ops[j] (zLY hj) hFj
          obtain ⟨h3, h4⟩ := h2 e he hb
          cases hle : listed.getD e.on true with
          | false => exact absurd ⟨e.on, h3, by omega, h4, hle⟩ hlow
          | true =>
            have hlt' : e.on < listed.size := by omega
            simpa [hlt'] using hle
    refine ⟨fun h0 => ?_, fun i hi => ?_⟩
    · obtain ⟨i, hi⟩ := hleast (j0 + 1) j0 (by omega) hj0 hFj0 hlj0
      rw [h0] at hi; cases hi
    · have hFi : F.contains i = false := by
        cases hc : F.contains i with
        | false => rfl
        | true =>
          have h1 := zAh hcl hi (k3 i (by simpa using hc) j0 hj0 hFj0)
          rw [getD_both hlj0] at h1; cases h1
      obtain ⟨hun, o, ho, hall⟩ := mem_ready.1 hi
      have hisz := (zLX.1 ho).1
      obtain ⟨⟨d, hd, hdm⟩, _⟩ := k1 i o ho hFi
      have hdo : yJ ops i = d := by simp [yJ, ho, hd]
      have hdlt : d < a.tmps.size := by rw [hJ.ag.size]; exact hlt d hdm
      have hilt : i < listed.size := by omega
      -- what holds behind it
      have next : ∀ v w', Below w.heap.size w w' → C i v w' → (∀ d p, rel i = some (d, p) → p (a.tmps.getD (yJ ops d) undef) v) → (i ∈ A → v = .pointer (some ⟨w.heap.size, 0, none⟩)) → wpAny P .any ops Q (m + F.length) (listed.setIfInBounds i true) (a.put (some d) v) w' := by
        intro v w' hb hv hrv hva
        have hne : ∀ j, i ≠ j → (listed.setIfInBounds i true).getD j false = listed.getD j false := fun j h => getD_set_ne false h
        refine ih _ _ _ ?_ (by simpa using hsz) (hcl.add hi) (fun f hf => ?_) ⟨hJ.ag.put hdm v, hS w w' hb hJ.s, hJ.b.trans (hb.mono hJ.b.size), fun j hj hFj hlj => ?_, fun j hj k hk hjk hlj hlk => ?_, fun j d2 p hj hFj hlj hrj => ?_⟩
        · have := zFI (l := zLU ops.size) List.nodup_range (p := fun i => !F.contains i && !listed.getD i true) (q := fun j => !F.contains j && !(listed.setIfInBounds i true).getD j true) (i := i) (zLP.2 hisz) (by simp only [hFi, hun]; rfl) (by simp [hilt]) (fun j _ hj => by rw [getD_set_ne true (Ne.symm hj)])
          unfold zDt at hm ⊢; omega
        · rw [getD_set_ne true (fun e => by subst e; have : F.contains i = true := by simpa using hf
                                            rw [hFi] at this; cases this)]
          exact hF f hf
        · by_cases hij : i = j
          · subst hij; rw [hdo, zAz a hdlt]; exact hv
          · rw [xW a (hdo ▸ k2 i j hisz hj hFi hFj hij)]
            exact hC j _ w w' hb (hJ.c j hj hFj (hne j hij ▸ hlj))
        · have hAF : ∀ x ∈ A, (listed.setIfInBounds i true).getD x false = true → x < ops.size ∧ F.contains x = false := by
            intro x hx hlx
            have hxs : x < ops.size := by
              rcases zL0 x ops.size with h | h
              · exact h
              · rw [zLR, zLW (by simp; omega)] at hlx; cases hlx
            refine ⟨hxs, ?_⟩
            cases hc : F.contains x with
            | false => rfl
            | true =>
              by_cases hix : i = x
              · subst hix; rw [hFi] at hc; cases hc
              · have h1 := hF x (by simpa using hc)
                rw [hne x hix] at hlx
                rw [getD_both h1] at hlx; cases hlx
          obtain ⟨hjs, hFj⟩ := hAF j hj hlj
          obtain ⟨hks, hFk⟩ := hAF k hk hlk
          have apart : ∀ x, x ∈ A → x < ops.size → F.contains x = false → i ∈ A → i ≠ x → listed.getD x false = true → a.tmps.getD (yJ ops x) undef ≠ .pointer (some ⟨w.heap.size, 0, none⟩) := by
            intro x hx hxs hFx _ _ hlx he
            have h1 := hJ.c x hxs hFx hlx
            rw [hCA x hx] at h1
            obtain ⟨b, hb1, _, hb3⟩ := h1
            rw [he] at hb1
            have := hb3.lt
            cases hb1
            omega
          by_cases hij : i = j
          · subst hij
            rw [hdo, zAz a hdlt, xW a (hdo ▸ k2 i k hisz hks hFi hFk hjk), hva hj]
            exact fun he => apart k hk hks hFk hj hjk (hne k hjk ▸ hlk) he.symm
          · by_cases hik : i = k
            · subst hik
              rw [hdo, zAz a hdlt, xW a (hdo ▸ k2 i j hisz hjs hFi hFj hij), hva hk]
              exact apart j hj hjs hFj hk hij (hne j hij ▸ hlj)
            · rw [xW a (hdo ▸ k2 i j hisz hjs hFi hFj hij), xW a (hdo ▸ k2 i k hisz hks hFi hFk hik)]
              exact hJ.d j hj k hk hjk (hne j hij ▸ hlj) (hne k hik ▸ hlk)
        · obtain ⟨hw1, hw2, hw3, hw4⟩ := hrl j d2 p hrj
          by_cases hij : i = j
          · subst hij
            rw [hdo, zAz a hdlt, xW a (hdo ▸ k2 i d2 hisz hw3 hFi hw4 (Ne.symm hw2))]
            exact hrv d2 p hrj
          · have hlj' := hne j hij ▸ hlj
            have hid : i ≠ d2 := fun e => by
              have := zE1 hcl hlj' hw1
              rw [← e, getD_both hun] at this
              cases this
            rw [xW a (hdo ▸ k2 i d2 hisz hw3 hFi hw4 hid), xW a (hdo ▸ k2 i j hisz hj hFi hFj hij)]
            exact hJ.e j d2 p hj hFj hlj' hrj
      unfold wpOp
      simp only [ho]
      cases hA : A.contains i with
      | true =>
        have hAi : i ∈ A := by simpa using hA
        obtain ⟨hg, hal'⟩ := hal i hAi o ho
        rw [if_pos (by simp [Region.wanted, hg])]
        refine .inl (Oper.wp_mono (fun a' w' ⟨h1, h2⟩ => ?_) (hal' a w))
        subst h1; subst h2
        rw [hd]
        exact next _ _ ((Below.refl _ _).alloc (Nat.le_refl _) _) (by rw [hCA i hAi]; exact ⟨_, rfl, hJ.b.size, Rw.new w _ _⟩) (fun d p h => by rw [hra i hAi] at h; cases h) (fun _ => rfl)
      | false =>
        have hAi : i ∉ A := by simpa using hA
        have hdeps : ∀ e, yY .any ops 6 i e = true → C e (a.tmps.getD (yJ ops e) undef) w := by
          intro e he
          have hle := zAh hcl hi he
          have hes : e < ops.size := by
            rcases zL0 e ops.size with h | h
            · exact h
            · rw [zLR, zLW (by omega)] at hle; cases hle
          refine hJ.c e hes ?_ hle
          cases hc : F.contains e with
          | false => rfl
          | true => have h1 := hF e (by simpa using hc); rw [getD_both h1] at hle; cases hle
        have hrels : ∀ j d p, yY .any ops 6 i j = true → rel j = some (d, p) → p (a.tmps.getD (yJ ops d) undef) (a.tmps.getD (yJ ops j) undef) := by
          intro j d2 p hw hr
          have hle := zAh hcl hi hw
          have hes : j < ops.size := by
            rcases zL0 j ops.size with h | h
            · exact h
            · rw [zLR, zLW (by omega)] at hle; cases hle
          have hFj : F.contains j = false := by
            cases hc : F.contains j with
            | false => rfl
            | true => have h1 := hF j (by simpa using hc); rw [getD_both h1] at hle; cases hle
          exact hJ.e j d2 p hes hFj hle hr
        have := hob i hisz hFi hA o ho a w hJ.ag hJ.s hJ.b hdeps hrels
        by_cases hw : Region.wanted o (yielded ops a.tmps) = true
        · rw [if_pos hw] at this ⊢
          refine .inl (Oper.wp_mono (fun a' w' ⟨v, h1, h2, h3, h4⟩ => ?_) this)
          subst h1
          rw [hd]
          exact next v w' h2 h3 h4 (fun h => absurd h hAi)
        · rw [if_neg hw] at this ⊢
          rw [hd]
          exact next undef w (Below.refl _ _) this.1 this.2 (fun h => absurd h hAi)
theorem zFA {rel : Nat → Option (Nat × (Value → Value → Prop))} {id : Nat} {a0 : Act} {w0 : World} (F : List Nat) (ds : List Nat) (S : World → Prop) (C : Nat → Value → World → Prop) (A : List Nat) (Z : Nat → Array Value × TypeId) (hm : P.follows .mixedOrders = true)
    (hok : okJ ops F ds = true) (hlt : ∀ d ∈ ds, d < a0.tmps.size) (hS0 : S w0) (hS : ∀ w w', Below w.heap.size w w' → S w → S w') (hC : ∀ i v w w', Below w.heap.size w w' → C i v w → C i v w')
    (hrl : ∀ i d p, rel i = some (d, p) → yY .any ops 6 i d = true ∧ d ≠ i ∧ d < ops.size ∧ F.contains d = false) (hra : ∀ i ∈ A, rel i = none)
    (hCA : ∀ i ∈ A, C i = zIC w0.heap.size (Z i).1 (Z i).2)
    (hob : ∀ i, i < ops.size → F.contains i = false → A.contains i = false → ObR P ops Q a0 w0.drew ds S C rel i) (hal : ∀ i ∈ A, ObA P ops Q i (Z i).1 (Z i).2)
    (hend : ∀ a w, HR rel ops F a0 w0.drew ds S C A (zAs ops.size F) a w → wpAny P .any ops Q F.length (zAs ops.size F) a w) : (Code.region id ops true).wp P Q a0 w0 := by
  refine wp_region_any hm ?_
  have h0 : ∀ i, (zLV ops.size false).getD i false = false := fun i => by
    rw [zLR]
    by_cases h : i < ops.size <;> simp [h]
  have hF : ∀ f ∈ F, f < ops.size := by
    have hok' := hok
    simp only [okJ, zLQ] at hok'
    intro f hf
    have h1 := zLT.1 hok'.1.2 f hf
    simp only [zLQ, decide_eq_true_eq] at h1
    exact h1.1
  have hN : F.Nodup := by simp only [okJ, zLQ, decide_eq_true_eq] at hok; exact hok.2
  have hsum : zDt ops.size F (zLV ops.size false) + F.length = ops.size := by
    have e1 : zDt ops.size F (zLV ops.size false) = ((zLU ops.size).filter fun i => !F.contains i).length := by
      unfold zDt
      congr 1
      refine List.filter_congr fun i hi => ?_
      have := zLP.1 hi
      simp [this]
    have e2 : ((zLU ops.size).filter fun i => F.contains i).length = F.length := by
      refine List.Perm.length_eq ((List.perm_ext_iff_of_nodup (List.nodup_range.filter _) hN).2 fun x => ?_)
      rw [zLS, zLP]
      constructor
      · intro h; simpa using h.2
      · intro h; exact ⟨hF x h, by simpa using h⟩
    have e3 : ∀ (l : List Nat) (p : Nat → Bool), (l.filter fun i => !p i).length + (l.filter p).length = l.length := by
      intro l p
      induction l with
      | nil => rfl
      | cons x l ih => cases hp : p x <;> simp [hp] <;> omega
    have := e3 (zLU ops.size) (fun i => F.contains i)
    rw [List.length_range] at this
    omega
  have key := zJM (rel := rel) (P := P) (Q := Q) (w0 := w0.drew) hok hlt hS hC hrl hra hCA hob hal hend (zDt ops.size F (zLV ops.size false)) (zLV ops.size false) a0 w0.drew rfl (by simp) (fun k o _ hk => by rw [h0] at hk; cases hk)
    (fun f hf => by have := hF f hf; simp [this])
    ⟨zBe.refl _ _, hS w0 w0.drew (Below.refl _ _).drew hS0, Below.refl _ _, fun i _ _ h => (by rw [h0] at h; cases h), fun i _ j _ _ h => (by rw [h0] at h; cases h), fun i _ _ _ _ h => (by rw [h0] at h; cases h)⟩
  rw [hsum] at key
  exact key
theorem zB4 {id : Nat} {a0 : Act} {w0 : World} (F : List Nat) (ds : List Nat) (S : World → Prop) (vals : List Value) (cs : Nat → Option (Value → World → Prop)) (al : Nat → Option (Array Value × TypeId)) (rel : Nat → Option (Nat × (Value → Value → Prop))) (hm : P.follows .mixedOrders = true)
    (hok : okJ ops F ds = true) (hlt : ∀ d ∈ ds, d < a0.tmps.size) (hS0 : S w0) (hS : ∀ w w', Below w.heap.size w w' → S w → S w')
    (hcs : ∀ i p, cs i = some p → ∀ v w w', Below w.heap.size w w' → p v w → p v w')
    (hrl : ∀ i d p, rel i = some (d, p) → yY .any ops 6 i d = true ∧ d ≠ i ∧ d < ops.size ∧ F.contains d = false) (hra : ∀ i, (al i).isSome = true → rel i = none)
    (hob : zY ops.size fun i => F.contains i = false → al i = none → ObR P ops Q a0 w0.drew ds S (CK w0.heap.size vals cs al) rel i)
    (hal : zY ops.size fun i => ∀ z, al i = some z → ObA P ops Q i z.1 z.2)
    (hend : ∀ a w, HR rel ops F a0 w0.drew ds S (CK w0.heap.size vals cs al) ((zLU ops.size).filter fun i => (al i).isSome) (zAs ops.size F) a w → ∀ G : Prop, Shut (wpAny P .any ops Q F.length (zAs ops.size F) a w → G) → G) : (Code.region id ops true).wp P Q a0 w0 := by
  replace hend := fun a w h => hend a w h _ (zH (fun k => k))
  refine zFA (rel := rel) F ds S (CK w0.heap.size vals cs al) ((zLU ops.size).filter fun i => (al i).isSome) (fun i => (al i).getD (#[], 0)) hm hok hlt hS0 hS ?_ hrl (fun i hi => hra i (zLS.1 hi).2) ?_ ?_ ?_ hend
  · intro i v w w' hb h
    unfold CK at *
    split at h
    · exact h.below hb
    · split at h
      · rename_i p hp; exact hcs i p hp v w w' hb h
      · exact h
  · intro i hi
    rw [zLS] at hi
    obtain ⟨z, hz⟩ := zLZ.1 hi.2
    funext v w
    simp only [CK, hz, zL1]
  · intro i hi hF hA
    refine hob i hi hF ?_
    cases hz : al i with
    | none => rfl
    | some z =>
      have : i ∈ (zLU ops.size).filter fun i => (al i).isSome := zLS.2 ⟨zLP.2 hi, by rw [hz]; rfl⟩
      have h2 : ((zLU ops.size).filter fun i => (al i).isSome).contains i = true := by simpa using this
      rw [h2] at hA; cases hA
  · intro i hi
    rw [zLS, zLP] at hi
    obtain ⟨z, hz⟩ := zLZ.1 hi.2
    have := hal i hi.1 z hz
    simpa only [hz, zL1] using this
theorem HR.open {rel : Nat → Option (Nat × (Value → Value → Prop))} {F : List Nat} {a0 : Act} {w0 : World} {ds : List Nat} {S : World → Prop} {C : Nat → Value → World → Prop} {A : List Nat} {a : Act} {w : World} (h : HR rel ops F a0 w0 ds S C A (zAs ops.size F) a w) :
    ∃ t, a = jF a0 ds t ∧ S w ∧ Below w0.heap.size w0 w ∧ (∀ i, i < ops.size → F.contains i = false → C i (t (yJ ops i)) w) ∧ (∀ i j, i ∈ A → j ∈ A → i ≠ j → F.contains i = false → F.contains j = false → i < ops.size → j < ops.size → t (yJ ops i) ≠ t (yJ ops j)) ∧ (∀ i d p, rel i = some (d, p) → i < ops.size → F.contains i = false → p (t (yJ ops d)) (t (yJ ops i))) := by
  have hl : ∀ i, i < ops.size → F.contains i = false → (zAs ops.size F).getD i false = true := by
    intro i hi hF
    simp [zAs, hi]; simpa using hF
  exact ⟨fun s => a.tmps.getD s undef, h.ag.eq, h.s, h.b, fun i hi hF => h.c i hi hF (hl i hi hF), fun i j hi hj hne hFi hFj hsi hsj => h.d i hi j hj hne (hl i hsi hFi) (hl j hsj hFj), fun i d p hr hi hF => h.e i d p hi hF (hl i hi hF) hr⟩
theorem ObJ.r {a0 : Act} {w0 : World} {ds : List Nat} {S : World → Prop} {C : Nat → Value → World → Prop} {rel : Nat → Option (Nat × (Value → Value → Prop))} {i : Nat} (hr : rel i = none) (h : ObJ P ops Q a0 w0 ds S C i) : ObR P ops Q a0 w0 ds S C rel i := by
  intro o ho a w hag hS hB hd _
  have h1 := h o ho a w hag hS hB hd
  have hn : ∀ x d p, rel i = some (d, p) → p (a.tmps.getD (yJ ops d) undef) x := fun x d p h => by rw [hr] at h; cases h
  by_cases hw : Region.wanted o (yielded ops a.tmps) = true
  · rw [if_pos hw] at h1 ⊢
    exact Oper.wp_mono (fun a' w' ⟨v, h2, h3, h4⟩ => ⟨v, h2, h3, h4, hn v⟩) h1
  · rw [if_neg hw] at h1 ⊢
    exact ⟨h1, hn _⟩
theorem ObR.mk {a0 : Act} {w0 : World} {ds : List Nat} {S : World → Prop} {C : Nat → Value → World → Prop} {rel : Nat → Option (Nat × (Value → Value → Prop))} {i d : Nat} {p : Value → Value → Prop} {o : Oper} (ho : ops[i]? = some o) (hrel : rel i = some (d, p))
    (h : ∀ t w, S w → Below w0.heap.size w0 w → (∀ d, yY .any ops 6 i d = true → C d (t (yJ ops d)) w) → ∀ G : Prop, Shut ((
      if Region.wanted o (yielded ops (jF a0 ds t).tmps) = true then Oper.wp P o (jF a0 ds t) w (fun a' w' => ∃ v, a' = (jF a0 ds t).put o.dst v ∧ Below w.heap.size w w' ∧ (C i v w' ∧ p (t (yJ ops d)) v)) Q else C i undef w ∧ p (t (yJ ops d)) undef) → G) → G) : ObR P ops Q a0 w0 ds S C rel i := by
  intro o' ho' a w hag hS hB hd _
  obtain rfl : o = o' := Option.some.inj (ho.symm.trans ho')
  have he := hag.eq
  have h1 := h (fun s => a.tmps.getD s undef) w hS hB hd _ (zH (fun k => k))
  rw [← he] at h1
  have hn : ∀ x, p (a.tmps.getD (yJ ops d) undef) x → ∀ d' p', rel i = some (d', p') → p' (a.tmps.getD (yJ ops d') undef) x := fun x hx d' p' h => by rw [hrel] at h; cases h; exact hx
  by_cases hw : Region.wanted o (yielded ops a.tmps) = true
  · rw [if_pos hw] at h1 ⊢
    exact Oper.wp_mono (fun a' w' ⟨v, h2, h3, h4, h5⟩ => ⟨v, h2, h3, h4, hn v h5⟩) h1
  · rw [if_neg hw] at h1 ⊢
    exact ⟨h1.1, hn _ h1.2⟩
theorem ObR.mk0 {a0 : Act} {w0 : World} {ds : List Nat} {S : World → Prop} {C : Nat → Value → World → Prop} {rel : Nat → Option (Nat × (Value → Value → Prop))} {i : Nat} {o : Oper} (ho : ops[i]? = some o) (hrel : rel i = none)
    (h : ∀ t w, S w → Below w0.heap.size w0 w → (∀ d, yY .any ops 6 i d = true → C d (t (yJ ops d)) w) → (∀ j d p, yY .any ops 6 i j = true → rel j = some (d, p) → p (t (yJ ops d)) (t (yJ ops j))) → ∀ G : Prop, Shut ((
      if Region.wanted o (yielded ops (jF a0 ds t).tmps) = true then Oper.wp P o (jF a0 ds t) w (fun a' w' => ∃ v, a' = (jF a0 ds t).put o.dst v ∧ Below w.heap.size w w' ∧ C i v w') Q else C i undef w) → G) → G) : ObR P ops Q a0 w0 ds S C rel i := by
  intro o' ho' a w hag hS hB hd hrs
  obtain rfl : o = o' := Option.some.inj (ho.symm.trans ho')
  have he := hag.eq
  have h1 := h (fun s => a.tmps.getD s undef) w hS hB hd hrs _ (zH (fun k => k))
  rw [← he] at h1
  have hn : ∀ x d p, rel i = some (d, p) → p (a.tmps.getD (yJ ops d) undef) x := fun x d p h => by rw [hrel] at h; cases h
  by_cases hw : Region.wanted o (yielded ops a.tmps) = true
  · rw [if_pos hw] at h1 ⊢
    exact Oper.wp_mono (fun a' w' ⟨v, h2, h3, h4⟩ => ⟨v, h2, h3, h4, hn v⟩) h1
  · rw [if_neg hw] at h1 ⊢
    exact ⟨h1, hn _⟩
theorem zLL {C : Nat → Value → World → Prop} {i : Nat} {o : Oper} {a : Act} {w : World} {E : Value → Prop} (hw : Region.wanted o (yielded ops a.tmps) = true)
    (h : ∀ K : Act → World → Prop, Shut (∀ v w', Below w.heap.size w w' → C i v w' → E v → K (a.put o.dst v) w') → Oper.wp P o a w K Q) :
    if Region.wanted o (yielded ops a.tmps) = true then Oper.wp P o a w (fun a' w' => ∃ v, a' = a.put o.dst v ∧ Below w.heap.size w w' ∧ (C i v w' ∧ E v)) Q else C i undef w ∧ E undef := by
  rw [if_pos hw]
  exact h _ (zH fun v w' hb hc he => ⟨v, rfl, hb, hc, he⟩)
theorem ObR.q {a0 : Act} {w0 : World} {ds : List Nat} {S : World → Prop} {B : Nat} {vals : List Value} {cs : Nat → Option (Value → World → Prop)} {al : Nat → Option (Array Value × TypeId)} {rel : Nat → Option (Nat × (Value → Value → Prop))} {i : Nat} {o : Oper} {v : Value} (ho : zEt ops.toList i = some o) (hr : rel i = none) (ha : al i = none) (hc : cs i = none) (hv : vals[i]? = some v)
    (h : ∀ t w, S w → Below w0.heap.size w0 w → (∀ d, yY .any ops 6 i d = true → CK B vals cs al d (t (yJ ops d)) w) → ∀ fr, jF a0 ds t = fr → Region.wanted o (yielded ops fr.tmps) = true ∧ (execOp fr.eval o).run P w = .ok (.value v) w) : ObR P ops Q a0 w0 ds S (CK B vals cs al) rel i := by
  refine ObJ.r hr (ObJ.mk (jB ho) (fun t w h1 h2 h3 G hG => hG.out ?_))
  obtain ⟨h4, h5⟩ := h t w h1 h2 h3 _ rfl
  exact obq h4 h5 (zDX ha hc hv)
theorem ObR.j {a0 : Act} {w0 : World} {ds : List Nat} {S : World → Prop} {C : Nat → Value → World → Prop} {rel : Nat → Option (Nat × (Value → Value → Prop))} {i : Nat} {o : Oper} (ho : zEt ops.toList i = some o) (hr : rel i = none)
    (h : ∀ t w, S w → Below w0.heap.size w0 w → (∀ d, yY .any ops 6 i d = true → C d (t (yJ ops d)) w) → ∀ fr, jF a0 ds t = fr →
      if Region.wanted o (yielded ops fr.tmps) = true then Oper.wp P o fr w (fun a' w' => ∃ v, a' = fr.put o.dst v ∧ Below w.heap.size w w' ∧ C i v w') Q else C i undef w) : ObR P ops Q a0 w0 ds S C rel i :=
  ObJ.r hr (ObJ.mk (jB ho) (fun t w h1 h2 h3 G hG => hG.out (h t w h1 h2 h3 _ rfl)))
end
end Go.Shr
