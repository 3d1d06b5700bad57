import Derived.Test.YtjbkjfefjhbolaakWays16
import Derived.Test.YtjbkjfefjhbolaakGood16
import Derived.Test.YtjbkjfefjhbolaakSSame14
set_option linter.all false
open Nat renaming le_refl → zLP
namespace Go.Proofs.Ytjbkjfefjhbolaa
open Go.RowKit Go.Shr
def zCT (l : List Fl) (sh : Sh) (L : List Cl) (n : Int) (w : World) (e : Ending) (w' : World) : Prop :=
  ∃ (x : List Tr) (a : Option Addr) (c : Nat) (ys : List Value) (er : Int), e = .returned (.tuple #[.slice a x.length c, .int .i64 er]) ∧ Sl (fun b => w.heap.size ≤ b) w' 3 a x.length c ys ∧ zZ (fun b => w.heap.size ≤ b) w' x ys ∧ Below w.heap.size w w' ∧
    ((n < 0 ∨ 200 < n ∨ L.length ≠ (zG l l.length).length) → er = 1 ∧ x = []) ∧
    (¬ (n < 0 ∨ 200 < n ∨ L.length ≠ (zG l l.length).length) → (er = 0 ∧ jA l sh L n x ∧ ∀ x0, jA l sh L n x0 → x0 = x) ∨ (er = 10 ∧ x = [] ∧ ∀ x0, ¬ jA l sh L n x0))
theorem zCT.arg {l : List Fl} {sh : Sh} {L : List Cl} {n : Int} {w w' : World} (hb : Below w.heap.size w w') (h : n < 0 ∨ 200 < n ∨ L.length ≠ (zG l l.length).length) : zCT l sh L n w (.returned (.tuple #[.slice none 0 0, .int .i64 1])) w' :=
  ⟨[], none, 0, [], 1, rfl, Sl.nil _ _ _ _, (by simp only [zZ]), hb, fun _ => ⟨rfl, rfl⟩, fun h2 => absurd h h2⟩
theorem zCT.bad {l : List Fl} {sh : Sh} {L : List Cl} {n : Int} {w w' : World} (hb : Below w.heap.size w w') (hn : ¬ (n < 0 ∨ 200 < n ∨ L.length ≠ (zG l l.length).length)) (h : ∀ x0, ¬ jA l sh L n x0) : zCT l sh L n w (.returned (.tuple #[.slice none 0 0, .int .i64 10])) w' :=
  ⟨[], none, 0, [], 10, rfl, Sl.nil _ _ _ _, (by simp only [zZ]), hb, fun h2 => absurd h2 hn, fun _ => .inr ⟨rfl, rfl, h⟩⟩
theorem KI.rowsI {B : Nat} {w : World} {bk n : Nat} {cur : Array Value} {aa : Nat → Option Addr} {cc : Nat → Nat} {K : Nat → List Int} (h : KI B w bk n cur aa cc K) {ok : Nat → Prop} (hb : ok bk) (ho : ∀ b, B ≤ b → b < w.heap.size → ok b) : zBd ok w bk n K :=
  ⟨hb, fun k hk => ⟨aa k, cc k, (h.row.cell k).trans (h.at' k hk), (h.own k hk).sl.mono (fun b hb' h' => ho b h'.1 hb') (by decide)⟩⟩
structure zLG (n m mL : Nat) (sa ca : Option Addr) (sc cc bx bk bl bi gL lc : Nat) (LV : List Value) (w1 w : World) : Prop where
  rx : Rw w bx #[.slice sa n sc, .slice (some ⟨bk, 0, none⟩) n n, .slice (some ⟨bl, 0, none⟩) n n, .slice (some ⟨gL, 0, none⟩) m lc, .slice ca mL cc, .slice none 0 0, .slice (some ⟨bi, 0, none⟩) n n, .bool false] 74
  rk : Rw w bk (madeCells #[.slice none 0 0] n) 22
  rl : Rw w bl (madeCells #[.int .i64 0, .int .i64 0, .int .i64 0, .int .i64 0] (n * 4)) 52
  ri : Rw w bi (madeCells #[.slice none 0 0] n) 22
  ol : Own w1.heap.size w 52 4 (some ⟨gL, 0, none⟩) m lc LV
  ne : bk ≠ bl ∧ bk ≠ bi ∧ bl ≠ bi ∧ bk ≠ bx ∧ bl ≠ bx ∧ bi ≠ bx
  neL : bk ≠ gL ∧ bl ≠ gL ∧ bi ≠ gL ∧ bx ≠ gL
  ge : w1.heap.size ≤ bk ∧ w1.heap.size ≤ bl ∧ w1.heap.size ≤ bi ∧ w1.heap.size ≤ bx
  gl : w1.heap.size ≤ gL ∧ gL < w.heap.size
  hb : Below w1.heap.size w1 w
theorem zHk {ok : Nat → Prop} {w : World} {l : List Tr} {ys : List Value} (h : zZ ok w l ys) : zZ (fun b => b < w.heap.size) w l ys := yN.g l ys h.at
structure zBQ (n M : Nat) (LV : List Value) (w W : World) (bk bl bi : Option Nat) (g : Option (Nat × Nat)) : Prop where
  hb : Below w.heap.size w W
  rk : ∀ b, bk = some b → Rw W b (madeCells #[.slice none 0 0] n) 22 ∧ w.heap.size ≤ b
  rl : ∀ b, bl = some b → Rw W b (madeCells #[.int .i64 0, .int .i64 0, .int .i64 0, .int .i64 0] (n * 4)) 52 ∧ w.heap.size ≤ b
  ri : ∀ b, bi = some b → Rw W b (madeCells #[.slice none 0 0] n) 22 ∧ w.heap.size ≤ b
  ol : ∀ b c, g = some (b, c) → Own w.heap.size W 52 4 (some ⟨b, 0, none⟩) M c LV ∧ w.heap.size ≤ b ∧ b < W.heap.size
  kl : ∀ x y, bk = some x → bl = some y → x ≠ y
  ki : ∀ x y, bk = some x → bi = some y → x ≠ y
  li : ∀ x y, bl = some x → bi = some y → x ≠ y
  kg : ∀ x y c, bk = some x → g = some (y, c) → x ≠ y
  lg : ∀ x y c, bl = some x → g = some (y, c) → x ≠ y
  ig : ∀ x y c, bi = some x → g = some (y, c) → x ≠ y
section
variable {n M : Nat} {LV : List Value} {w W W2 : World} {bk bl bi : Option Nat} {g : Option (Nat × Nat)} {b c : Nat}
theorem zBQ.start : zBQ n M LV w w none none none none := ⟨b0 w, (fun _ h => by cases h), (fun _ h => by cases h), (fun _ h => by cases h), (fun _ _ h => by cases h), (fun _ _ h => by cases h), (fun _ _ h => by cases h), (fun _ _ h => by cases h), (fun _ _ _ h => by cases h), (fun _ _ _ h => by cases h), (fun _ _ _ h => by cases h)⟩
theorem zBQ.below (h : zBQ n M LV w W bk bl bi g) (hb : Below W.heap.size W W2) : zBQ n M LV w W2 bk bl bi g :=
  ⟨bt h.hb hb, fun b e => ⟨(h.rk b e).1.below hb, (h.rk b e).2⟩, fun b e => ⟨(h.rl b e).1.below hb, (h.rl b e).2⟩, fun b e => ⟨(h.ri b e).1.below hb, (h.ri b e).2⟩,
   fun b c e => ⟨(h.ol b c e).1.below hb, (h.ol b c e).2.1, Nat.lt_of_lt_of_le (h.ol b c e).2.2 hb.size⟩, h.kl, h.ki, h.li, h.kg, h.lg, h.ig⟩
theorem zBQ.k (h : zBQ n M LV w W none bl bi g) (hb : b = W.heap.size) : zBQ n M LV w (W.alloc (.cells (madeCells #[.slice none 0 0] n) 22)) (some b) bl bi g := by
  have h' := h.below (ba (b0 W) (.cells (madeCells #[.slice none 0 0] n) 22))
  subst hb
  refine ⟨h'.hb, fun _ e => ?_, h'.rl, h'.ri, h'.ol, fun x y e1 e2 => ?_, fun x y e1 e2 => ?_, h'.li, fun x y c e1 e2 => ?_, h'.lg, h'.ig⟩ <;> (first | cases e | cases e1)
  · exact ⟨Rw.new W _ _, h.hb.size⟩
  · have := (h.rl y e2).1.lt; omega
  · have := (h.ri y e2).1.lt; omega
  · have := (h.ol y c e2).2.2; omega
theorem zBQ.l (h : zBQ n M LV w W bk none bi g) (hb : b = W.heap.size) : zBQ n M LV w (W.alloc (.cells (madeCells #[.int .i64 0, .int .i64 0, .int .i64 0, .int .i64 0] (n * 4)) 52)) bk (some b) bi g := by
  have h' := h.below (ba (b0 W) (.cells (madeCells #[.int .i64 0, .int .i64 0, .int .i64 0, .int .i64 0] (n * 4)) 52))
  subst hb
  refine ⟨h'.hb, h'.rk, fun _ e => ?_, h'.ri, h'.ol, fun x y e2 e1 => ?_, h'.ki, fun x y e1 e2 => ?_, h'.kg, fun x y c e1 e2 => ?_, h'.ig⟩ <;> (first | cases e | cases e1)
  · exact ⟨Rw.new W _ _, h.hb.size⟩
  · have := (h.rk x e2).1.lt; omega
  · have := (h.ri y e2).1.lt; omega
  · have := (h.ol y c e2).2.2; omega
theorem zBQ.i (h : zBQ n M LV w W bk bl none g) (hb : b = W.heap.size) : zBQ n M LV w (W.alloc (.cells (madeCells #[.slice none 0 0] n) 22)) bk bl (some b) g := by
  have h' := h.below (ba (b0 W) (.cells (madeCells #[.slice none 0 0] n) 22))
  subst hb
  refine ⟨h'.hb, h'.rk, h'.rl, fun _ e => ?_, h'.ol, h'.kl, fun x y e2 e1 => ?_, fun x y e2 e1 => ?_, h'.kg, h'.lg, fun x y c e1 e2 => ?_⟩ <;> (first | cases e | cases e1)
  · exact ⟨Rw.new W _ _, h.hb.size⟩
  · have := (h.rk x e2).1.lt; omega
  · have := (h.rl x e2).1.lt; omega
  · have := (h.ol y c e2).2.2; omega
theorem zBQ.lv (h : zBQ n M LV w W bk bl bi none) (hb : Below W.heap.size W W2) (ho : Own W.heap.size W2 52 4 (some ⟨b, 0, none⟩) M c LV) (h1 : W.heap.size ≤ b) (h2 : b < W2.heap.size) : zBQ n M LV w W2 bk bl bi (some (b, c)) := by
  have h' := h.below hb
  have hs := h.hb.size
  refine ⟨h'.hb, h'.rk, h'.rl, h'.ri, fun _ _ e => ?_, h'.kl, h'.ki, h'.li, fun x y c e1 e => ?_, fun x y c e1 e => ?_, fun x y c e1 e => ?_⟩ <;> cases e
  · exact ⟨ho.mono hs, by omega, h2⟩
  · have := (h.rk x e1).1.lt; omega
  · have := (h.rl x e1).1.lt; omega
  · have := (h.ri x e1).1.lt; omega
end
theorem zBQ.done {n m mL : Nat} {sa ca : Option Addr} {sc cc bx bk bl bi gL lc : Nat} {LV : List Value} {w W : World} (h : zBQ n m LV w W (some bk) (some bl) (some bi) (some (gL, lc))) (hx : bx = W.heap.size) :
    zLG n m mL sa ca sc cc bx bk bl bi gL lc LV w (W.alloc (.cells #[.slice sa n sc, .slice (some ⟨bk, 0, none⟩) n n, .slice (some ⟨bl, 0, none⟩) n n, .slice (some ⟨gL, 0, none⟩) m lc, .slice ca mL cc, .slice none 0 0, .slice (some ⟨bi, 0, none⟩) n n, .bool false] 74)) := by
  subst hx
  have h' := h.below (ba (b0 W) (.cells #[.slice sa n sc, .slice (some ⟨bk, 0, none⟩) n n, .slice (some ⟨bl, 0, none⟩) n n, .slice (some ⟨gL, 0, none⟩) m lc, .slice ca mL cc, .slice none 0 0, .slice (some ⟨bi, 0, none⟩) n n, .bool false] 74))
  have h1 := (h.rk _ rfl).1.lt; have h2 := (h.rl _ rfl).1.lt; have h3 := (h.ri _ rfl).1.lt; have h4 := (h.ol _ _ rfl).2.2
  exact ⟨Rw.new W _ _, (h'.rk _ rfl).1, (h'.rl _ rfl).1, (h'.ri _ rfl).1, (h'.ol _ _ rfl).1, ⟨h.kl _ _ rfl rfl, h.ki _ _ rfl rfl, h.li _ _ rfl rfl, by omega, by omega, by omega⟩, ⟨h.kg _ _ _ rfl rfl, h.lg _ _ _ rfl rfl, h.ig _ _ _ rfl rfl, by omega⟩,
    ⟨(h.rk _ rfl).2, (h.rl _ rfl).2, (h.ri _ rfl).2, h.hb.size⟩, ⟨(h.ol _ _ rfl).2.1, (h'.ol _ _ rfl).2.2⟩, h'.hb⟩
set_option maxHeartbeats 4000000 in
set_option maxRecDepth 100000 in
theorem zBr {l : List Fl} {sh : Sh} {W : Nat → List UInt8} (hS : Sch l sh) (hw : Wy l W) (hrp : ∀ x ∈ l, x.rep = 0 ∨ x.rep = 1 ∨ x.rep = 2) (hr0 : sh.rep = 0) (sa ca : Option Addr) (sc m cc : Nat) (L : List Cl) (xs : List Value) (n : Int) (w : World)
    (hs : Sl (fun b => b < w.heap.size) w 4 sa l.length sc (fls l)) (hc : xE w ca m cc L xs) (hlen : ∀ X ∈ L, X.d.length ≤ 1000000) (hstr : ∀ X ∈ L, ∀ v ∈ X.v, v.s.size ≤ maxLen) :
    Calls Try.prog 14 #[.slice sa l.length sc, .slice ca m cc, .int .i64 n] w (zCT l sh L n w) := by
  have hn := hw.len
  have hn0 := hw.pos
  obtain rfl := hc.n
  have hmf' := hmf
  have hmk := fun w => qM (P := Try.prog) 23 22 _ 24 1 Try.underlying23 zCC .i64 .i64 l.length (by omega) (by omega) w
  have hmk2 := fun w => qM (P := Try.prog) 49 52 _ 32 4 Try.underlying49 zCo .i64 .i64 l.length (by omega) (by omega) w
  have hmp := hS.leafs_pos
  have hml := zBD hS
  have hLm := Nat.le_trans hc.sl.le hc.sl.max
  unfold maxLen at hLm
  have HS := zH hs; have HC := zH hc; have HSC := zH hS; have HW := zH hw; have HRP := zH hrp; have HR0 := zH hr0; have HLEN := zH hlen; have HSTR := zH hstr
  have HLEA := zH (fun (V : World) (hb : Below w.heap.size w V) => zEp sa sc l V (slb HS.out hb) (by omega) HSC.out.kids HRP.out)
  clear hs hc hS hw hrp hr0 hlen hstr
  generalize hM : (zG l l.length).length = M at *
  have HM := zH hM
  clear hM
  go_enter Try.func14, Try.ntmps14
  go_wp2_with fail
  refine wp_scope_jumps 0 (fun a' w' => (fun u : Nat → Value => a' = { tmps := List.toArray (((u 0)) :: ((u 1)) :: ((u 2)) :: ((u 3)) :: ((u 4)) :: ((u 5)) :: ((u 6)) :: ((u 7)) :: ((u 8)) :: ((u 9)) :: ((u 10)) :: ((u 11)) :: ((u 12)) :: ((u 13)) :: ((u 14)) :: ((u 15)) :: ((u 16)) :: ((u 17)) :: ((u 18)) :: ((u 19)) :: ((u 20)) :: ((u 21)) :: ((u 22)) :: ((u 23)) :: ((u 24)) :: ((u 25)) :: ((u 26)) :: ((u 27)) :: ((u 28)) :: ((u 29)) :: ((u 30)) :: ((u 31)) :: ((u 32)) :: ((u 33)) :: ((u 34)) :: ((u 35)) :: ((u 36)) :: ((u 37)) :: ((u 38)) :: ((u 39)) :: ((u 40)) :: ((u 41)) :: ((u 42)) :: ((u 43)) :: ((u 44)) :: ((u 45)) :: ((u 46)) :: ((u 47)) :: ((u 48)) :: ((u 49)) :: ((u 50)) :: ((u 51)) :: ((u 52)) :: ((u 53)) :: ((u 54)) :: ((u 55)) :: ((u 56)) :: ((u 57)) :: ((u 58)) :: ((u 59)) :: ((u 60)) :: ((u 61)) :: ((u 62)) :: ((u 63)) :: ((u 64)) :: ((u 65)) :: ((u 66)) :: ((u 67)) :: ((u 68)) :: ((u 69)) :: ((u 70)) :: ((u 71)) :: ((u 72)) :: ((u 73)) :: ((u 74)) :: ((u 75)) :: ((u 76)) :: ((u 77)) :: ((u 78)) :: ((u 79)) :: ((u 80)) :: ((u 81)) :: ((u 82)) :: []), defers := [] }) (fun k => a'.tmps.getD k undef) ∧ Hid (Below w.heap.size w w') ∧ Hid (¬ (n < 0 ∨ 200 < n ∨ L.length ≠ M)) ∧ Hid (∀ x0, ¬ jA l sh L n x0)) (fun _ _ => 0) rfl ?first ?pass
  case pass =>
    rintro a' w' ⟨ha, HB, HA, HN⟩
    obtain ⟨u, rfl⟩ : ∃ u : Nat → Value, a' = { tmps := List.toArray (((u 0)) :: ((u 1)) :: ((u 2)) :: ((u 3)) :: ((u 4)) :: ((u 5)) :: ((u 6)) :: ((u 7)) :: ((u 8)) :: ((u 9)) :: ((u 10)) :: ((u 11)) :: ((u 12)) :: ((u 13)) :: ((u 14)) :: ((u 15)) :: ((u 16)) :: ((u 17)) :: ((u 18)) :: ((u 19)) :: ((u 20)) :: ((u 21)) :: ((u 22)) :: ((u 23)) :: ((u 24)) :: ((u 25)) :: ((u 26)) :: ((u 27)) :: ((u 28)) :: ((u 29)) :: ((u 30)) :: ((u 31)) :: ((u 32)) :: ((u 33)) :: ((u 34)) :: ((u 35)) :: ((u 36)) :: ((u 37)) :: ((u 38)) :: ((u 39)) :: ((u 40)) :: ((u 41)) :: ((u 42)) :: ((u 43)) :: ((u 44)) :: ((u 45)) :: ((u 46)) :: ((u 47)) :: ((u 48)) :: ((u 49)) :: ((u 50)) :: ((u 51)) :: ((u 52)) :: ((u 53)) :: ((u 54)) :: ((u 55)) :: ((u 56)) :: ((u 57)) :: ((u 58)) :: ((u 59)) :: ((u 60)) :: ((u 61)) :: ((u 62)) :: ((u 63)) :: ((u 64)) :: ((u 65)) :: ((u 66)) :: ((u 67)) :: ((u 68)) :: ((u 69)) :: ((u 70)) :: ((u 71)) :: ((u 72)) :: ((u 73)) :: ((u 74)) :: ((u 75)) :: ((u 76)) :: ((u 77)) :: ((u 78)) :: ((u 79)) :: ((u 80)) :: ((u 81)) :: ((u 82)) :: []), defers := [] } := ⟨fun k => a'.tmps.getD k undef, ha⟩
    clear ha
    go_wp2_with fail
    simp only [Exit.jump]
    refine bodyPost_ret (v := .tuple #[.slice none 0 0, .int .i64 10]) (by simp [results, Try.results14, go_sem]) rfl ?_
    exact zCT.bad HB.out (by rw [HM.out]; exact HA.out) HN.out
  go_wp2_with fail
  go_cut [9] from 12 to 26 (fun v wc => ∃ bx bk bl bi gL lc, v = .pointer (some ⟨bx, 0, none⟩) ∧ Hid (zLG l.length M L.length sa ca sc cc bx bk bl bi gL lc (lvs l (zG l l.length)) w wc))
  case first =>
    have T := zBQ.start (n := l.length) (M := M) (LV := lvs l (zG l l.length)) (w := w)
    refine zF (fun _ => True) [15] (by decide +kernel) ?g61rgS (fun hHeld => ?g61rgR)
    case g61rgS => trivial
    try dsimp only at hHeld
    obtain ⟨W, hW⟩ : ∃ W, W = w.drew := ⟨_, rfl⟩; rw [← hW]; (replace T := T.below (show Below w.heap.size w W by rw [hW]; exact (b0 w).drew)); clear hW
    repeat' first
      | exact zA.nil
      | refine zB (fuel := 6) [3, 6, 8, 12] (by decide +kernel) (by simp) ?_
      | refine zB (fuel := 5) [6, 8, 12] (by decide +kernel) (by simp) ?_
      | refine zB (fuel := 5) [3, 8, 12] (by decide +kernel) (by simp) ?_
      | refine zB (fuel := 5) [3, 6, 12] (by decide +kernel) (by simp) ?_
      | refine zB (fuel := 5) [3, 6, 8] (by decide +kernel) (by simp) ?_
      | refine zB (fuel := 4) [8, 12] (by decide +kernel) (by simp) ?_
      | refine zB (fuel := 4) [6, 12] (by decide +kernel) (by simp) ?_
      | refine zB (fuel := 4) [6, 8] (by decide +kernel) (by simp) ?_
      | refine zB (fuel := 4) [3, 12] (by decide +kernel) (by simp) ?_
      | refine zB (fuel := 4) [3, 8] (by decide +kernel) (by simp) ?_
      | refine zB (fuel := 4) [3, 6] (by decide +kernel) (by simp) ?_
      | refine zB (fuel := 3) [12] (by decide +kernel) (by simp) ?_
      | refine zB (fuel := 3) [8] (by decide +kernel) (by simp) ?_
      | refine zB (fuel := 3) [6] (by decide +kernel) (by simp) ?_
      | refine zB (fuel := 3) [3] (by decide +kernel) (by simp) ?_
      | refine zB (fuel := 1) [14] (by decide +kernel) (by simp) ?_
      | refine zB (fuel := 0) [15] (by decide +kernel) (by simp) ?_
      | (refine zD [0, 1, 2, 4, 5, 7, 9, 10, 11] 7 (by decide +kernel) (fun _ _ _ _ _ h => h) (by assumption) ?_; (iterate 9 ((apply YA.take rfl (by rfl); case hy => intro w hSw; go_simp; try with_reducible rfl); try simp only [pD])); refine YA.nil ?_)
      | (refine zD [13] 2 (by decide +kernel) (fun _ _ _ _ _ h => h) (by assumption) ?_; (iterate 1 ((apply YA.take rfl (by rfl); case hy => intro w hSw; go_simp; try with_reducible rfl); try simp only [pD])); refine YA.nil ?_)
      | (refine zA.con 3 rfl (fun K hK => ?_) ?_; ((obtain ⟨bk, hb⟩ : ∃ b2, b2 = W.heap.size := ⟨_, rfl⟩); go_simp; rw [← hb]; (replace T := T.k hb); refine xN (fun W hW => ?_); rw [← hW] at T; clear hW hb); (refine hK.out _ _ (by trivial) (fun hHeld => ?_)); try dsimp only at hHeld; clear hK K; try simp only [pD])
      | (refine zA.con 6 rfl (fun K hK => ?_) ?_; ((obtain ⟨bl, hb⟩ : ∃ b2, b2 = W.heap.size := ⟨_, rfl⟩); go_simp; rw [← hb]; (replace T := T.l hb); refine xN (fun W hW => ?_); rw [← hW] at T; clear hW hb); (refine hK.out _ _ (by trivial) (fun hHeld => ?_)); try dsimp only at hHeld; clear hK K; try simp only [pD])
      | (refine zA.con 8 rfl (fun K hK => ?_) ?_; (go_simp; refine (HLEA.out W T.hb).mono ?_; rintro e W2 ⟨aL, lc, rfl, oL, hbL⟩; (obtain ⟨gL, hgL, h1, h2, _, _⟩ := oL.pos hmp); subst hgL; dsimp only; (replace T := T.lv hbL oL h1 h2); clear oL hbL h1 h2; (obtain ⟨W, hW2⟩ : ∃ W, W = W2 := ⟨_, rfl⟩); subst hW2); (refine hK.out _ _ (by trivial) (fun hHeld => ?_)); try dsimp only at hHeld; clear hK K; try simp only [pD])
      | (refine zA.con 12 rfl (fun K hK => ?_) ?_; ((obtain ⟨bi, hb⟩ : ∃ b2, b2 = W.heap.size := ⟨_, rfl⟩); go_simp; rw [← hb]; (replace T := T.i hb); refine xN (fun W hW => ?_); rw [← hW] at T; clear hW hb); (refine hK.out _ _ (by trivial) (fun hHeld => ?_)); try dsimp only at hHeld; clear hK K; try simp only [pD])
      | (refine zA.con 14 rfl (fun K hK => ?_) ?_; ((obtain ⟨bx, hb⟩ : ∃ b2, b2 = W.heap.size := ⟨_, rfl⟩); go_simp; rw [← hb]; (have R := T.done (sa := sa) (ca := ca) (sc := sc) (cc := cc) (mL := L.length) hb); refine xN (fun W hW => ?_); rw [← hW] at R; clear hW hb T); (refine hK.out _ _ (by trivial) (fun hHeld => ?_)); try dsimp only at hHeld; clear hK K; try simp only [pD])
      | (refine zA.lst 15 rfl (by decide +kernel) (fun K hK => ?_) ?_; (go_simp); refine hK.out _ _ ?_; clear hK K; try simp only [pD])
      | (refine zE (by decide +kernel) ?_
         go_wp2_with fail
         go_meet
         case rel => exact ⟨bx, bk, bl, bi, gL, lc, rfl, zH R⟩)
  case rest =>
    obtain ⟨bx, bk, bl, bi, gL, lc, rfl, HR⟩ := hcut
    clear hmk hmk2 HLEA
    obtain ⟨w1, rfl⟩ : ∃ wo : World, wo = wc := ⟨_, rfl⟩
    have x3 : w1.cell? ⟨bx, 3, none⟩ = some (.slice (some ⟨gL, 0, none⟩) M lc) := HR.out.rx.cell 3
    have hl0 : ((l.length : Int) == 0) = false := beq_eq_false_iff_ne.2 (by omega)
    have HL0 : Hid (¬ l.length = 0) := zH (by omega)
    by_cases hneg : n < 0
    · have HA : Hid (n < 0 ∨ 200 < n ∨ L.length ≠ (zG l l.length).length) := zH (.inl hneg)
      go_wp2_with fail
      go_ret2
      exact zCT.arg HR.out.hb HA.out
    by_cases hbig : 200 < n
    · have HA : Hid (n < 0 ∨ 200 < n ∨ L.length ≠ (zG l l.length).length) := zH (.inr (.inl hbig))
      go_wp2_with fail
      go_ret2
      exact zCT.arg HR.out.hb HA.out
    by_cases hLM : L.length = M
    rotate_left
    · have HA : Hid (n < 0 ∨ 200 < n ∨ L.length ≠ (zG l l.length).length) := zH (.inr (.inr (by rw [HM.out]; exact hLM)))
      have hb : ((L.length : Int) != (M : Int)) = true := by simp; omega
      clear hLM
      go_wp2_with fail
      go_ret2
      exact zCT.arg HR.out.hb HA.out
    have hb : ((L.length : Int) != (M : Int)) = false := by simp; omega
    have HNA : Hid (¬ (n < 0 ∨ 200 < n ∨ L.length ≠ M)) := zH (fun h => by rcases h with h | h | h; exact hneg h; exact hbig h; exact h hLM)
    subst hLM
    obtain ⟨N, rfl⟩ : ∃ N : Nat, n = (N : Int) := ⟨n.toNat, by omega⟩
    have hN : N ≤ 200 := by omega
    -- the builder
    obtain ⟨q, hq⟩ : ∃ q : BQ, q = { l := l, sa := sa, sc := sc, bx := bx, B0 := 0, bk := bk, bl := bl, bv := 0, bi := bi, la := some ⟨gL, 0, none⟩, lc := lc, ca := ca, cc := cc, L := L, xs := xs } := ⟨_, rfl⟩
    obtain ⟨hr1, hr2, hr3, hr4⟩ := HR.out.ge
    have hrg := HR.out.gl
    have hqm : (zG l l.length).length = L.length := HM.out
    have hsz1 := HR.out.hb.size
    have HW0 : Hid (W0 q w1) := zH (by
      subst hq
      refine ⟨by unfold BQ.box0 BQ.n BQ.m; dsimp only; rw [hqm]; exact HR.out.rx, HR.out.rk, HR.out.rl, HR.out.ri, HR.out.ne, ?_, ?_⟩
      · exact (HS.out.below HR.out.hb).mono (fun b _ h => ⟨by omega, by dsimp only; omega, by dsimp only; omega, by dsimp only; omega, by dsimp only; omega⟩) (by decide)
      · have h := HR.out.ol.sl
        have hnl := HR.out.neL
        unfold BQ.m
        dsimp only
        rw [hqm]
        exact h.mono (fun b _ h => by
          obtain ⟨_, ⟨o, s, e⟩, h3⟩ := h
          cases e
          exact ⟨h3, fun e => hnl.1 e.symm, fun e => hnl.2.1 e.symm, fun e => hnl.2.2.1 e.symm, fun e => hnl.2.2.2 e.symm⟩) (by decide))
    have HWAYS : Hid (Calls Try.prog 28 #[.pointer (some ⟨bx, 0, none⟩)] w1 (zKE q w1)) := zH (by
      have h := zKQ q (by subst hq; show l.length ≤ 1000; omega) (by subst hq; exact HSC.out.kids) (by subst hq; exact HRP.out) w1 HW0.out
      subst hq
      exact h)
    have HQ := zH hq
    clear hq hqm x3
    have x3 : w1.cell? ⟨bx, 3, none⟩ = some (.slice (some ⟨gL, 0, none⟩) L.length lc) := HR.out.rx.cell 3
    go_wp2_with fail
    refine HWAYS.out.mono ?_
    rintro e w2 ⟨rfl, hk2, hl2, hi2, hc2⟩
    have HK2 := zH hk2; have HL2 := zH hl2; have HI2 := zH hi2; have HC2 := zH hc2
    have hs2 := hc2.size
    clear x3 hk2 hl2 hi2 hc2 HWAYS
    have hq := HQ.out
    have hSx : ∀ b, b < w1.heap.size → b ≠ bk → b ≠ bl → b ≠ bi → ¬ (b = q.bk ∨ b = q.bl ∨ b = q.bi ∨ w1.heap.size ≤ b) := by
      subst hq
      intro b h1 h2 h3 h4 h
      dsimp only at h
      omega
    have hne := HR.out.ne
    have hrx2 := HR.out.rx.chg HC2.out (hSx bx HR.out.rx.lt (fun h => hne.2.2.2.1 h.symm) (fun h => hne.2.2.2.2.1 h.symm) (fun h => hne.2.2.2.2.2 h.symm))
    have y5 : w2.cell? ⟨bx, 5, none⟩ = some (.slice none 0 0) := hrx2.cell 5
    have yf := hrx2.frozen
    have yl := hrx2.lt
    have HRX2 := zH hrx2
    have hmk3 := fun w => qM (P := Try.prog) 23 22 _ 24 1 Try.underlying23 zCC .i64 .i64 L.length (by omega) (by omega) w
    have HSX := zH hSx
    clear hq hSx hrx2
    go_upto_region 8 with fail
    obtain ⟨bv, hbv⟩ : ∃ b, b = w2.heap.size := ⟨_, rfl⟩
    refine yE (fun w3 hw3 => ?_)
    have hrv3 : Rw w3 bv (madeCells #[.slice none 0 0] L.length) 22 := by rw [hw3, hbv]; exact Rw.new' (by simp)
    have hrx3 : Rw w3 bx #[.slice sa l.length sc, .slice (some ⟨bk, 0, none⟩) l.length l.length, .slice (some ⟨bl, 0, none⟩) l.length l.length, .slice (some ⟨gL, 0, none⟩) L.length lc, .slice ca L.length cc, .slice (some ⟨bv, 0, none⟩) L.length L.length, .slice (some ⟨bi, 0, none⟩) l.length l.length, .bool false] 74 := by rw [hw3, hbv]; exact (HRX2.out.set 5 _).alloc _
    have hc3 : Chg (fun b => b = bx ∨ w2.heap.size ≤ b) w2 w3 := by rw [hw3]; exact (Chg.setCell (Chg.refl (fun b => b = bx ∨ w2.heap.size ≤ b) w2) (p := ⟨bx, 5, none⟩) (Or.inr (Or.inl rfl)) _).alloc _
    have HRV3 := zH hrv3; have HRX3 := zH hrx3; have HC3 := zH hc3
    have hv3 := hrv3.lt
    have hs3 := hc3.size
    rw [← hbv]
    have HBV := zH hbv
    clear hw3 hrv3 hrx3 hc3 y5 yf yl hmk3 hbv
    obtain ⟨q1, hq1⟩ : ∃ q1 : BQ, q1 = { q with B0 := bv, bv := bv } := ⟨_, rfl⟩
    have HB2 : Hid (Below w.heap.size w w2) := zH (Chg.bt HR.out.hb HC2.out (fun b hb h => by
      have hq := HQ.out
      subst hq
      dsimp only at h
      omega))
    have HB3 : Hid (Below w.heap.size w w3) := zH (Chg.bt HB2.out HC3.out (fun b hb h => by omega))
    have HST : Hid (BS0 q1 w3 ∧ Rw w3 q1.bx (q1.box false) 74 ∧ KI w3.heap.size w3 q1.bv q1.m (madeCells #[.slice none 0 0] L.length) (fun _ => none) (fun _ => 0) (fun _ => [])) := zH (by
      have hq := HQ.out
      obtain ⟨ck, ak, cck, hki⟩ := HK2.out
      obtain ⟨cl, hrl, hlv⟩ := HL2.out
      obtain ⟨ci, ai, cci, Ki, hii, hil⟩ := HI2.out
      have hqm : (zG l l.length).length = L.length := HM.out
      have hc2 := HC2.out
      have hbv := HBV.out
      subst hq1
      subst hq
      dsimp only [BQ.n] at hki hrl hlv hii hil hc2
      have ltk := HR.out.rk.lt; have ltl := HR.out.rl.lt; have lti := HR.out.ri.lt; have ltx := HR.out.rx.lt
      have hnl := HR.out.neL
      have hgo : ∀ b, (b < bv ∧ b ≠ bx) → ¬ (b = bx ∨ w2.heap.size ≤ b) := fun b h h2 => by omega
      have hsl2 : Sl (fun b => b < bv ∧ b ≠ bx) w2 4 sa l.length sc (fls l) := (HS.out.below HR.out.hb).go hc2 (fun b _ h => ⟨fun h2 => by omega, by omega, by omega⟩) (by decide)
      have hlv2 : Sl (fun b => b < bv ∧ b ≠ bx) w2 4 (some ⟨gL, 0, none⟩) L.length lc (lvs l (zG l l.length)) := by
        have h := HR.out.ol.sl
        exact h.go hc2 (fun b _ h => by
          obtain ⟨_, ⟨o, s, e⟩, h3⟩ := h
          cases e
          exact ⟨fun h2 => by omega, by omega, fun e => hnl.2.2.2 e.symm⟩) (by decide)
      have hB : Below w.heap.size w w2 := HB2.out
      have hcs2 : Sl (fun b => b < bv ∧ b ≠ bx) w2 3 ca L.length cc xs := (HC.out.sl.below hB).mono (fun b _ h => ⟨by omega, by omega⟩) (by decide)
      have hhd2 : HdG (fun b => b < bv ∧ b ≠ bx) w2 L xs := (HC.out.hd.go (S := fun _ => False) (ok' := fun b => b < w.heap.size) (chF hB) (fun b _ h => ⟨fun h => h, h⟩)).mono (fun b h => ⟨by omega, by omega⟩)
      refine ⟨?_, ?_, ?_⟩
      · refine BS0.go (S := fun b => b = bx ∨ w2.heap.size ≤ b) (w := w2) ?_ HC3.out hgo
        refine ⟨hsl2, hki.rowsI ⟨by dsimp only; omega, hne.2.2.2.1⟩ (fun b h1 h2 => ⟨by dsimp only; omega, by dsimp only; omega⟩), ⟨by dsimp only; omega, hne.2.2.2.2.1⟩, fun j v hj => ?_, ?_, ?_, hhd2, ⟨Ki, hii.rowsI ⟨by dsimp only; omega, hne.2.2.2.2.2⟩ (fun b h1 h2 => ⟨by dsimp only; omega, by dsimp only; omega⟩), hil⟩⟩
        · exact (hrl.cell j).trans (hlv.2 j v hj)
        · unfold BQ.m; dsimp only; rw [hqm]; exact hlv2
        · unfold BQ.m; dsimp only; rw [hqm]; exact hcs2
      · unfold BQ.box BQ.n BQ.m; dsimp only; rw [hqm]; exact HRX3.out
      · unfold BQ.m; dsimp only; rw [hqm]; exact KI.start HRV3.out (fun _ => rfl))
    have HQE : Hid (q1.l = l ∧ q1.bx = bx ∧ q1.bv = bv ∧ q1.m = L.length ∧ q1.L = L ∧ q1.B0 = bv) := zH (by
      have hq := HQ.out
      have hqm : (zG l l.length).length = L.length := HM.out
      subst hq1
      subst hq
      exact ⟨rfl, rfl, rfl, hqm, rfl, rfl⟩)
    clear hq1
    obtain ⟨e1, e2, e3, e4, e5, e6⟩ := HQE.out
    have hxbv : bx ≠ bv := by have := HR.out.rx.lt; have := HBV.out; omega
    have hxv : bx < bv := by have := HR.out.rx.lt; have := HBV.out; omega
    have HRDG : Hid (∀ x0, jA l sh L (N : Int) x0 → ∀ k, k < L.length → ((q1.X k).r.length = (q1.X k).d.length ∧ vN (lvD q1.l (q1.lf k) : Int) (q1.X k).d (q1.X k).d.length = (q1.X k).v.length) ∧ ∀ v ∈ (q1.X k).v, v.s.size ≤ 100) := zH (fun x0 hg k hk => by
      have hS1 : Sch q1.l sh := by rw [e1]; exact HSC.out
      have hg1 : jA q1.l sh q1.L (N : Int) x0 := by rw [e1, e5]; exact hg
      have hkL : k < q1.L.length := by rw [e5]; exact hk
      refine ⟨hg1.rd hS1 HR0.out k (by rw [e4]; exact hk), ?_⟩
      rw [BQ.X_eq hkL]
      exact hg1.short hS1 k hkL)
    have hXL : ∀ k, k < L.length → q1.X k ∈ L := fun k hk => by
      have hkL : k < q1.L.length := by rw [e5]; exact hk
      rw [BQ.X_eq hkL]
      rw [← e5]
      exact List.getElem_mem hkL
    have HXL := zH hXL
    have HCELLS : Hid (∀ (k : Nat) (W : World) (cur : Array Value) (aa : Nat → Option Addr) (cc : Nat → Nat) (K : Nat → List Int), k < L.length → Chg (fun b => b = bv ∨ w3.heap.size ≤ b) w3 W → KI w3.heap.size W bv L.length cur aa cc K → K k = [] → aa k = none →
        Calls Try.prog 27 #[.pointer (some ⟨bx, 0, none⟩), .int .i64 (k : Int)] W (zFz q1 w3.heap.size k K aa W)) := zH (fun k W cur aa cc K hk hc hki h0 ha => by
      have hx1 := HST.out.2.1
      have h := zKk q1 (by rw [e1]; omega) (by rw [e5, e4]) k (by rw [e4]; exact hk) w3.heap.size W (HST.out.1.go hc (fun b hb h => by have h1 : b < q1.B0 := hb.1; rw [e6] at h1; omega)) (hx1.chg hc (fun h => by rw [e2] at h; rcases h with h | h <;> omega)) cur aa cc K (by rw [e3, e4]; exact hki) h0 ha (by rw [e2]; omega) (by rw [e6, e3]; exact zLP _) (by rw [e3]; exact hv3) (by rw [e3, e2]; exact fun h => hxbv h.symm) hc.size (HLEN.out _ (HXL.out k hk))
      rw [e2] at h
      exact h)
    have HKI0 : Hid (KI w3.heap.size w3 bv L.length (madeCells #[.slice none 0 0] L.length) (fun _ => none) (fun _ => 0) (fun _ => [])) := zH (by have h := HST.out.2.2; rw [e3, e4] at h; exact h)
    clear e1 e2 e3 e4 e5 e6 hXL HK2 HL2 HI2 HRX2 HRV3 HSX hne
    go_wp2_with fail
    go_loopw [60] (fun kv wr => ∃ (k : Nat) (cur : Array Value) (aa : Nat → Option Addr) (cc : Nat → Nat) (K : Nat → List Int), kv = .int .i64 (k : Int) ∧ k ≤ L.length ∧ Hid (KI w3.heap.size wr bv L.length cur aa cc K) ∧ Hid (Chg (fun b => b = bv ∨ w3.heap.size ≤ b) w3 wr) ∧ Hid (∀ i, i < L.length → K i = if i < k then jY (lvD q1.l (q1.lf i)) (q1.X i).d else []) ∧ Hid (∀ i, k ≤ i → aa i = none) ∧ Hid (∀ i, i < k → (q1.X i).r.length = (q1.X i).d.length ∧ vN (lvD q1.l (q1.lf i) : Int) (q1.X i).d (q1.X i).d.length = (q1.X i).v.length)) (fun kv _ => L.length - (intOf kv).toNat)
    case atStart => exact ⟨0, _, _, _, _, rfl, Nat.zero_le _, HKI0, zH (Chg.refl _ _), zH (fun i _ => by rw [if_neg (Nat.not_lt_zero _)]), zH (fun _ _ => rfl), zH (fun i h => absurd h (Nat.not_lt_zero _))⟩
    case round =>
      clear HKI0
      obtain ⟨k, cur, aa, cw, K, rfl, hk, HKI, HCH, HKK, HAN, HRD⟩ := hrel
      have hszr := HCH.out.size
      by_cases hkl : k < L.length
      · have hkl' : (k : Int) < (L.length : Int) := by omega
        go_wp2_with fail
        refine (HCELLS.out k wr cur aa cw K hkl HCH.out HKI.out (by rw [HKK.out k hkl, if_neg (Nat.lt_irrefl _)]) (HAN.out k (zLP _))).mono ?_
        rintro e w5 ⟨b, cur', aa', cc', K', rfl, hki, haa, hch, hbt, hbf⟩
        have hqe := HQE.out
        rw [hqe.2.2.1, hqe.2.2.2.1] at hki
        rw [hqe.2.2.1] at hch
        rw [hqe.2.2.2.1] at hbt
        have HKI5 := zH hki; have HAA := zH haa; have HBT := zH hbt; have HBF := zH hbf
        have HC5 := zH (HCH.out.trans hch (fun b _ h => h))
        have HB5 : Hid (Below w.heap.size w w5) := zH (Chg.bt HB3.out HC5.out (fun b hb h => by have := HB2.out.size; have := HBV.out; omega))
        clear hki haa hch hbt hbf hqe
        cases b with
        | true =>
          have hbt := HBT.out rfl
          have HKN : Hid (∀ i, i < L.length → K' i = if i < k + 1 then jY (lvD q1.l (q1.lf i)) (q1.X i).d else []) := zH (fun i hi => by
            rw [hbt.1 i hi]
            by_cases e : i = k
            · subst e; rw [if_pos rfl, if_pos (by omega)]
            · rw [if_neg e, HKK.out i hi]
              by_cases e2 : i < k
              · rw [if_pos e2, if_pos (by omega)]
              · rw [if_neg e2, if_neg (by omega)])
          have HANN : Hid (∀ i, k + 1 ≤ i → aa' i = none) := zH (fun i hi => by rw [HAA.out i (by omega)]; exact HAN.out i (by omega))
          have HRDN : Hid (∀ i, i < k + 1 → (q1.X i).r.length = (q1.X i).d.length ∧ vN (lvD q1.l (q1.lf i) : Int) (q1.X i).d (q1.X i).d.length = (q1.X i).v.length) := zH (fun i hi => by
            by_cases e : i = k
            · subst e; exact hbt.2
            · exact HRD.out i (by omega))
          clear hbt
          go_wp2_with fail
          go_roundw
          case rel => exact ⟨k + 1, cur', aa', cc', K', by go_num, by omega, HKI5, HC5, HKN, HANN, HRDN⟩
          case measure => simp [intOf]; omega
        | false =>
          have HNG : Hid (∀ x0, ¬ jA l sh L (N : Int) x0) := zH (fun x0 hg => by
            have h := HRDG.out x0 hg k hkl
            have := HBF.out h.1.1 h.1.2 h.2
            cases this)
          have HNA : Hid (¬ ((N : Int) < 0 ∨ 200 < (N : Int) ∨ L.length ≠ L.length)) := zH (fun h => by rcases h with h | h | h; omega; omega; exact h rfl)
          go_wp2_with fail
          refine Go.wp_goto ?_
          dsimp (zetaDelta := true) only [Exit.inBlock, Exit.then, Exit.jump]
          exact ⟨rfl, rfl, HB5, HNA, HNG⟩
      · obtain rfl : k = L.length := by omega
        clear hkl HCELLS
        obtain ⟨w4, rfl⟩ : ∃ wo : World, wo = wr := ⟨_, rfl⟩
        have HB4 : Hid (Below w.heap.size w w4) := zH (Chg.bt HB3.out HCH.out (fun b hb h => by have := HB2.out.size; have := HBV.out; omega))
        have HRECS : Hid (Calls Try.prog 29 #[.pointer (some ⟨bx, 0, none⟩), .int .i64 (N : Int)] w4 (fun e w' => ∃ (x : List Tr) (a : Option Addr) (c : Nat) (ys : List Value) (bad' : Bool), e = .returned (.slice a x.length c) ∧ Sl (fun b => w4.heap.size ≤ b) w' 3 a x.length c ys ∧ zZ (fun b => w4.heap.size ≤ b) w' x ys ∧ w'.cell? ⟨bx, 7, none⟩ = some (.bool bad') ∧ Chg (fun b => b = bx) w4 w' ∧ (bad' = false → x.length = N) ∧
            ∀ x0, jA l sh L (N : Int) x0 → bad' = false ∧ x = x0)) := zH (by
          obtain ⟨e1, e2, e3, e4, e5, e6⟩ := HQE.out
          have hS1 : Sch q1.l sh := by rw [e1]; exact HSC.out
          have hsz4 := HCH.out.size
          have hbs := HST.out.1.go HCH.out (fun b hb h => by have h1 : b < q1.B0 := hb.1; rw [e6] at h1; omega)
          have hrow := HST.out.2.1.chg HCH.out (fun h => by rw [e2] at h; rcases h with h | h <;> omega)
          have hki := HKI.out.congr16 (K' := fun i => jY (lvD q1.l (q1.lf i)) (q1.X i).d) (fun i hi => by rw [HKK.out i hi, if_pos hi])
          have hvals : zBd (fun b => b < w4.heap.size ∧ b ≠ q1.bx) w4 q1.bv q1.m (fun k => jY (lvD q1.l (q1.lf k)) (q1.X k).d) := by
            rw [e3, e4, e2]
            exact hki.rowsI ⟨hki.row.lt, fun h => hxbv h.symm⟩ (fun b h1 h2 => ⟨h2, by omega⟩)
          have hfull := hbs.full (B1 := w4.heap.size) (by rw [e6]; omega) hvals
          have hba : BA { q1 with B0 := w4.heap.size } w4 false := ⟨hrow, hfull, zLP _⟩
          have hcx : CX { q1 with B0 := w4.heap.size } := by
            refine ⟨⟨sh, hS1⟩, by dsimp only; rw [e1]; omega, by show q1.L.length = q1.m; rw [e5, e4], fun k hk => ?_, fun k hk => ?_⟩
            · have hk' : k < q1.L.length := hk
              have hkL : k < L.length := by rw [e5] at hk'; exact hk'
              have hrd := HRD.out k hkL
              have hdl := HLEN.out _ (HXL.out k hkL)
              rw [BQ.X_eq hk'] at hrd hdl
              exact ⟨hrd.1, hdl, hrd.2⟩
            · have hk' : k < q1.L.length := hk
              have hkL : k < L.length := by rw [e5] at hk'; exact hk'
              have h := HSTR.out _ (HXL.out k hkL)
              rw [BQ.X_eq hk'] at h
              exact h
          have h := zKT { q1 with B0 := w4.heap.size } hcx hS1 HR0.out N hN w4 false hba
          rw [← e2]
          refine h.mono ?_
          rintro e w' ⟨x, a, c, ys, bad', he, h1, h2, h3, h4, h5, h6⟩
          refine ⟨x, a, c, ys, bad', he, h1, h2, by have := h3.row.cell 7; rw [this]; simp [BQ.box], h4, h5, fun x0 hg => ?_⟩
          have hg1 : jA q1.l sh q1.L (N : Int) x0 := by rw [e1, e5]; exact hg
          have hg2 : jA ({ q1 with B0 := w4.heap.size } : BQ).l sh ({ q1 with B0 := w4.heap.size } : BQ).L (N : Int) x0 := hg1
          exact h6 (fun k => zS (q1.lf k) sh x0) x0 (hg2.cels hS1 HR0.out) (fun k _ => rfl) (hg2.fs hS1) (by have := hg.2.2; omega) rfl)
        go_wp2_with fail
        refine HRECS.out.mono ?_
        rintro e w5 ⟨x, a, c, ys, bad', rfl, hsx, hrx, hb7, hc5, hln, hgd⟩
        have HSX := zH hsx; have HRX := zH hrx; have HLN := zH hln; have HGD := zH hgd
        have hs45 := hc5.size
        have HB5 : Hid (Below w.heap.size w w5) := zH (Chg.bt HB4.out hc5 (fun b hb h => by have h' : b = bx := h; omega))
        have HNA : Hid (¬ ((N : Int) < 0 ∨ 200 < (N : Int) ∨ L.length ≠ (zG l l.length).length)) := zH (fun h => by rw [HM.out] at h; rcases h with h | h | h; omega; omega; exact h rfl)
        clear hsx hrx hln hgd hc5 HRECS
        cases bad' with
        | true =>
          go_wp2_with fail
          refine wp_label ?_
          go_wp2_with fail
          go_ret2
          exact zCT.bad HB5.out HNA.out (fun x0 hg => by have := (HGD.out x0 hg).1; cases this)
        | false =>
          have hsB := HB4.out.size
          have HHOLD := zH (zKb HSC.out HW.out HRP.out x sa a ca sc c L.length cc ys xs L w5 (slb HS.out HB5.out) (HSX.out.mono (fun b hb _ => hb) (by decide)) (zHk HRX.out) (HC.out.below HB5.out))
          go_wp2_with fail
          refine HHOLD.out.mono ?_
          rintro e w6 ⟨t, rfl, ht, hb6⟩
          have HT := zH ht
          have HB6 := zH (bt HB5.out hb6)
          have HS6 := zH ((HSX.out.below hb6).mono (ok' := fun b => w.heap.size ≤ b) (fun b _ h => by have h' : w4.heap.size ≤ b := h; omega) (by decide))
          have HR6 := zH (HRX.out.go (S := fun _ => False) (ok' := fun b => w.heap.size ≤ b) (chF hb6) (fun b _ h => ⟨fun h => h, by have h' : w4.heap.size ≤ b := h; omega⟩))
          clear ht hb6 hb7
          cases t with
          | true =>
            go_wp2_with fail
            go_ret2
            refine ⟨x, a, c, ys, 0, rfl, HS6.out, HR6.out, HB6.out, fun h => absurd h HNA.out, fun _ => .inl ⟨rfl, ⟨(HT.out.1 (by first | rfl | trivial)).1, (HT.out.1 (by first | rfl | trivial)).2, by rw [HLN.out (by first | rfl | trivial)]⟩, fun x0 hg => ((HGD.out x0 hg).2).symm⟩⟩
          | false =>
            go_wp2_with fail
            refine wp_label ?_
            go_wp2_with fail
            go_ret2
            exact zCT.bad HB6.out HNA.out (fun x0 hg => by
              have h := (HGD.out x0 hg).2
              subst h
              have := HT.out.2 ⟨hg.1, hg.2.1⟩
              first | exact this | cases this)
end Go.Proofs.Ytjbkjfefjhbolaa
