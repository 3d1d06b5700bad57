import Derived.Test.YtjbkjfefjhbolaakOW14
set_option linter.all false
open Nat renaming le_trans → zLP, lt_of_lt_of_le → zLR, lt_irrefl → zLT, succ_pos → zLU
open List renaming length_singleton → zLQ, length_append → zLS
namespace Go.Proofs.Ytjbkjfefjhbolaa
open Go.RowKit Go.Shr
theorem zAZ (L : List Cel) (r d : Nat) (o : Option Vc) : zV (L ++ [⟨r, d, o⟩]) = zV L ++ o.toList := by cases o <;> simp [zV]
theorem zBJ (a b : List Vc) : vcs (a ++ b) = vcs a ++ vcs b := by simp [vcs]
def VS (w : World) (B : Nat) (o : Option Vc) (v : Value) : Prop := match o with
 | none => v = .slice none 0 0
 | some x => ∃ b, v = .slice (some ⟨b, 0, none⟩) 1 1 ∧ B ≤ b ∧ Rw w b #[.int .i64 x.n, .string x.s] 44
theorem VS.chg {S : Nat → Prop} {w w' : World} {B : Nat} {o : Option Vc} {v : Value} (h : VS w B o v) (hc : Chg S w w') (hS : ∀ b, B ≤ b → b < w.heap.size → ¬ S b) : VS w' B o v := by
 cases o with
 | none => exact h
 | some x => obtain ⟨b, h1, h2, h3⟩ := h; exact ⟨b, h1, h2, h3.chg hc (hS b h2 h3.lt)⟩
theorem VS.below {w w' : World} {B : Nat} {o : Option Vc} {v : Value} (h : VS w B o v) (hb : Below w.heap.size w w') : VS w' B o v := by
 cases o with
 | none => exact h
 | some x => obtain ⟨b, h1, h2, h3⟩ := h; exact ⟨b, h1, h2, h3.below hb⟩
theorem VS.ren {w w' : World} {B : Nat} {o : Option Vc} {v : Value} (e : w' = w) (h : VS w B o v) : VS w' B o v := by rw [e]; exact h
theorem VS.src {w : World} {B : Nat} {o : Option Vc} {v : Value} (h : VS w B o v) : Src Try.prog 2 40 v o.toList.length (vcs o.toList) w := by
 cases o with
 | none => rw [show v = .slice none 0 0 from h]; exact (Sl.nil (fun _ => True) _ 2 none).src (P := Try.prog) (tx := 40) Try.underlying40 (fun u h => by cases h)
 | some x => obtain ⟨b, h1, h2, h3⟩ := h; rw [h1]; exact yP (P := Try.prog) (tx := 40) Try.underlying40 h3 1 2 rfl (by simp [Value.oneCell'])
section
variable {B : Nat} {w w' : World} {m : Nat} {C : Nat → List Cel} {aa : Nat → Option Addr} {cc : Nat → Nat} {k : Nat} {a0 a1 : Option Addr} {l0 l1 c0 c1 : Nat} {x0 x1 : List Value}
theorem zDJ {ops : Array Oper} {o : Oper} {ac : Act} {K : Act → World → Prop} {Q : Exit → Act → World → Prop} {E : Prop} (h : OW B w (m * 3) tyC szC (upd (upd aa (k * 3) a0) (k * 3 + 1) a1) (upd (upd (nC C) (k * 3) l0) (k * 3 + 1) l1) (upd (upd cc (k * 3) c0) (k * 3 + 1) c1) (upd (upd (xC C) (k * 3) x0) (k * 3 + 1) x1)) (hk : k < m) (hgd : o.guard = none) (s x : Operand)
  (ho : o.op = .call { callee := .builtin .append, args := #[s, x], argTypes := #[40, 40] }) (hsv : ac.eval s = .slice (aa (k * 3 + 2)) (zV (C k)).length (cc (k * 3 + 2))) (hl : (zV (C k)).length ≤ 4000) {b : Nat} {y : Option Vc} {v : Value} (hxv : ac.eval x = v) (hv : VS w b y v) (hB : B ≤ w.heap.size)
  (hK : ∀ a' c' w', OW B w' (m * 3) tyC szC (upd (upd (upd aa (k * 3) a0) (k * 3 + 1) a1) (k * 3 + 2) a') (upd (upd (upd (nC C) (k * 3) l0) (k * 3 + 1) l1) (k * 3 + 2) ((zV (C k)).length + y.toList.length)) (upd (upd (upd cc (k * 3) c0) (k * 3 + 1) c1) (k * 3 + 2) c') (upd (upd (upd (xC C) (k * 3) x0) (k * 3 + 1) x1) (k * 3 + 2) (vcs (zV (C k)) ++ vcs y.toList)) → Chg (fun g => blk (aa (k * 3 + 2)) g ∧ B ≤ g ∧ 0 < cc (k * 3 + 2)) w w' → (∀ g, blk a' g → blk (aa (k * 3 + 2)) g ∨ w.heap.size ≤ g) → K (ac.put o.dst (.slice a' ((zV (C k)).length + y.toList.length) c')) w') :
  if Region.wanted o (yielded ops ac.tmps) = true then Oper.wp Try.prog o ac w K Q else E := by
 obtain ⟨iv, hiv, hz0v, hz1v, hz2v⟩ := info_parts zCl
 have hs := hv.src
 have how := OW.own2' h hk
 by_cases hy : y = none
 ·subst hy
  exact zEY hgd s x _ _ ho iv Try.underlying40 hiv hz1v hsv how.le v hxv hs (hK _ _ w (by simpa [vcs] using OW.same2 h) (Chg.refl _ _) (fun g h => .inl h))
 ·obtain ⟨z, rfl⟩ := Option.ne_none_iff_exists'.1 hy
  exact zN (B := B) hgd s x _ _ ho iv (.agg #[.int .i64 0, .string ByteArray.empty]) 24 Try.underlying40 hiv hz0v hz1v hz2v rfl hsv how v hxv 1 _ hs (by simp only [maxLen]; omega) (by omega) hB (fun a' c' w' ho' hc hn => hK a' c' w' (OW.push2 h hk (zLU _) ho' hc hn) hc hn)
end
set_option maxHeartbeats 2000000 in
set_option maxRecDepth 100000 in
theorem zGm (p : SP) (G : Nat → List Cel) (aa : Nat → Option Addr) (k : Nat) (hk : k < p.m) (r d : Nat) (o : Option Vc) (vv : Value) (w0 : World) (w : World) (h0 : Str p w0 G aa) (hb0 : Below w0.heap.size w0 w) (rv : VS w w0.heap.size o vv) :
  Calls Try.prog 73 #[.pointer (some ⟨p.bx, 0, none⟩), .int .i64 (k : Int), .int .i64 (r : Int), .int .i64 (d : Int), vv] w (zEb p (upd G k (G k ++ [⟨r, d, o⟩])) aa w) := by
 obtain ⟨ii, hii, hz0i, hz1i, hz2i⟩ := info_parts jR
 obtain ⟨iv, hiv, hz0v, hz1v, hz2v⟩ := info_parts zCl
 have h := h0.below hb0
 obtain ⟨cur, cc, ht0⟩ := h0.tab
 have hlv : ∀ j g, j < p.m * 3 → blk (aa j) g → g < w0.heap.size := fun j g hj hg => (ht0.ow.lt j g hj hg).1
 have ht := ht0.below hb0
 have RV := zH rv
 clear ht0 h0 hb0 rv
 have hbd := h.bds
 have q3 : w.cell? ⟨p.bx, 3, none⟩ = some (.slice (some ⟨p.bc, 0, none⟩) p.m p.m) := h.row.cell 3
 have u0 := ht.cell0 hk
 have hlen : (xY G k).length = min 4000 (G k).length := by unfold xY; rw [List.length_take]
 have hk0 : (0 : Int) ≤ (k : Int) := by omega
 have hk1 : (k : Int) < (p.m : Int) := by omega
 have H := zH h; have HT := zH ht
 by_cases ho : 4000 ≤ (G k).length
 ·have hl4 : ((xY G k).length : Int) ≥ 4000 := by omega
  have q4 : w.cell? ⟨p.bx, 4, none⟩ = some (.bool (mny p.m G)) := h.row.cell 4
  have qf := h.row.frozen
  have ql := h.row.lt
  clear h ht hlen
  go_enter Try.func73, Try.ntmps73
  go_wp2_with fail
  refine bodyPost_end (v := .tuple #[]) (by simp [results, Try.results73, go_sem]) rfl ?_
  have hch : Chg (fun b => b = p.bx) w (w.setCell ⟨p.bx, 4, none⟩ (.bool true)) := (Chg.refl (fun b => b = p.bx) w).setCell (p := ⟨p.bx, 4, none⟩) (.inr rfl) _
  have hok : ∀ b, b < w.heap.size → p.ok b → ¬ (fun b => b = p.bx) b ∧ p.ok b := fun b _ hb => ⟨hb.2.1, hb⟩
  refine ⟨rfl, aa, ⟨?_, H.out.s.go hch hok (by decide), H.out.kids.go hch hok, H.out.lvs.go hch hok, ⟨cur, cc, (HT.out.chg hch (fun g _ hg h2 => by have h3 : g = p.bx := h2; omega)).congr (fun j _ => zIg _ ho j)⟩, by simpa using hbd⟩, hch.mono (fun b _ hb => .inl hb), fun b hb => .inl hb⟩
  have := H.out.row.set 4 (.bool true)
  rw [zIT hk _ ho]
  exact this
 ·have ho' : (G k).length < 4000 := by omega
  have hl4 : ¬ ((xY G k).length : Int) ≥ 4000 := by omega
  have hlm : (xY G k).length ≤ 4000 := by omega
  have u1 := ht.cell1 hk
  have u2 := ht.cell2 hk
  have hvl := zFn (xY G k)
  have hH := ht.hds
  have hcR := (hH (k * 3) (by omega)).trans (by rw [(n0 _ k).1])
  have hcD := (hH (k * 3 + 1) (by omega)).trans (by rw [(n1 _ k).1])
  have hcV := (hH (k * 3 + 2) (by omega)).trans (by rw [(n2 _ k).1])
  have HU := zH (And.intro q3 (And.intro u0 (And.intro u1 u2)))
  clear h hlen
  have hCL : ∀ c : Cel, (xY G k ++ [c]).length = (xY G k).length + 1 := fun c => by simp
  go_enter Try.func73, Try.ntmps73
  go_wp2_with fail
  refine zF (fun w' => w'.cell? ⟨p.bc, k * 3, none⟩ = some (.slice (aa (k * 3)) (xY G k).length (cc (k * 3))) ∧ w'.cell? ⟨p.bc, k * 3 + 1, none⟩ = some (.slice (aa (k * 3 + 1)) (xY G k).length (cc (k * 3 + 1))) ∧ w'.cell? ⟨p.bc, k * 3 + 2, none⟩ = some (.slice (aa (k * 3 + 2)) (zV (xY G k)).length (cc (k * 3 + 2)))) [1, 2, 23, 24, 25, 26, 27, 28, 29, 30, 31] (by kernel_rfl) ?g9rgS (fun hHeld => ?g9rgR)
  case g9rgS => (try dsimp only); (first | exact HU.out.2 | exact ⟨(row.cell _).trans hcR, (row.cell _).trans hcD, (row.cell _).trans hcV⟩)
  try dsimp only at hHeld
  obtain ⟨W, hW⟩ : ∃ W, W = w.drew := ⟨_, rfl⟩; rw [← hW] at hHeld ⊢; (have row := Rw.ren hW HT.out.row.drew); (have how : OW p.B W (p.m * 3) tyC szC aa (nC (xY G)) cc (xC (xY G)) := by rw [hW]; exact HT.out.ow.below (b0 w).drew); (have rx := Rw.ren hW H.out.row.drew); (have hch : Chg (p.ch aa) w W := by rw [hW]; exact (Chg.refl (p.ch aa) w).drew); (have hBW : p.B ≤ W.heap.size := by rw [hW]; exact hbd.2.2.2.2.2); (have htb : ∀ b, p.tb aa b → p.tb aa b ∨ w.heap.size ≤ b := fun b hb => .inl hb); (have rv := VS.ren hW (RV.out.below (b0 w).drew)); clear hW
  refine zA0 1 (oi := ⟨some 27, .move (.tmp 10), 141, "shred.go:57", #[{ on := 25, ground := Go.Ground.gcOnly Go.Departure.lateStores }], none⟩) (v := ?g9rv1) rfl (by kernel_rfl) (fun _ _ _ h => h) (by rfl) ?g9ry1 ?g9rr1
  case g9ry1 => intro w0' _; go_simp; try with_reducible rfl
  try simp only [pD]
  refine zA0 2 (oi := ⟨some 28, .move (.tmp 10), 141, "shred.go:57", #[{ on := 28, ground := Go.Ground.gcOnly Go.Departure.lateStores }], none⟩) (v := ?g9rv2) rfl (by kernel_rfl) (fun _ _ _ h => h) (by rfl) ?g9ry2 ?g9rr2
  case g9ry2 => intro w0' _; go_simp; try with_reducible rfl
  try simp only [pD]
  refine zBo (F := [23, 24, 25, 26, 27, 28, 29, 30, 31]) (by simp) _ _ _ _ ?_
  refine zD [0, 3, 4, 5, 6, 7, 10, 11, 12, 13, 14, 17, 18, 19, 20, 21] 14 (by kernel_rfl) (fun _ _ _ _ _ h => h) (by assumption) ?_
  iterate 16 ((apply YA.take rfl (by rfl); case hy => rintro w ⟨s1, s2, s3⟩; go_simp; try with_reducible rfl); try simp only [pD])
  refine YA.nil ?_
  refine zB [8, 15] (by kernel_rfl) (by simp) ?_
  refine zA.con 8 rfl (fun K hK => ?g9ro3) ?g9rm3
  case g9ro3 =>
   go_simp; refine xN (fun X hX => ?_); (have hb := OW.nb how hX); (have rn8 := OW.nr how hX); (replace row := row.below hb); (replace rx := rx.below hb); (replace hch := hch.trans (chF hb) (fun i hi h => h.elim)); (replace rv := rv.below hb);  skip; (replace how := how.below hb); (replace hBW := zLP hBW hb.size); clear hb hX
   refine hK.out _ _ ?g9rs3 (fun hHeld => ?g9rt3)
   case g9rs3 => (try dsimp only); (first | exact HU.out.2 | exact ⟨(row.cell _).trans hcR, (row.cell _).trans hcD, (row.cell _).trans hcV⟩)
   try dsimp only at hHeld
   clear hK K
   try simp only [pD]
   refine zB [9, 15] (by kernel_rfl) (by simp) ?_
   refine zA.con 9 rfl (fun K hK => ?g9ro4) ?g9rm4
   case g9ro4 =>
    (refine zN (B := p.B) rfl _ _ _ _ rfl ii (.int .i64 0) 8 Try.underlying22 hii hz0i hz1i hz2i rfl rfl (OW.own0 how hk) _ rfl 1 _ (yP (P := Try.prog) (tx := 22) Try.underlying22 rn8 1 1 rfl (by simp [Value.oneCell'])) (by simp only [maxLen]; omega) (by omega) hBW ?_; intro a9 cap9 W9 ho9 hc9 hn9); (replace rv := rv.chg hc9 (fun b hb _ h => zLT _ (zLR (hlv _ _ (by omega) h.1) hb)));  skip; (replace row := row.chg hc9 (fun h => by have := h.2.1; omega)); (replace rx := rx.chg hc9 (fun h => by have := h.2.1; omega)); (replace htb := wV htb (j := k * 3) (by omega) hn9 hch.size); (replace hch := hch.trans hc9 (fun i hi h => .inr (.inr ⟨_, by omega, h.1⟩))); (replace hBW := zLP hBW hc9.size); (replace how := OW.push0 how hk (zLU _) ho9 hc9 hn9); clear ho9 hc9 hn9 rn8
    refine hK.out _ _ ?g9rs4 (fun hHeld => ?g9rt4)
    case g9rs4 => (try dsimp only); (first | exact HU.out.2 | exact ⟨(row.cell _).trans hcR, (row.cell _).trans hcD, (row.cell _).trans hcV⟩)
    try dsimp only at hHeld
    clear hK K
    try simp only [pD]
    refine zB [15] (by kernel_rfl) (by simp) ?_
    refine zA.con 15 rfl (fun K hK => ?g9ro5) ?g9rm5
    case g9rm5 => exact zA.nil
    go_simp; refine xN (fun X hX => ?_); (have hb := OW.nb how hX); (have rn15 := OW.nr how hX); (have hl15 := fun j g (hj : j < p.m * 3) hg => (how.lt j g hj hg).1); (replace row := row.below hb); (replace rx := rx.below hb); (replace hch := hch.trans (chF hb) (fun i hi h => h.elim)); (replace rv := rv.below hb); (try replace rn8 := rn8.below hb); (replace how := how.below hb); (replace hBW := zLP hBW hb.size); clear hb hX
    refine hK.out _ _ ?g9rs5 (fun hHeld => ?g9rt5)
    case g9rs5 => (try dsimp only); (first | exact HU.out.2 | exact ⟨(row.cell _).trans hcR, (row.cell _).trans hcD, (row.cell _).trans hcV⟩)
    try dsimp only at hHeld
    clear hK K
    try simp only [pD]
    refine zB [16] (by kernel_rfl) (by simp) ?_
    refine zA.con 16 rfl (fun K hK => ?g9ro6) ?g9rm6
    case g9rm6 => exact zA.nil
    (refine zN (B := p.B) rfl _ _ _ _ rfl ii (.int .i64 0) 8 Try.underlying22 hii hz0i hz1i hz2i rfl rfl (OW.own1' how hk) _ rfl 1 _ (yP (P := Try.prog) (tx := 22) Try.underlying22 rn15 1 1 rfl (by simp [Value.oneCell'])) (by simp only [maxLen]; omega) (by omega) hBW ?_; intro a16 cap16 W16 ho16 hc16 hn16); (replace rv := rv.chg hc16 (fun b hb _ h => zLT _ (zLR (hlv _ _ (by omega) h.1) hb))); (replace row := row.chg hc16 (fun h => by have := h.2.1; omega)); (replace rx := rx.chg hc16 (fun h => by have := h.2.1; omega)); (replace htb := wV htb (j := k * 3 + 1) (by omega) (by rw [zL _ _ (by omega)]; exact hn16) hch.size); (replace hch := hch.trans hc16 (fun i hi h => .inr (.inr ⟨_, by omega, h.1⟩))); (replace hBW := zLP hBW hc16.size); (replace how := OW.push1 how hk (zLU _) ho16 hc16 hn16); clear ho16 hc16 hn16 rn15
    refine hK.out _ _ ?g9rs6 (fun hHeld => ?g9rt6)
    case g9rs6 => (try dsimp only); (first | exact HU.out.2 | exact ⟨(row.cell _).trans hcR, (row.cell _).trans hcD, (row.cell _).trans hcV⟩)
    try dsimp only at hHeld
    clear hK K
    try simp only [pD]
    refine zB [22] (by kernel_rfl) (by simp) ?_
    refine zA.con 22 rfl (fun K hK => ?g9ro7) ?g9rm7
    case g9rm7 => exact zA.nil
    (refine zDJ how hk rfl _ _ rfl rfl (by omega) rfl rv hBW ?_; intro a22 cap22 W22 ho22 hc22 hn22); (replace row := row.chg hc22 (fun h => by have := h.2.1; omega)); (replace rx := rx.chg hc22 (fun h => by have := h.2.1; omega)); (replace htb := wV htb (j := k * 3 + 2) (by omega) (by rw [zL _ _ (by omega), zL _ _ (by omega)]; exact hn22) hch.size); (replace hch := hch.trans hc22 (fun i hi h => .inr (.inr ⟨_, by omega, h.1⟩))); (replace hBW := zLP hBW hc22.size); (replace how := ho22); clear ho22 hc22 hn22 rv
    refine hK.out _ _ ?g9rs7 (fun hHeld => ?g9rt7)
    case g9rs7 => (try dsimp only); (first | exact HU.out.2 | exact ⟨(row.cell _).trans hcR, (row.cell _).trans hcD, (row.cell _).trans hcV⟩)
    try dsimp only at hHeld
    clear hK K
    try simp only [pD]
    refine zB [23] (by kernel_rfl) (by simp) ?_
    refine zA.lst 23 rfl (by kernel_rfl) (fun K hK => ?g9ro8) ?g9rm8
    case g9rm8 => exact zA.nil
    (obtain ⟨c0, c1, c2⟩ := hHeld); (have qf := row.frozen); (have ql := row.lt); go_simp
    refine hK.out _ _ ?_
    clear hK K
    try simp only [pD]
    refine zB [24] (by kernel_rfl) (by simp) ?_
    refine zA.lst 24 rfl (by kernel_rfl) (fun K hK => ?g9ro9) ?g9rm9
    case g9rm9 => exact zA.nil
    go_simp
    refine hK.out _ _ ?_
    clear hK K
    try simp only [pD]
    refine zB [25] (by kernel_rfl) (by simp) ?_
    refine zA.lst 25 rfl (by kernel_rfl) (fun K hK => ?g9ro10) ?g9rm10
    case g9rm10 => exact zA.nil
    go_simp
    refine hK.out _ _ ?_
    clear hK K
    try simp only [pD]
    refine zB [26] (by kernel_rfl) (by simp) ?_
    refine zA.lst 26 rfl (by kernel_rfl) (fun K hK => ?g9ro11) ?g9rm11
    case g9rm11 => exact zA.nil
    go_simp
    refine hK.out _ _ ?_
    clear hK K
    try simp only [pD]
    refine zB [27] (by kernel_rfl) (by simp) ?_
    refine zA.lst 27 rfl (by kernel_rfl) (fun K hK => ?g9ro12) ?g9rm12
    case g9rm12 => exact zA.nil
    go_simp
    refine hK.out _ _ ?_
    clear hK K
    try simp only [pD]
    refine zB [28] (by kernel_rfl) (by simp) ?_
    refine zA.lst 28 rfl (by kernel_rfl) (fun K hK => ?g9ro13) ?g9rm13
    case g9rm13 => exact zA.nil
    go_simp
    refine hK.out _ _ ?_
    clear hK K
    try simp only [pD]
    refine zB [29] (by kernel_rfl) (by simp) ?_
    refine zA.lst 29 rfl (by kernel_rfl) (fun K hK => ?g9ro14) ?g9rm14
    case g9rm14 => exact zA.nil
    go_simp
    refine hK.out _ _ ?_
    clear hK K
    try simp only [pD]
    refine zB [30] (by kernel_rfl) (by simp) ?_
    refine zA.lst 30 rfl (by kernel_rfl) (fun K hK => ?g9ro15) ?g9rm15
    case g9rm15 => exact zA.nil
    go_simp
    refine hK.out _ _ ?_
    clear hK K
    try simp only [pD]
    refine zB [31] (by kernel_rfl) (by simp) ?_
    refine zA.lst 31 rfl (by kernel_rfl) (fun K hK => ?g9ro16) ?g9rm16
    case g9rm16 => exact zA.nil
    go_simp
    refine hK.out _ _ ?_
    clear hK K
    try simp only [pD]
    refine zE (by kernel_rfl) ?_
    have hfin := CT.fin (L := xY G k ++ [⟨r, d, o⟩]) hk row HT.out.size hH HT.out.lt (by simpa only [zAP, zAQ, zAZ, zBJ, zLS, zLQ] using how)
    simp only [zAZ, zBJ, zLS, zLQ] at hfin
    have hch2 := ((hch.setCell (p := ⟨p.bc, k * 3, none⟩) (.inr (.inr (.inl rfl))) (.slice a9 ((xY G k).length + 1) cap9)).setCell (p := ⟨p.bc, k * 3 + 1, none⟩) (.inr (.inr (.inl rfl))) (.slice a16 ((xY G k).length + 1) cap16)).setCell (p := ⟨p.bc, k * 3 + 2, none⟩) (.inr (.inr (.inl rfl))) (.slice a22 ((zV (xY G k)).length + o.toList.length) cap22)
    have hne : p.bx ≠ p.bc := hbd.2.2.1
    have rx2 := ((rx.other (p := ⟨p.bc, k * 3, none⟩) hne (.slice a9 ((xY G k).length + 1) cap9)).other (p := ⟨p.bc, k * 3 + 1, none⟩) hne (.slice a16 ((xY G k).length + 1) cap16)).other (p := ⟨p.bc, k * 3 + 2, none⟩) hne (.slice a22 ((zV (xY G k)).length + o.toList.length) cap22)
    clear row rx how hch
    go_wp2_with fail
    refine bodyPost_end (v := .tuple #[]) (by simp [results, Try.results73, go_sem]) rfl ?_
    have hok : ∀ b, b < w.heap.size → p.ok b → ¬ p.ch aa b ∧ p.ok b := fun b _ hb => ⟨H.out.okch hb, hb⟩
    refine ⟨rfl, _, ⟨by rw [zFb hk _ ho']; exact rx2, H.out.s.go hch2 hok (by decide), H.out.kids.go hch2 hok, H.out.lvs.go hch2 hok, ⟨_, _, hfin.congr (fun j _ => zDS _ ho' j)⟩, by have := hch2.size; have := hbd; omega⟩, hch2, htb⟩
   case g9rm4 =>
   refine zA.con 15 rfl (fun K hK => ?g9ro17) ?g9rm17
   case g9ro17 =>
    go_simp; refine xN (fun X hX => ?_); (have hb := OW.nb how hX); (have rn15 := OW.nr how hX); (have hl15 := fun j g (hj : j < p.m * 3) hg => (how.lt j g hj hg).1); (replace row := row.below hb); (replace rx := rx.below hb); (replace hch := hch.trans (chF hb) (fun i hi h => h.elim)); (replace rv := rv.below hb); (try replace rn8 := rn8.below hb); (replace how := how.below hb); (replace hBW := zLP hBW hb.size); clear hb hX
    refine hK.out _ _ ?g9rs17 (fun hHeld => ?g9rt17)
    case g9rs17 => (try dsimp only); (first | exact HU.out.2 | exact ⟨(row.cell _).trans hcR, (row.cell _).trans hcD, (row.cell _).trans hcV⟩)
    try dsimp only at hHeld
    clear hK K
    try simp only [pD]
    refine zB [9] (by kernel_rfl) (by simp) ?_
    refine zA.con 9 rfl (fun K hK => ?g9ro18) ?g9rm18
    case g9rm18 => exact zA.nil
    (refine zN (B := p.B) rfl _ _ _ _ rfl ii (.int .i64 0) 8 Try.underlying22 hii hz0i hz1i hz2i rfl rfl (OW.own0 how hk) _ rfl 1 _ (yP (P := Try.prog) (tx := 22) Try.underlying22 rn8 1 1 rfl (by simp [Value.oneCell'])) (by simp only [maxLen]; omega) (by omega) hBW ?_; intro a9 cap9 W9 ho9 hc9 hn9); (replace rv := rv.chg hc9 (fun b hb _ h => zLT _ (zLR (hlv _ _ (by omega) h.1) hb)));  (replace rn15 := rn15.chg hc9 (fun h => zLT _ (hl15 _ _ (by omega) h.1))) ; (replace row := row.chg hc9 (fun h => by have := h.2.1; omega)); (replace rx := rx.chg hc9 (fun h => by have := h.2.1; omega)); (replace htb := wV htb (j := k * 3) (by omega) hn9 hch.size); (replace hch := hch.trans hc9 (fun i hi h => .inr (.inr ⟨_, by omega, h.1⟩))); (replace hBW := zLP hBW hc9.size); (replace how := OW.push0 how hk (zLU _) ho9 hc9 hn9); clear ho9 hc9 hn9 rn8
    refine hK.out _ _ ?g9rs18 (fun hHeld => ?g9rt18)
    case g9rs18 => (try dsimp only); (first | exact HU.out.2 | exact ⟨(row.cell _).trans hcR, (row.cell _).trans hcD, (row.cell _).trans hcV⟩)
    try dsimp only at hHeld
    clear hK K
    try simp only [pD]
    refine zB [16] (by kernel_rfl) (by simp) ?_
    refine zA.con 16 rfl (fun K hK => ?g9ro19) ?g9rm19
    case g9rm19 => exact zA.nil
    (refine zN (B := p.B) rfl _ _ _ _ rfl ii (.int .i64 0) 8 Try.underlying22 hii hz0i hz1i hz2i rfl rfl (OW.own1' how hk) _ rfl 1 _ (yP (P := Try.prog) (tx := 22) Try.underlying22 rn15 1 1 rfl (by simp [Value.oneCell'])) (by simp only [maxLen]; omega) (by omega) hBW ?_; intro a16 cap16 W16 ho16 hc16 hn16); (replace rv := rv.chg hc16 (fun b hb _ h => zLT _ (zLR (hlv _ _ (by omega) h.1) hb))); (replace row := row.chg hc16 (fun h => by have := h.2.1; omega)); (replace rx := rx.chg hc16 (fun h => by have := h.2.1; omega)); (replace htb := wV htb (j := k * 3 + 1) (by omega) (by rw [zL _ _ (by omega)]; exact hn16) hch.size); (replace hch := hch.trans hc16 (fun i hi h => .inr (.inr ⟨_, by omega, h.1⟩))); (replace hBW := zLP hBW hc16.size); (replace how := OW.push1 how hk (zLU _) ho16 hc16 hn16); clear ho16 hc16 hn16 rn15
    refine hK.out _ _ ?g9rs19 (fun hHeld => ?g9rt19)
    case g9rs19 => (try dsimp only); (first | exact HU.out.2 | exact ⟨(row.cell _).trans hcR, (row.cell _).trans hcD, (row.cell _).trans hcV⟩)
    try dsimp only at hHeld
    clear hK K
    try simp only [pD]
    refine zB [22] (by kernel_rfl) (by simp) ?_
    refine zA.con 22 rfl (fun K hK => ?g9ro20) ?g9rm20
    case g9rm20 => exact zA.nil
    (refine zDJ how hk rfl _ _ rfl rfl (by omega) rfl rv hBW ?_; intro a22 cap22 W22 ho22 hc22 hn22); (replace row := row.chg hc22 (fun h => by have := h.2.1; omega)); (replace rx := rx.chg hc22 (fun h => by have := h.2.1; omega)); (replace htb := wV htb (j := k * 3 + 2) (by omega) (by rw [zL _ _ (by omega), zL _ _ (by omega)]; exact hn22) hch.size); (replace hch := hch.trans hc22 (fun i hi h => .inr (.inr ⟨_, by omega, h.1⟩))); (replace hBW := zLP hBW hc22.size); (replace how := ho22); clear ho22 hc22 hn22 rv
    refine hK.out _ _ ?g9rs20 (fun hHeld => ?g9rt20)
    case g9rs20 => (try dsimp only); (first | exact HU.out.2 | exact ⟨(row.cell _).trans hcR, (row.cell _).trans hcD, (row.cell _).trans hcV⟩)
    try dsimp only at hHeld
    clear hK K
    try simp only [pD]
    refine zB [23] (by kernel_rfl) (by simp) ?_
    refine zA.lst 23 rfl (by kernel_rfl) (fun K hK => ?g9ro21) ?g9rm21
    case g9rm21 => exact zA.nil
    (obtain ⟨c0, c1, c2⟩ := hHeld); (have qf := row.frozen); (have ql := row.lt); go_simp
    refine hK.out _ _ ?_
    clear hK K
    try simp only [pD]
    refine zB [24] (by kernel_rfl) (by simp) ?_
    refine zA.lst 24 rfl (by kernel_rfl) (fun K hK => ?g9ro22) ?g9rm22
    case g9rm22 => exact zA.nil
    go_simp
    refine hK.out _ _ ?_
    clear hK K
    try simp only [pD]
    refine zB [25] (by kernel_rfl) (by simp) ?_
    refine zA.lst 25 rfl (by kernel_rfl) (fun K hK => ?g9ro23) ?g9rm23
    case g9rm23 => exact zA.nil
    go_simp
    refine hK.out _ _ ?_
    clear hK K
    try simp only [pD]
    refine zB [26] (by kernel_rfl) (by simp) ?_
    refine zA.lst 26 rfl (by kernel_rfl) (fun K hK => ?g9ro24) ?g9rm24
    case g9rm24 => exact zA.nil
    go_simp
    refine hK.out _ _ ?_
    clear hK K
    try simp only [pD]
    refine zB [27] (by kernel_rfl) (by simp) ?_
    refine zA.lst 27 rfl (by kernel_rfl) (fun K hK => ?g9ro25) ?g9rm25
    case g9rm25 => exact zA.nil
    go_simp
    refine hK.out _ _ ?_
    clear hK K
    try simp only [pD]
    refine zB [28] (by kernel_rfl) (by simp) ?_
    refine zA.lst 28 rfl (by kernel_rfl) (fun K hK => ?g9ro26) ?g9rm26
    case g9rm26 => exact zA.nil
    go_simp
    refine hK.out _ _ ?_
    clear hK K
    try simp only [pD]
    refine zB [29] (by kernel_rfl) (by simp) ?_
    refine zA.lst 29 rfl (by kernel_rfl) (fun K hK => ?g9ro27) ?g9rm27
    case g9rm27 => exact zA.nil
    go_simp
    refine hK.out _ _ ?_
    clear hK K
    try simp only [pD]
    refine zB [30] (by kernel_rfl) (by simp) ?_
    refine zA.lst 30 rfl (by kernel_rfl) (fun K hK => ?g9ro28) ?g9rm28
    case g9rm28 => exact zA.nil
    go_simp
    refine hK.out _ _ ?_
    clear hK K
    try simp only [pD]
    refine zB [31] (by kernel_rfl) (by simp) ?_
    refine zA.lst 31 rfl (by kernel_rfl) (fun K hK => ?g9ro29) ?g9rm29
    case g9rm29 => exact zA.nil
    go_simp
    refine hK.out _ _ ?_
    clear hK K
    try simp only [pD]
    refine zE (by kernel_rfl) ?_
    have hfin := CT.fin (L := xY G k ++ [⟨r, d, o⟩]) hk row HT.out.size hH HT.out.lt (by simpa only [zAP, zAQ, zAZ, zBJ, zLS, zLQ] using how)
    simp only [zAZ, zBJ, zLS, zLQ] at hfin
    have hch2 := ((hch.setCell (p := ⟨p.bc, k * 3, none⟩) (.inr (.inr (.inl rfl))) (.slice a9 ((xY G k).length + 1) cap9)).setCell (p := ⟨p.bc, k * 3 + 1, none⟩) (.inr (.inr (.inl rfl))) (.slice a16 ((xY G k).length + 1) cap16)).setCell (p := ⟨p.bc, k * 3 + 2, none⟩) (.inr (.inr (.inl rfl))) (.slice a22 ((zV (xY G k)).length + o.toList.length) cap22)
    have hne : p.bx ≠ p.bc := hbd.2.2.1
    have rx2 := ((rx.other (p := ⟨p.bc, k * 3, none⟩) hne (.slice a9 ((xY G k).length + 1) cap9)).other (p := ⟨p.bc, k * 3 + 1, none⟩) hne (.slice a16 ((xY G k).length + 1) cap16)).other (p := ⟨p.bc, k * 3 + 2, none⟩) hne (.slice a22 ((zV (xY G k)).length + o.toList.length) cap22)
    clear row rx how hch
    go_wp2_with fail
    refine bodyPost_end (v := .tuple #[]) (by simp [results, Try.results73, go_sem]) rfl ?_
    have hok : ∀ b, b < w.heap.size → p.ok b → ¬ p.ch aa b ∧ p.ok b := fun b _ hb => ⟨H.out.okch hb, hb⟩
    refine ⟨rfl, _, ⟨by rw [zFb hk _ ho']; exact rx2, H.out.s.go hch2 hok (by decide), H.out.kids.go hch2 hok, H.out.lvs.go hch2 hok, ⟨_, _, hfin.congr (fun j _ => zDS _ ho' j)⟩, by have := hch2.size; have := hbd; omega⟩, hch2, htb⟩
   case g9rm17 =>
   exact zA.nil
  case g9rm3 =>
  refine zA.con 15 rfl (fun K hK => ?g9ro30) ?g9rm30
  case g9ro30 =>
   go_simp; refine xN (fun X hX => ?_); (have hb := OW.nb how hX); (have rn15 := OW.nr how hX); (have hl15 := fun j g (hj : j < p.m * 3) hg => (how.lt j g hj hg).1); (replace row := row.below hb); (replace rx := rx.below hb); (replace hch := hch.trans (chF hb) (fun i hi h => h.elim)); (replace rv := rv.below hb); (try replace rn8 := rn8.below hb); (replace how := how.below hb); (replace hBW := zLP hBW hb.size); clear hb hX
   refine hK.out _ _ ?g9rs30 (fun hHeld => ?g9rt30)
   case g9rs30 => (try dsimp only); (first | exact HU.out.2 | exact ⟨(row.cell _).trans hcR, (row.cell _).trans hcD, (row.cell _).trans hcV⟩)
   try dsimp only at hHeld
   clear hK K
   try simp only [pD]
   refine zB [8] (by kernel_rfl) (by simp) ?_
   refine zA.con 8 rfl (fun K hK => ?g9ro31) ?g9rm31
   case g9rm31 => exact zA.nil
   go_simp; refine xN (fun X hX => ?_); (have hb := OW.nb how hX); (have rn8 := OW.nr how hX); (replace row := row.below hb); (replace rx := rx.below hb); (replace hch := hch.trans (chF hb) (fun i hi h => h.elim)); (replace rv := rv.below hb);  (replace rn15 := rn15.below hb) ; (replace how := how.below hb); (replace hBW := zLP hBW hb.size); clear hb hX
   refine hK.out _ _ ?g9rs31 (fun hHeld => ?g9rt31)
   case g9rs31 => (try dsimp only); (first | exact HU.out.2 | exact ⟨(row.cell _).trans hcR, (row.cell _).trans hcD, (row.cell _).trans hcV⟩)
   try dsimp only at hHeld
   clear hK K
   try simp only [pD]
   refine zB [9] (by kernel_rfl) (by simp) ?_
   refine zA.con 9 rfl (fun K hK => ?g9ro32) ?g9rm32
   case g9rm32 => exact zA.nil
   (refine zN (B := p.B) rfl _ _ _ _ rfl ii (.int .i64 0) 8 Try.underlying22 hii hz0i hz1i hz2i rfl rfl (OW.own0 how hk) _ rfl 1 _ (yP (P := Try.prog) (tx := 22) Try.underlying22 rn8 1 1 rfl (by simp [Value.oneCell'])) (by simp only [maxLen]; omega) (by omega) hBW ?_; intro a9 cap9 W9 ho9 hc9 hn9); (replace rv := rv.chg hc9 (fun b hb _ h => zLT _ (zLR (hlv _ _ (by omega) h.1) hb)));  (replace rn15 := rn15.chg hc9 (fun h => zLT _ (hl15 _ _ (by omega) h.1))) ; (replace row := row.chg hc9 (fun h => by have := h.2.1; omega)); (replace rx := rx.chg hc9 (fun h => by have := h.2.1; omega)); (replace htb := wV htb (j := k * 3) (by omega) hn9 hch.size); (replace hch := hch.trans hc9 (fun i hi h => .inr (.inr ⟨_, by omega, h.1⟩))); (replace hBW := zLP hBW hc9.size); (replace how := OW.push0 how hk (zLU _) ho9 hc9 hn9); clear ho9 hc9 hn9 rn8
   refine hK.out _ _ ?g9rs32 (fun hHeld => ?g9rt32)
   case g9rs32 => (try dsimp only); (first | exact HU.out.2 | exact ⟨(row.cell _).trans hcR, (row.cell _).trans hcD, (row.cell _).trans hcV⟩)
   try dsimp only at hHeld
   clear hK K
   try simp only [pD]
   refine zB [16] (by kernel_rfl) (by simp) ?_
   refine zA.con 16 rfl (fun K hK => ?g9ro33) ?g9rm33
   case g9rm33 => exact zA.nil
   (refine zN (B := p.B) rfl _ _ _ _ rfl ii (.int .i64 0) 8 Try.underlying22 hii hz0i hz1i hz2i rfl rfl (OW.own1' how hk) _ rfl 1 _ (yP (P := Try.prog) (tx := 22) Try.underlying22 rn15 1 1 rfl (by simp [Value.oneCell'])) (by simp only [maxLen]; omega) (by omega) hBW ?_; intro a16 cap16 W16 ho16 hc16 hn16); (replace rv := rv.chg hc16 (fun b hb _ h => zLT _ (zLR (hlv _ _ (by omega) h.1) hb))); (replace row := row.chg hc16 (fun h => by have := h.2.1; omega)); (replace rx := rx.chg hc16 (fun h => by have := h.2.1; omega)); (replace htb := wV htb (j := k * 3 + 1) (by omega) (by rw [zL _ _ (by omega)]; exact hn16) hch.size); (replace hch := hch.trans hc16 (fun i hi h => .inr (.inr ⟨_, by omega, h.1⟩))); (replace hBW := zLP hBW hc16.size); (replace how := OW.push1 how hk (zLU _) ho16 hc16 hn16); clear ho16 hc16 hn16 rn15
   refine hK.out _ _ ?g9rs33 (fun hHeld => ?g9rt33)
   case g9rs33 => (try dsimp only); (first | exact HU.out.2 | exact ⟨(row.cell _).trans hcR, (row.cell _).trans hcD, (row.cell _).trans hcV⟩)
   try dsimp only at hHeld
   clear hK K
   try simp only [pD]
   refine zB [22] (by kernel_rfl) (by simp) ?_
   refine zA.con 22 rfl (fun K hK => ?g9ro34) ?g9rm34
   case g9rm34 => exact zA.nil
   (refine zDJ how hk rfl _ _ rfl rfl (by omega) rfl rv hBW ?_; intro a22 cap22 W22 ho22 hc22 hn22); (replace row := row.chg hc22 (fun h => by have := h.2.1; omega)); (replace rx := rx.chg hc22 (fun h => by have := h.2.1; omega)); (replace htb := wV htb (j := k * 3 + 2) (by omega) (by rw [zL _ _ (by omega), zL _ _ (by omega)]; exact hn22) hch.size); (replace hch := hch.trans hc22 (fun i hi h => .inr (.inr ⟨_, by omega, h.1⟩))); (replace hBW := zLP hBW hc22.size); (replace how := ho22); clear ho22 hc22 hn22 rv
   refine hK.out _ _ ?g9rs34 (fun hHeld => ?g9rt34)
   case g9rs34 => (try dsimp only); (first | exact HU.out.2 | exact ⟨(row.cell _).trans hcR, (row.cell _).trans hcD, (row.cell _).trans hcV⟩)
   try dsimp only at hHeld
   clear hK K
   try simp only [pD]
   refine zB [23] (by kernel_rfl) (by simp) ?_
   refine zA.lst 23 rfl (by kernel_rfl) (fun K hK => ?g9ro35) ?g9rm35
   case g9rm35 => exact zA.nil
   (obtain ⟨c0, c1, c2⟩ := hHeld); (have qf := row.frozen); (have ql := row.lt); go_simp
   refine hK.out _ _ ?_
   clear hK K
   try simp only [pD]
   refine zB [24] (by kernel_rfl) (by simp) ?_
   refine zA.lst 24 rfl (by kernel_rfl) (fun K hK => ?g9ro36) ?g9rm36
   case g9rm36 => exact zA.nil
   go_simp
   refine hK.out _ _ ?_
   clear hK K
   try simp only [pD]
   refine zB [25] (by kernel_rfl) (by simp) ?_
   refine zA.lst 25 rfl (by kernel_rfl) (fun K hK => ?g9ro37) ?g9rm37
   case g9rm37 => exact zA.nil
   go_simp
   refine hK.out _ _ ?_
   clear hK K
   try simp only [pD]
   refine zB [26] (by kernel_rfl) (by simp) ?_
   refine zA.lst 26 rfl (by kernel_rfl) (fun K hK => ?g9ro38) ?g9rm38
   case g9rm38 => exact zA.nil
   go_simp
   refine hK.out _ _ ?_
   clear hK K
   try simp only [pD]
   refine zB [27] (by kernel_rfl) (by simp) ?_
   refine zA.lst 27 rfl (by kernel_rfl) (fun K hK => ?g9ro39) ?g9rm39
   case g9rm39 => exact zA.nil
   go_simp
   refine hK.out _ _ ?_
   clear hK K
   try simp only [pD]
   refine zB [28] (by kernel_rfl) (by simp) ?_
   refine zA.lst 28 rfl (by kernel_rfl) (fun K hK => ?g9ro40) ?g9rm40
   case g9rm40 => exact zA.nil
   go_simp
   refine hK.out _ _ ?_
   clear hK K
   try simp only [pD]
   refine zB [29] (by kernel_rfl) (by simp) ?_
   refine zA.lst 29 rfl (by kernel_rfl) (fun K hK => ?g9ro41) ?g9rm41
   case g9rm41 => exact zA.nil
   go_simp
   refine hK.out _ _ ?_
   clear hK K
   try simp only [pD]
   refine zB [30] (by kernel_rfl) (by simp) ?_
   refine zA.lst 30 rfl (by kernel_rfl) (fun K hK => ?g9ro42) ?g9rm42
   case g9rm42 => exact zA.nil
   go_simp
   refine hK.out _ _ ?_
   clear hK K
   try simp only [pD]
   refine zB [31] (by kernel_rfl) (by simp) ?_
   refine zA.lst 31 rfl (by kernel_rfl) (fun K hK => ?g9ro43) ?g9rm43
   case g9rm43 => exact zA.nil
   go_simp
   refine hK.out _ _ ?_
   clear hK K
   try simp only [pD]
   refine zE (by kernel_rfl) ?_
   have hfin := CT.fin (L := xY G k ++ [⟨r, d, o⟩]) hk row HT.out.size hH HT.out.lt (by simpa only [zAP, zAQ, zAZ, zBJ, zLS, zLQ] using how)
   simp only [zAZ, zBJ, zLS, zLQ] at hfin
   have hch2 := ((hch.setCell (p := ⟨p.bc, k * 3, none⟩) (.inr (.inr (.inl rfl))) (.slice a9 ((xY G k).length + 1) cap9)).setCell (p := ⟨p.bc, k * 3 + 1, none⟩) (.inr (.inr (.inl rfl))) (.slice a16 ((xY G k).length + 1) cap16)).setCell (p := ⟨p.bc, k * 3 + 2, none⟩) (.inr (.inr (.inl rfl))) (.slice a22 ((zV (xY G k)).length + o.toList.length) cap22)
   have hne : p.bx ≠ p.bc := hbd.2.2.1
   have rx2 := ((rx.other (p := ⟨p.bc, k * 3, none⟩) hne (.slice a9 ((xY G k).length + 1) cap9)).other (p := ⟨p.bc, k * 3 + 1, none⟩) hne (.slice a16 ((xY G k).length + 1) cap16)).other (p := ⟨p.bc, k * 3 + 2, none⟩) hne (.slice a22 ((zV (xY G k)).length + o.toList.length) cap22)
   clear row rx how hch
   go_wp2_with fail
   refine bodyPost_end (v := .tuple #[]) (by simp [results, Try.results73, go_sem]) rfl ?_
   have hok : ∀ b, b < w.heap.size → p.ok b → ¬ p.ch aa b ∧ p.ok b := fun b _ hb => ⟨H.out.okch hb, hb⟩
   refine ⟨rfl, _, ⟨by rw [zFb hk _ ho']; exact rx2, H.out.s.go hch2 hok (by decide), H.out.kids.go hch2 hok, H.out.lvs.go hch2 hok, ⟨_, _, hfin.congr (fun j _ => zDS _ ho' j)⟩, by have := hch2.size; have := hbd; omega⟩, hch2, htb⟩
  case g9rm30 =>
  exact zA.nil
theorem zIn (p : SP) (G : Nat → List Cel) (aa : Nat → Option Addr) (k : Nat) (hk : k < p.m) (r d : Nat) (w : World) (h : Str p w G aa) :
  Calls Try.prog 73 #[.pointer (some ⟨p.bx, 0, none⟩), .int .i64 (k : Int), .int .i64 (r : Int), .int .i64 (d : Int), .slice none 0 0] w (zEb p (upd G k (G k ++ [⟨r, d, none⟩])) aa w) := zGm p G aa k hk r d none _ w w h (b0 w) rfl
theorem zIm (p : SP) (G : Nat → List Cel) (aa : Nat → Option Addr) (k : Nat) (hk : k < p.m) (r d : Nat) (x : Vc) (w0 : World) (w : World) (h0 : Str p w0 G aa) (hb0 : Below w0.heap.size w0 w) (rv : Rw w w0.heap.size #[.int .i64 x.n, .string x.s] 44) :
  Calls Try.prog 73 #[.pointer (some ⟨p.bx, 0, none⟩), .int .i64 (k : Int), .int .i64 (r : Int), .int .i64 (d : Int), .slice (some ⟨w0.heap.size, 0, none⟩) 1 1] w (zEb p (upd G k (G k ++ [⟨r, d, some x⟩])) aa w) := zGm p G aa k hk r d (some x) _ w0 w h0 hb0 ⟨_, rfl, Nat.le_refl _, rv⟩
end Go.Proofs.Ytjbkjfefjhbolaa
