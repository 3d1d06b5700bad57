import Derived.Test.YtjbkjfefjhbolaakSchP
import Derived.Deep.CutBlock
import Derived.IntWalk
set_option linter.all false
open List renaming mem_cons_self → zLP, getElem?_append_right → zLQ, mem_cons_of_mem → zLR
open Nat renaming lt_of_lt_of_le → zLS, sub_self → zLT, le_refl → zLU
namespace Go.Proofs.Ytjbkjfefjhbolaa
open Go.RowKit Go.Shr
def Apa (a b : Option Addr) : Prop := ∀ k, blk a k → ¬ blk b k
theorem Apa.symm {a b : Option Addr} (h : Apa a b) : Apa b a := fun k h1 h2 => h k h2 h1
theorem Apa.none (b : Option Addr) : Apa Option.none b := fun k ⟨_, _, h⟩ => by cases h
structure Is (B : Nat) (w : World) (a : Option Addr) (n cap : Nat) (xs : List Int) : Prop where
 own : Own B w 3 1 a n cap (zQ xs)
 lt : ∀ b, blk a b → b < w.heap.size
 len : n = xs.length
section
variable {B : Nat} {w w' w3 : World} {a a3 y : Option Addr} {n cap cap3 m capy : Nat} {xs ys : List Int}
theorem Is.nil (B : Nat) (w : World) : Is B w none 0 0 [] := ⟨Own.nil _ _ _ _, (fun b ⟨_, _, h⟩ => by cases h), rfl⟩
theorem Is.below (h : Is B w a n cap xs) (hb : Below w.heap.size w w') : Is B w' a n cap xs := ⟨h.own.below hb, fun b hk => zLS (h.lt b hk) hb.size, h.len⟩
theorem Is.push {x : Int} (h : Is B w a n cap xs) (ho : Own B w3 3 1 a3 (n + 1) cap3 (zQ xs ++ [.int .i64 x])) : Is B w3 a3 (n + 1) cap3 (xs ++ [x]) :=
 ⟨by rw [yT]; exact ho, fun b hk => by
  obtain ⟨g, rfl, _, h2, _⟩ := ho.pos (by omega)
  obtain ⟨_, _, e⟩ := hk
  cases e; exact h2, by simp [h.len]⟩
theorem Is.keep (h : Is B w y m capy ys) (hap : Apa a y) (hc : Chg (fun k => blk a k ∧ B ≤ k ∧ 0 < cap) w w3) : Is B w3 y m capy ys :=
 ⟨h.own.chg hc (fun k hk h2 => hap k h2.1 hk), fun b hk => zLS (h.lt b hk) hc.size, h.len⟩
theorem Apa.keep (h : Is B w y m capy ys) (hap : Apa a y) (hn : ∀ k, blk a3 k → blk a k ∨ w.heap.size ≤ k) : Apa a3 y := fun k h1 h2 => by
 rcases hn k h1 with h3 | h3
 ·exact hap k h3 h2
 ·have := h.lt k h2; omega
theorem Is.set {g : Nat} (h : Is B w a n cap xs) (ha : a = some ⟨g, 0, none⟩) (j : Nat) (x : Int) : Is B (w.setCell ⟨g, j, none⟩ (.int .i64 x)) a n cap (xs.set j x) :=
 ⟨by have := h.own.stored ha j (.int .i64 x); rwa [show (zQ xs).set j (.int .i64 x) = zQ (xs.set j x) by simp [zQ, List.map_set]] at this, fun b hk => by simpa using h.lt b hk, by simp [h.len]⟩
theorem Is.other {g : Nat} (h : Is B w y m capy ys) (hap : Apa a y) (ha : a = some ⟨g, 0, none⟩) (j : Nat) (u : Value) : Is B (w.setCell ⟨g, j, none⟩ u) y m capy ys :=
 ⟨h.own.setCell (p := ⟨g, j, none⟩) (fun k hk e => hap k (by subst ha; subst e; exact ⟨_, _, rfl⟩) hk) u, fun b hk => by simpa using h.lt b hk, h.len⟩
theorem Is.less (h : Is B w a n cap xs) {k : Nat} (hk : k ≤ n) : Is B w a k cap (xs.take k) :=
 ⟨by have := h.own.less hk; simpa [zQ, List.map_take] using this, h.lt, by rw [List.length_take, ← h.len]; omega⟩
end
def zLC : Value → Nat | .slice _ n _ => n | _ => 0
def zGX : Nat → Stk → List Fl → List Int
 | _, _, [] => []
 | i, st, f :: l => ((qH st).length : Int) :: zGX (i + 1) (jE i f st) l
def dep (l : List Fl) : List Int := zGX 0 [] l
theorem zEQ : ∀ (l : List Fl) (i : Nat) (st : Stk) (f : Fl), zGX i st (l ++ [f]) = zGX i st l ++ [((qH (zAH i st l)).length : Int)]
 | [], _, _, _ => rfl
 | x :: l, i, st, f => by simp only [List.cons_append, zGX, zAH, zEQ l]
theorem zGN (i : Int) (f : Fl) {st st2 : Stk} (h : qH st = qH st2) : jE i f st = jE i f st2 := by simp only [jE, h]
def zCY (st : Stk) : List Int := st.reverse.map (·.1)
def zDb (st : Stk) : List Int := st.reverse.map (·.2)
theorem zAo (g : Int × Int) (r : Stk) : zCY (g :: r) = zCY r ++ [g.1] := by simp [zCY]
theorem wI (g : Int × Int) (r : Stk) : zDb (g :: r) = zDb r ++ [g.2] := by simp [zDb]
theorem zDQ (st : Stk) : (zCY st).length = st.length := by simp [zCY]
theorem zBt (st : Stk) : (zDb st).length = st.length := by simp [zDb]
theorem zI8 (g : Int × Int) (r : Stk) : (zQ (zCY (g :: r)))[r.length]? = some (.int .i64 g.1) := by
 rw [zAo, yT, zLQ (by rw [jG, zDQ]; exact zLU _), jG, zDQ, zLT]; rfl
theorem zFS (g : Int × Int) (r : Stk) : (zQ (zDb (g :: r)))[r.length]? = some (.int .i64 g.2) := by
 rw [wI, yT, zLQ (by rw [jG, zBt]; exact zLU _), jG, zBt, zLT]; rfl
theorem zIc (g : Int × Int) (r : Stk) : (zCY (g :: r)).take r.length = zCY r := by
 rw [zAo, ← zDQ r, List.take_left]
theorem zHO (g : Int × Int) (r : Stk) : (zDb (g :: r)).take r.length = zDb r := by
 rw [wI, ← zBt r, List.take_left]
theorem zII (g : Int × Int) (r : Stk) (x : Int) : (zDb (g :: r)).set r.length x = zDb ((g.1, x) :: r) := by
 rw [wI, wI, List.set_append_right _ _ (by rw [zBt]; exact zLU _), zBt, zLT]; rfl
structure zEV (st st2 : Stk) : Prop where
 pop : qH st = qH st2
 nn : ∀ g ∈ st, 0 ≤ g.2 ∧ g.2 ≤ 1000
theorem zEV.less {g : Int × Int} {r st2 : Stk} (h : zEV (g :: r) st2) (h0 : g.2 = 0) : zEV r st2 :=
 ⟨by rw [← h.pop]; simp [qH, h0], fun x hx => h.nn x (zLR _ hx)⟩
def zF3 : Stk → Stk
 | [] => []
 | g :: r => (g.1, g.2 - 1) :: r
theorem zH5 {i : Int} {f : Fl} {st st2 : Stk} (h : zEV st st2) (hp : qH st = st) : jE i f st2 = if f.kind = 0 then (i, f.kids) :: zF3 st else zF3 st := by
 rw [← zGN i f h.pop]
 unfold jE
 rw [hp]
 cases st <;> rfl
theorem zEV.mid {st st2 : Stk} (h : zEV st st2) (hp : qH st = st) : ∀ g ∈ zF3 st, 0 ≤ g.2 ∧ g.2 ≤ 1000 := by
 cases st with
 | nil => intro g hg; cases hg
 | cons g r =>
  intro x hx
  rcases List.mem_cons.1 hx with rfl | hx
  ·have h1 := h.nn g (zLP ..)
   have h2 : ¬ g.2 ≤ 0 := fun h0 => by
    have e : qH (g :: r) = qH r := by simp [qH, h0]
    rw [e] at hp
    have := zFZ r
    rw [hp] at this; simp at this; omega
   simp; omega
  ·exact h.nn x (zLR _ hx)
set_option maxHeartbeats 8000000 in
set_option maxRecDepth 100000 in
theorem zHY (a : Option Addr) (n cap : Nat) (l : List Fl) (w : World) (hs : Sl (fun b => b < w.heap.size) w 4 a n cap (fls l)) (hn : n ≤ 1000) (hkid : ∀ x ∈ l, x.kids ≤ 1000) :
  Calls Try.prog 54 #[.slice a n cap] w fun e w' => ∃ aP cP aD cD, e = .returned (.tuple #[.slice aP n cP, .slice aD n cD]) ∧ Is w.heap.size w' aP n cP (par l) ∧ Is w.heap.size w' aD n cD (dep l) ∧ Apa aP aD ∧ Below w.heap.size w w' := by
 obtain ⟨ii, hii, hz0i, hz1i, hz2i⟩ := info_parts jR
 have hlen : l.length = n := by have := hs.len; rw [wG] at this; omega
 have HS := zH hs; have HK := zH hkid; clear hs hkid
 go_enter Try.func54, Try.ntmps54
 go_wp2_with fail
 go_loopw [4, 5, 6, 7, 8] (fun vP vD vO vF iv wr => ∃ (j : Nat) (st : Stk) (aP aD aO aF : Option Addr) (cP cD cO cF : Nat), vP = .slice aP j cP ∧ vD = .slice aD j cD ∧ vO = .slice aO st.length cO ∧ vF = .slice aF st.length cF ∧ iv = .int .i64 (j : Int) ∧ j ≤ n ∧ st.length ≤ j ∧
   Hid (zEV st (zAH 0 [] (l.take j))) ∧ Hid (Is w.heap.size wr aP j cP (qZ 0 [] (l.take j))) ∧ Hid (Is w.heap.size wr aD j cD (zGX 0 [] (l.take j))) ∧ Hid (Is w.heap.size wr aO st.length cO (zCY st)) ∧ Hid (Is w.heap.size wr aF st.length cF (zDb st)) ∧
   Hid (Apa aP aD) ∧ Hid (Apa aP aO) ∧ Hid (Apa aP aF) ∧ Hid (Apa aD aO) ∧ Hid (Apa aD aF) ∧ Hid (Apa aO aF) ∧ Hid (Below w.heap.size w wr)) (fun _ _ _ _ iv _ => n - (intOf iv).toNat)
 case atStart => exact ⟨0, [], none, none, none, none, 0, 0, 0, 0, rfl, rfl, rfl, rfl, rfl, Nat.zero_le _, Nat.zero_le _, zH ⟨rfl, by simp⟩, zH (Is.nil _ _), zH (Is.nil _ _), zH (Is.nil _ _), zH (Is.nil _ _), zH (Apa.none _), zH (Apa.none _), zH (Apa.none _), zH (Apa.none _), zH (Apa.none _), zH (Apa.none _), zH (b0 w)⟩
 case round =>
  obtain ⟨j, st, aP, aD, aO, aF, cP, cD, cO, cF, rfl, rfl, rfl, rfl, rfl, hj, hstl, HL, IP, ID, IO, IF, PD, PO, PF, DO, DF, OF, HB⟩ := hrel
  have hszr := HB.out.size
  by_cases hlt : j < n
  ·obtain ⟨sb, soff, rfl, hsb, hsc⟩ := HS.out.pos (by omega)
   have hf := yB l j (by omega)
   have f2w := hsc _ _ hf.2.2.1
   have f3w := hsc _ _ hf.2.2.2
   rw [← Nat.add_assoc] at f2w f3w
   have f2 := cb HB.out f2w
   have f3 := cb HB.out f3w
   have HFC0 := zH (And.intro f2w f3w)
   clear f2w f3w
   have HT : Hid (l.take (j + 1) = l.take j ++ [l[j]'(by omega)]) := zH (List.take_succ_eq_append_getElem (by omega))
   have hkb := HK.out (l[j]'(by omega)) (List.getElem_mem _)
   have hltj : (l.take j).length = j := by rw [List.length_take]; omega
   have HN : Hid (zAH 0 [] (l.take (j + 1)) = jE (j : Int) (l[j]'(by omega)) (zAH 0 [] (l.take j))) := zH (by rw [HT.out, zCt, Nat.zero_add, hltj])
   have HPa : Hid (qZ 0 [] (l.take (j + 1)) = qZ 0 [] (l.take j) ++ [zCJ (zAH 0 [] (l.take j))]) := zH (by rw [HT.out, zCy])
   have HDe : Hid (zGX 0 [] (l.take (j + 1)) = zGX 0 [] (l.take j) ++ [((qH (zAH 0 [] (l.take j))).length : Int)]) := zH (by rw [HT.out, zEQ])
   generalize l[j]'(by omega) = f at *
   have HFC := HFC0
   clear HFC0
   generalize zAH 0 [] (l.take j) = S0 at *
   clear hf hltj hsc
   go_upto_block 2 with fail
   go_cut [6, 7] from 15 to 36 (fun vO vF wc => ∃ st' : Stk, vO = .slice aO st'.length cO ∧ vF = .slice aF st'.length cF ∧ st'.length ≤ j ∧ Hid (zEV st' S0) ∧ Hid (qH st' = st') ∧ Hid (Is w.heap.size wc aO st'.length cO (zCY st')) ∧ Hid (Is w.heap.size wc aF st'.length cF (zDb st')) ∧ Hid (Chg (fun _ => False) wr wc))
   case first =>
    go_wp2_with fail
    go_loopw [6, 7] (fun vO vF wq => ∃ st' : Stk, vO = .slice aO st'.length cO ∧ vF = .slice aF st'.length cF ∧ st'.length ≤ j ∧ Hid (zEV st' S0) ∧ Hid (Is w.heap.size wq aO st'.length cO (zCY st')) ∧ Hid (Is w.heap.size wq aF st'.length cF (zDb st')) ∧ Hid (Chg (fun _ => False) wr wq)) (fun vO _ _ => zLC vO)
    case atStart => exact ⟨st, rfl, rfl, hstl, HL, IO, IF, zH (Chg.refl _ _)⟩
    case round =>
     obtain ⟨st', rfl, rfl, hstl', HL', IO', IF', HC'⟩ := hrel
     cases st' with
     | nil =>
      go_wp2_with fail
      go_meet
      case rel => exact ⟨[], rfl, rfl, hstl', HL', zH rfl, IO', IF', HC'⟩
     | cons g r =>
      obtain ⟨gf, hgf, hg1, hg2, hg3, hg4⟩ := IF'.out.own.pos (by simp)
      have c1 := hg3 _ _ (zFS g r)
      have hnn := HL'.out.nn g (zLP ..)
      have hlz : (g :: r).length = r.length + 1 := rfl
      rw [hlz] at hstl' ⊢
      have hleO := IO'.out.own.le
      have hleF := IF'.out.own.le
      rw [hlz] at hleO hleF
      have IO2 := zH (IO'.out.less (k := r.length) (by simp))
      have IF2 := zH (IF'.out.less (k := r.length) (by simp))
      have HFT := zH (zIc g r); have HST := zH (zHO g r)
      have HGF := zH hgf
      clear hg3 hg4 hlz hgf
      obtain rfl := HGF.out
      by_cases h0 : g.2 = 0
      ·have HL2 := zH (HL'.out.less h0)
       rw [h0] at c1
       clear h0 hnn
       have hwk : IntKind.i64.wrap (r.length : Int) = (r.length : Int) := IntWalk.i64_in _ ⟨by omega, by omega⟩
       have hk0 : (0 : Int) ≤ (r.length : Int) := by omega
       have hkO : (r.length : Int) ≤ (cO : Int) := by omega
       have hkF : (r.length : Int) ≤ (cF : Int) := by omega
       go_wp2_with fail
       refine zF (fun _ => True) [11] (by kernel_rfl) ?g2rgS (fun hHeld => ?g2rgR)
       case g2rgS => trivial
       try dsimp only at hHeld
       refine zD [0, 1, 2, 3, 4, 5, 6, 7, 8, 9, 10] 1 (by kernel_rfl) (fun _ _ _ _ _ h => h) (by assumption) ?_
       iterate 11 ((apply YA.take rfl (by rfl); case hy => intro w hSw; go_simp; try with_reducible rfl); try simp only [pD])
       refine YA.nil ?_
       refine zB [11] (by kernel_rfl) (by simp) ?_
       refine zA.lst 11 rfl (by kernel_rfl) (fun K hK => ?g2ro1) ?g2rm1
       case g2rm1 => exact zA.nil
       go_simp
       refine hK.out _ _ ?_
       clear hK K
       try simp only [pD]
       refine zE (by kernel_rfl) ?_
       clear hwk
       go_wp2_with fail
       go_roundw
       case rel => exact ⟨r, rfl, rfl, by omega, HL2, zH (by rw [← HFT.out]; exact IO2.out.below (Below.refl _ _).drew), zH (by rw [← HST.out]; exact IF2.out.below (Below.refl _ _).drew), zH HC'.out.drew⟩
       case measure => simp [zLC]
      ·have hp : qH (g :: r) = g :: r := by simp [qH]; omega
       have HPP := zH hp
       have hb : (g.2 == 0) = false := beq_eq_false_iff_ne.2 h0
       clear hp h0
       go_wp2_with fail
       go_meet
       case rel => exact ⟨g :: r, rfl, rfl, hstl', HL', HPP, IO', IF', HC'⟩
   case rest =>
    obtain ⟨st', rfl, rfl, hstl', HL', HPP, IO', IF', HC'⟩ := hcut
    have HB' := zH (bt HB.out (Chg.nothing HC'.out (fun _ _ h => h)))
    have bel' := Chg.nothing HC'.out (fun _ _ h => h)
    have IP' := zH (IP.out.below bel'); have ID' := zH (ID.out.below bel')
    replace f2 := cb bel' f2
    replace f3 := cb bel' f3
    have hszc := HB'.out.size
    clear bel'
    have HNM := zH (zH5 (i := (j : Int)) (f := f) HL'.out HPP.out)
    have HMM := zH (HL'.out.mid HPP.out)
    have hps : zCJ S0 = match st' with | [] => -1 | g :: _ => g.1 := by
     unfold zCJ; rw [← HL'.out.pop, HPP.out]; cases st' <;> rfl
    have hds : (qH S0).length = st'.length := by rw [← HL'.out.pop, HPP.out]
    have HPS := zH hps; have HDS := zH hds
    clear hps hds
    apply_assumption
    refine wp_seq_k (fun K hK => ?_)
    go_cut [4, 5] from 37 to 67 (fun vP vD wd => ∃ (aP' aD' : Option Addr) (cP' cD' : Nat), vP = .slice aP' (j + 1) cP' ∧ vD = .slice aD' (j + 1) cD' ∧ Hid (Is w.heap.size wd aP' (j + 1) cP' (qZ 0 [] (l.take (j + 1)))) ∧ Hid (Is w.heap.size wd aD' (j + 1) cD' (zGX 0 [] (l.take (j + 1)))) ∧ Hid (Is w.heap.size wd aO st'.length cO (zCY (zF3 st'))) ∧ Hid (Is w.heap.size wd aF st'.length cF (zDb (zF3 st'))) ∧ Hid (Apa aP' aD') ∧ Hid (Apa aP' aO) ∧ Hid (Apa aP' aF) ∧ Hid (Apa aD' aO) ∧ Hid (Apa aD' aF) ∧ Hid (Below w.heap.size w wd))
    case first =>
     have tok1 : True := trivial
     have tok2 : True := trivial
     cases st' with
     | nil =>
      clear f2 f3
      go_wp2_with (first
       | (at_builtin; have _t := tok1; clear tok1; clear _t; refine zI (B := w.heap.size) rfl _ _ _ _ rfl ii (.int .i64 0) 8 Try.underlying22 hii hz0i hz1i hz2i rfl rfl (IP'.out.own.alloc _) _ rfl _ _ (zP (e' := 3) Try.underlying22 wc #[.int .i64 (-1)] 3 1 1 rfl (by simp [Value.oneCell'])) (by simp only [maxLen]; omega) (by omega) (by first | omega | (simp; omega) | simp) ?_; intro a5 cap5 w5 ho5 hc5 hn5); (have I5 := zH (Is.push IP'.out ho5)); (have J5D := zH (Is.keep (ID'.out.below (ba (b0 wc) _)) PD.out hc5)); (have P5D := zH (Apa.keep (ID'.out.below (ba (b0 wc) _)) PD.out hn5)); (have J5O := zH (Is.keep (IO'.out.below (ba (b0 wc) _)) PO.out hc5)); (have P5O := zH (Apa.keep (IO'.out.below (ba (b0 wc) _)) PO.out hn5)); (have J5F := zH (Is.keep (IF'.out.below (ba (b0 wc) _)) PF.out hc5)); (have P5F := zH (Apa.keep (IF'.out.below (ba (b0 wc) _)) PF.out hn5)); (have B5 := zH (Chg.bt (ba HB'.out _) hc5 (fun i hi h => by omega))); (have C5 := zH hc5); (have hz5 := B5.out.size); clear ho5 hc5 hn5
       | (at_builtin; have _t := tok2; clear tok2; clear _t; refine zI (B := w.heap.size) rfl _ _ _ _ rfl ii (.int .i64 0) 8 Try.underlying22 hii hz0i hz1i hz2i rfl rfl (J5D.out.own.alloc _) _ rfl _ _ (zP (e' := 3) Try.underlying22 w5 #[.int .i64 0] 3 1 1 rfl (by simp [Value.oneCell'])) (by simp only [maxLen]; omega) (by omega) (by first | omega | (simp; omega) | simp) ?_; intro a6 cap6 w6 ho6 hc6 hn6); (have I6 := zH (Is.push J5D.out ho6)); (have J6P := zH (Is.keep (I5.out.below (ba (b0 w5) _)) P5D.out.symm hc6)); (have P6P := zH (Apa.keep (I5.out.below (ba (b0 w5) _)) P5D.out.symm hn6)); (have J6O := zH (Is.keep (J5O.out.below (ba (b0 w5) _)) DO.out hc6)); (have P6O := zH (Apa.keep (J5O.out.below (ba (b0 w5) _)) DO.out hn6)); (have J6F := zH (Is.keep (J5F.out.below (ba (b0 w5) _)) DF.out hc6)); (have P6F := zH (Apa.keep (J5F.out.below (ba (b0 w5) _)) DF.out hn6)); (have B6 := zH (Chg.bt (ba B5.out _) hc6 (fun i hi h => by omega))); (have C6 := zH hc6); (have hz6 := B6.out.size); clear ho6 hc6 hn6
       | fail)
      go_meet
      case rel => exact ⟨a5, a6, cap5, cap6, rfl, rfl, zH (by rw [HPa.out, HPS.out]; exact J6P.out), zH (by rw [HDe.out, HDS.out]; exact I6.out), J6O, J6F, zH P6P.out.symm, zH P5O.out, zH P5F.out, zH P6O.out, zH P6F.out, B6⟩
     | cons g r =>
      obtain ⟨gf, hgf, hg1, hg2, hg3, hg4⟩ := IF'.out.own.pos (by simp)
      obtain ⟨gO, hgo, hh1, hh2, hh3, hh4⟩ := IO'.out.own.pos (by simp)
      have c1 := hg3 _ _ (zFS g r)
      have c2 := hh3 _ _ (zI8 g r)
      have c3 := hg4 r.length
      have hnn := HL'.out.nn g (zLP ..)
      have hnz : ¬ g.2 ≤ 0 := fun h0 => by
       have hp := HPP.out
       have e : qH (g :: r) = qH r := by simp [qH, h0]
       rw [e] at hp
       have := zFZ r
       rw [hp] at this; simp at this; omega
      have hne : gO ≠ gf := fun e => OF.out gO ⟨0, none, hgo⟩ ⟨0, none, by rw [hgf, e]⟩
      have hlz : (g :: r).length = r.length + 1 := rfl
      have IF3 := zH (by have h := IF'.out.set hgf r.length (g.2 - 1); rwa [zII] at h)
      have IO3 := zH (IO'.out.other OF.out.symm hgf r.length (.int .i64 (g.2 - 1)))
      have IP3 := zH (IP'.out.other PF.out.symm hgf r.length (.int .i64 (g.2 - 1)))
      have ID3 := zH (ID'.out.other DF.out.symm hgf r.length (.int .i64 (g.2 - 1)))
      have HB3 := zH (HB'.out.setCell (p := ⟨gf, r.length, none⟩) hg1 (.int .i64 (g.2 - 1)))
      have c4 : (wc.setCell ⟨gf, r.length, none⟩ (.int .i64 (g.2 - 1))).cell? ⟨gO, r.length, none⟩ = some (.int .i64 g.1) := ((Chg.refl (fun b => b = gf) wc).setCell (p := ⟨gf, r.length, none⟩) (.inr rfl) _).keep c2 hne
      have hsw : (wc.setCell ⟨gf, r.length, none⟩ (.int .i64 (g.2 - 1))).heap.size = wc.heap.size := by simp
      have hleO := IO'.out.own.le
      have hleF := IF'.out.own.le
      rw [hlz] at hleO hleF hstl' ⊢
      have HGF := zH hgf; have HGO := zH hgo; have C4 := zH c4; have HSW := zH hsw
      clear hg3 hg4 hh3 hh4 hgf hgo hlz f2 f3 c4 c2 hsw
      obtain rfl := HGF.out
      obtain rfl := HGO.out
      go_upto_region 10 with fail
      have C4' := C4.out
      have hw3 := HSW.out
      generalize wc.setCell ⟨gf, r.length, none⟩ (.int .i64 (g.2 - 1)) = w3 at *
      have hgw : gO < w3.heap.size := by omega
      have HW3 := zH hw3
      have hz3 : w.heap.size ≤ w3.heap.size := by omega
      clear hw3 c1 c3 hnz
      go_wp2_with (first
       | (at_builtin; have _t := tok1; clear tok1; clear _t; refine zI (B := w.heap.size) rfl _ _ _ _ rfl ii (.int .i64 0) 8 Try.underlying22 hii hz0i hz1i hz2i rfl rfl (IP3.out.own.alloc _) _ rfl _ _ (zP (e' := 3) Try.underlying22 w3 #[.int .i64 g.1] 3 1 1 rfl (by simp [Value.oneCell'])) (by simp only [maxLen]; omega) (by omega) (by first | omega | (simp; omega) | simp) ?_; intro a5 cap5 w5 ho5 hc5 hn5); (have I5 := zH (Is.push IP3.out ho5)); (have J5D := zH (Is.keep (ID3.out.below (ba (b0 w3) _)) PD.out hc5)); (have P5D := zH (Apa.keep (ID3.out.below (ba (b0 w3) _)) PD.out hn5)); (have J5O := zH (Is.keep (IO3.out.below (ba (b0 w3) _)) PO.out hc5)); (have P5O := zH (Apa.keep (IO3.out.below (ba (b0 w3) _)) PO.out hn5)); (have J5F := zH (Is.keep (IF3.out.below (ba (b0 w3) _)) PF.out hc5)); (have P5F := zH (Apa.keep (IF3.out.below (ba (b0 w3) _)) PF.out hn5)); (have B5 := zH (Chg.bt (ba HB3.out _) hc5 (fun i hi h => by omega))); (have C5 := zH hc5); (have hz5 := B5.out.size); clear ho5 hc5 hn5
       | (at_builtin; have _t := tok2; clear tok2; clear _t; refine zI (B := w.heap.size) rfl _ _ _ _ rfl ii (.int .i64 0) 8 Try.underlying22 hii hz0i hz1i hz2i rfl rfl (J5D.out.own.alloc _) _ rfl _ _ (zP (e' := 3) Try.underlying22 w5 #[.int .i64 ((r.length : Int) + 1)] 3 1 1 rfl (by simp [Value.oneCell'])) (by simp only [maxLen]; omega) (by omega) (by first | omega | (simp; omega) | simp) ?_; intro a6 cap6 w6 ho6 hc6 hn6); (have I6 := zH (Is.push J5D.out ho6)); (have J6P := zH (Is.keep (I5.out.below (ba (b0 w5) _)) P5D.out.symm hc6)); (have P6P := zH (Apa.keep (I5.out.below (ba (b0 w5) _)) P5D.out.symm hn6)); (have J6O := zH (Is.keep (J5O.out.below (ba (b0 w5) _)) DO.out hc6)); (have P6O := zH (Apa.keep (J5O.out.below (ba (b0 w5) _)) DO.out hn6)); (have J6F := zH (Is.keep (J5F.out.below (ba (b0 w5) _)) DF.out hc6)); (have P6F := zH (Apa.keep (J5F.out.below (ba (b0 w5) _)) DF.out hn6)); (have B6 := zH (Chg.bt (ba B5.out _) hc6 (fun i hi h => by omega))); (have C6 := zH hc6); (have hz6 := B6.out.size); clear ho6 hc6 hn6
       | fail)
      go_meet
      case rel =>
       have JO := zH (show Is w.heap.size w6 (some ⟨gO, 0, none⟩) (g :: r).length cO (zCY (zF3 (g :: r))) by (have h := J6O.out; rwa [show zCY (zF3 (g :: r)) = zCY (g :: r) by simp [zF3, zAo]]))
       exact ⟨a5, a6, cap5, cap6, rfl, rfl, zH (by rw [HPa.out, HPS.out]; exact J6P.out), zH (by rw [HDe.out, HDS.out]; exact I6.out), JO, J6F, zH P6P.out.symm, zH P5O.out, zH P5F.out, zH P6O.out, zH P6F.out, B6⟩
    case rest =>
     obtain ⟨aP', aD', cP', cD', rfl, rfl, IP4, ID4, IO4, IF4, PD4, PO4, PF4, DO4, DF4, HB4⟩ := hcut
     replace f2 := cb HB4.out (HFC.out.1)
     replace f3 := cb HB4.out (HFC.out.2)
     have hsz4 := HB4.out.size
     have hml : st'.length = (zF3 st').length := by cases st' <;> rfl
     rw [hml] at hstl' ⊢
     have IO5 := zH (by have h := IO4.out; rwa [hml] at h)
     have IF5 := zH (by have h := IF4.out; rwa [hml] at h)
     clear hml IO4 IF4
     clear HPS HDS HL' IO' IF' HPP
     generalize zF3 st' = sm at *
     have hki : zQ (qZ 0 [] (l.take (j + 1))) = zQ (qZ 0 [] (l.take (j + 1))) := rfl
     clear hki
     by_cases hk0 : f.kind = 0
     ·have hkk : f.kids ≤ 0 ∨ 0 < f.kids := by omega
      rcases hkk with hkk | hkk
      ·have HL4 : Hid (zEV sm (zAH 0 [] (l.take (j + 1)))) := zH ⟨by rw [HN.out, HNM.out, if_pos hk0]; simp [qH, hkk], HMM.out⟩
       rw [hk0] at f2
       clear hk0
       go_wp2_with fail
       go_roundw
       case rel => exact ⟨j + 1, sm, aP', aD', aO, aF, cP', cD', cO, cF, rfl, rfl, rfl, rfl, by go_num, by omega, by omega, HL4, IP4, ID4, IO5, IF5, PD4, PO4, PF4, DO4, DF4, OF, HB4⟩
       case measure => simp [intOf]; omega
      ·have HL4 : Hid (zEV (((j : Int), f.kids) :: sm) (zAH 0 [] (l.take (j + 1)))) := zH ⟨by rw [HN.out, HNM.out, if_pos hk0], fun x hx => by
        rcases List.mem_cons.1 hx with rfl | hx
        ·dsimp only; omega
        ·exact HMM.out x hx⟩
       rw [hk0] at f2
       clear hk0
       go_wp2_with fail
       refine zF (fun w' => w'.cell? ⟨sb, soff + j * 4 + 3, none⟩ = some (.int .i64 f.kids)) [13] (by kernel_rfl) ?g3rgS (fun hHeld => ?g3rgR)
       case g3rgS => (try dsimp only); (first | exact f3 | exact cb (ba (b0 _) _) hHeld | exact hc5.keep hHeld (by rintro ⟨_, h, _⟩; omega) | exact hc6.keep hHeld (by rintro ⟨_, h, _⟩; omega))
       try dsimp only at hHeld
       refine zD [0, 1, 4, 5, 6, 7, 8, 9] 6 (by kernel_rfl) (fun _ _ _ _ _ h => h) (by assumption) ?_
       iterate 8 ((apply YA.take rfl (by rfl); case hy => intro w hSw; go_simp; try with_reducible rfl); try simp only [pD])
       refine YA.nil ?_
       refine zB [2, 10] (by kernel_rfl) (by simp) ?_
       refine zA.con 2 rfl (fun K hK => ?g3ro1) ?g3rm1
       case g3ro1 =>
        go_simp
        refine hK.out _ _ ?g3rs1 (fun hHeld => ?g3rt1)
        case g3rs1 => (try dsimp only); (first | exact f3 | exact cb (ba (b0 _) _) hHeld | exact hc5.keep hHeld (by rintro ⟨_, h, _⟩; omega) | exact hc6.keep hHeld (by rintro ⟨_, h, _⟩; omega))
        try dsimp only at hHeld
        clear hK K
        try simp only [pD]
        refine zB [3, 10] (by kernel_rfl) (by simp) ?_
        refine zA.con 3 rfl (fun K hK => ?g3ro2) ?g3rm2
        case g3ro2 =>
         (refine zN (B := w.heap.size) rfl _ _ _ _ rfl ii (.int .i64 0) 8 Try.underlying22 hii hz0i hz1i hz2i rfl rfl ((by first | exact IO5.out.own | exact IO5.out.own.alloc _ | exact IO5.out.own.drew.alloc _ | exact (IO5.out.own.drew.alloc _).alloc _ | exact IO5.out.own.drew)) _ rfl _ _ (yP (e' := 3) Try.underlying22 (cur := #[.int .i64 (j : Int)]) (t := 3) (by (repeat (first | (refine Rw.new' ?_; (simp; done)) | refine Rw.alloc ?_ _ | assumption)); done) 1 1 (by rfl) (by simp [Value.oneCell'])) (by simp only [maxLen]; omega) (by omega) (by first | omega | (simp; omega) | simp) ?_; intro a5 cap5 w5 ho5 hc5 hn5); (have I5 := zH (Is.push IO5.out ho5)); (have J5P := zH (Is.keep (IP4.out.below (by first | exact b0 _ | exact ba (b0 _) _ | exact ba (b0 _).drew _ | exact ba (ba (b0 _).drew _) _ | exact (b0 _).drew)) PO4.out.symm hc5)); (have P5P := zH (Apa.keep (IP4.out.below (by first | exact b0 _ | exact ba (b0 _) _ | exact ba (b0 _).drew _ | exact ba (ba (b0 _).drew _) _ | exact (b0 _).drew)) PO4.out.symm hn5)); (have J5D := zH (Is.keep (ID4.out.below (by first | exact b0 _ | exact ba (b0 _) _ | exact ba (b0 _).drew _ | exact ba (ba (b0 _).drew _) _ | exact (b0 _).drew)) DO4.out.symm hc5)); (have P5D := zH (Apa.keep (ID4.out.below (by first | exact b0 _ | exact ba (b0 _) _ | exact ba (b0 _).drew _ | exact ba (ba (b0 _).drew _) _ | exact (b0 _).drew)) DO4.out.symm hn5)); (have J5F := zH (Is.keep (IF5.out.below (by first | exact b0 _ | exact ba (b0 _) _ | exact ba (b0 _).drew _ | exact ba (ba (b0 _).drew _) _ | exact (b0 _).drew)) OF.out hc5)); (have P5F := zH (Apa.keep (IF5.out.below (by first | exact b0 _ | exact ba (b0 _) _ | exact ba (b0 _).drew _ | exact ba (ba (b0 _).drew _) _ | exact (b0 _).drew)) OF.out hn5)); (have B5 := zH (Chg.bt (bt HB4.out (by first | exact b0 _ | exact ba (b0 _) _ | exact ba (b0 _).drew _ | exact ba (ba (b0 _).drew _) _ | exact (b0 _).drew)) hc5 (fun i hi h => by omega))); (have hz5 := B5.out.size)
         refine hK.out _ _ ?g3rs2 (fun hHeld => ?g3rt2)
         case g3rs2 => (try dsimp only); (first | exact f3 | exact cb (ba (b0 _) _) hHeld | exact hc5.keep hHeld (by rintro ⟨_, h, _⟩; omega) | exact hc6.keep hHeld (by rintro ⟨_, h, _⟩; omega))
         try dsimp only at hHeld
         clear hK K
         try simp only [pD]
         refine zB [10] (by kernel_rfl) (by simp) ?_
         refine zA.con 10 rfl (fun K hK => ?g3ro3) ?g3rm3
         case g3rm3 => exact zA.nil
         go_simp
         refine hK.out _ _ ?g3rs3 (fun hHeld => ?g3rt3)
         case g3rs3 => (try dsimp only); (first | exact f3 | exact cb (ba (b0 _) _) hHeld | exact hc5.keep hHeld (by rintro ⟨_, h, _⟩; omega) | exact hc6.keep hHeld (by rintro ⟨_, h, _⟩; omega))
         try dsimp only at hHeld
         clear hK K
         try simp only [pD]
         refine zB [11] (by kernel_rfl) (by simp) ?_
         refine zA.con 11 rfl (fun K hK => ?g3ro4) ?g3rm4
         case g3rm4 => exact zA.nil
         (refine zN (B := w.heap.size) rfl _ _ _ _ rfl ii (.int .i64 0) 8 Try.underlying22 hii hz0i hz1i hz2i rfl rfl ((by first | exact J5F.out.own | exact J5F.out.own.alloc _ | exact J5F.out.own.drew.alloc _ | exact (J5F.out.own.drew.alloc _).alloc _ | exact J5F.out.own.drew)) _ rfl _ _ (yP (e' := 3) Try.underlying22 (cur := #[.int .i64 f.kids]) (t := 3) (by (repeat (first | (refine Rw.new' ?_; (simp; done)) | refine Rw.alloc ?_ _ | assumption)); done) 1 1 (by rfl) (by simp [Value.oneCell'])) (by simp only [maxLen]; omega) (by omega) (by first | omega | (simp; omega) | simp) ?_; intro a6 cap6 w6 ho6 hc6 hn6); (have I6 := zH (Is.push J5F.out ho6)); (have J6P := zH (Is.keep (J5P.out.below (by first | exact b0 _ | exact ba (b0 _) _ | exact ba (b0 _).drew _ | exact ba (ba (b0 _).drew _) _ | exact (b0 _).drew)) PF4.out.symm hc6)); (have P6P := zH (Apa.keep (J5P.out.below (by first | exact b0 _ | exact ba (b0 _) _ | exact ba (b0 _).drew _ | exact ba (ba (b0 _).drew _) _ | exact (b0 _).drew)) PF4.out.symm hn6)); (have J6D := zH (Is.keep (J5D.out.below (by first | exact b0 _ | exact ba (b0 _) _ | exact ba (b0 _).drew _ | exact ba (ba (b0 _).drew _) _ | exact (b0 _).drew)) DF4.out.symm hc6)); (have P6D := zH (Apa.keep (J5D.out.below (by first | exact b0 _ | exact ba (b0 _) _ | exact ba (b0 _).drew _ | exact ba (ba (b0 _).drew _) _ | exact (b0 _).drew)) DF4.out.symm hn6)); (have J6O := zH (Is.keep (I5.out.below (by first | exact b0 _ | exact ba (b0 _) _ | exact ba (b0 _).drew _ | exact ba (ba (b0 _).drew _) _ | exact (b0 _).drew)) P5F.out.symm hc6)); (have P6O := zH (Apa.keep (I5.out.below (by first | exact b0 _ | exact ba (b0 _) _ | exact ba (b0 _).drew _ | exact ba (ba (b0 _).drew _) _ | exact (b0 _).drew)) P5F.out.symm hn6)); (have B6 := zH (Chg.bt (bt B5.out (by first | exact b0 _ | exact ba (b0 _) _ | exact ba (b0 _).drew _ | exact ba (ba (b0 _).drew _) _ | exact (b0 _).drew)) hc6 (fun i hi h => by omega))); (have hz6 := B6.out.size)
         refine hK.out _ _ ?g3rs4 (fun hHeld => ?g3rt4)
         case g3rs4 => (try dsimp only); (first | exact f3 | exact cb (ba (b0 _) _) hHeld | exact hc5.keep hHeld (by rintro ⟨_, h, _⟩; omega) | exact hc6.keep hHeld (by rintro ⟨_, h, _⟩; omega))
         try dsimp only at hHeld
         clear hK K
         try simp only [pD]
         refine zD [12] 1 (by kernel_rfl) (fun _ _ _ _ _ h => h) (by assumption) ?_
         iterate 1 ((apply YA.take rfl (by rfl); case hy => intro w hSw; go_simp; try with_reducible rfl); try simp only [pD])
         refine YA.nil ?_
         refine zB [13] (by kernel_rfl) (by simp) ?_
         refine zA.lst 13 rfl (by kernel_rfl) (fun K hK => ?g3ro5) ?g3rm5
         case g3rm5 => exact zA.nil
         go_simp
         refine hK.out _ _ ?_
         clear hK K
         try simp only [pD]
         refine zE (by kernel_rfl) ?_
         go_wp2_with fail
         go_roundw
         case rel => exact ⟨j + 1, ((j : Int), f.kids) :: sm, aP', aD', a5, a6, cP', cD', cap5, cap6, rfl, rfl, rfl, rfl, by go_num, by omega, by simp; omega, HL4, J6P, J6D, zH (by rw [zAo]; exact J6O.out), zH (by rw [wI]; exact I6.out), zH PD4.out, zH P5P.out.symm, zH P6P.out.symm, zH P5D.out.symm, zH P6D.out.symm, zH P6O.out.symm, B6⟩
         case measure => simp [intOf]; omega
        case g3rm2 =>
        refine zA.con 10 rfl (fun K hK => ?g3ro6) ?g3rm6
        case g3ro6 =>
         go_simp
         refine hK.out _ _ ?g3rs6 (fun hHeld => ?g3rt6)
         case g3rs6 => (try dsimp only); (first | exact f3 | exact cb (ba (b0 _) _) hHeld | exact hc5.keep hHeld (by rintro ⟨_, h, _⟩; omega) | exact hc6.keep hHeld (by rintro ⟨_, h, _⟩; omega))
         try dsimp only at hHeld
         clear hK K
         try simp only [pD]
         refine zB [3] (by kernel_rfl) (by simp) ?_
         refine zA.con 3 rfl (fun K hK => ?g3ro7) ?g3rm7
         case g3rm7 => exact zA.nil
         (refine zN (B := w.heap.size) rfl _ _ _ _ rfl ii (.int .i64 0) 8 Try.underlying22 hii hz0i hz1i hz2i rfl rfl ((by first | exact IO5.out.own | exact IO5.out.own.alloc _ | exact IO5.out.own.drew.alloc _ | exact (IO5.out.own.drew.alloc _).alloc _ | exact IO5.out.own.drew)) _ rfl _ _ (yP (e' := 3) Try.underlying22 (cur := #[.int .i64 (j : Int)]) (t := 3) (by (repeat (first | (refine Rw.new' ?_; (simp; done)) | refine Rw.alloc ?_ _ | assumption)); done) 1 1 (by rfl) (by simp [Value.oneCell'])) (by simp only [maxLen]; omega) (by omega) (by first | omega | (simp; omega) | simp) ?_; intro a5 cap5 w5 ho5 hc5 hn5); (have I5 := zH (Is.push IO5.out ho5)); (have J5P := zH (Is.keep (IP4.out.below (by first | exact b0 _ | exact ba (b0 _) _ | exact ba (b0 _).drew _ | exact ba (ba (b0 _).drew _) _ | exact (b0 _).drew)) PO4.out.symm hc5)); (have P5P := zH (Apa.keep (IP4.out.below (by first | exact b0 _ | exact ba (b0 _) _ | exact ba (b0 _).drew _ | exact ba (ba (b0 _).drew _) _ | exact (b0 _).drew)) PO4.out.symm hn5)); (have J5D := zH (Is.keep (ID4.out.below (by first | exact b0 _ | exact ba (b0 _) _ | exact ba (b0 _).drew _ | exact ba (ba (b0 _).drew _) _ | exact (b0 _).drew)) DO4.out.symm hc5)); (have P5D := zH (Apa.keep (ID4.out.below (by first | exact b0 _ | exact ba (b0 _) _ | exact ba (b0 _).drew _ | exact ba (ba (b0 _).drew _) _ | exact (b0 _).drew)) DO4.out.symm hn5)); (have J5F := zH (Is.keep (IF5.out.below (by first | exact b0 _ | exact ba (b0 _) _ | exact ba (b0 _).drew _ | exact ba (ba (b0 _).drew _) _ | exact (b0 _).drew)) OF.out hc5)); (have P5F := zH (Apa.keep (IF5.out.below (by first | exact b0 _ | exact ba (b0 _) _ | exact ba (b0 _).drew _ | exact ba (ba (b0 _).drew _) _ | exact (b0 _).drew)) OF.out hn5)); (have B5 := zH (Chg.bt (bt HB4.out (by first | exact b0 _ | exact ba (b0 _) _ | exact ba (b0 _).drew _ | exact ba (ba (b0 _).drew _) _ | exact (b0 _).drew)) hc5 (fun i hi h => by omega))); (have hz5 := B5.out.size); (have r92 : Rw w5 (wc.heap.size + 1) #[.int .i64 f.kids] 3 := Rw.chg (by (repeat (first | (refine Rw.new' ?_; (simp; done)) | refine Rw.alloc ?_ _ | assumption)); done) hc5 (by rintro ⟨h, _⟩; have := IO5.out.lt _ h; omega))
         refine hK.out _ _ ?g3rs7 (fun hHeld => ?g3rt7)
         case g3rs7 => (try dsimp only); (first | exact f3 | exact cb (ba (b0 _) _) hHeld | exact hc5.keep hHeld (by rintro ⟨_, h, _⟩; omega) | exact hc6.keep hHeld (by rintro ⟨_, h, _⟩; omega))
         try dsimp only at hHeld
         clear hK K
         try simp only [pD]
         refine zB [11] (by kernel_rfl) (by simp) ?_
         refine zA.con 11 rfl (fun K hK => ?g3ro8) ?g3rm8
         case g3rm8 => exact zA.nil
         (refine zN (B := w.heap.size) rfl _ _ _ _ rfl ii (.int .i64 0) 8 Try.underlying22 hii hz0i hz1i hz2i rfl rfl ((by first | exact J5F.out.own | exact J5F.out.own.alloc _ | exact J5F.out.own.drew.alloc _ | exact (J5F.out.own.drew.alloc _).alloc _ | exact J5F.out.own.drew)) _ rfl _ _ (yP (e' := 3) Try.underlying22 (cur := #[.int .i64 f.kids]) (t := 3) (by (repeat (first | (refine Rw.new' ?_; (simp; done)) | refine Rw.alloc ?_ _ | assumption)); done) 1 1 (by rfl) (by simp [Value.oneCell'])) (by simp only [maxLen]; omega) (by omega) (by first | omega | (simp; omega) | simp) ?_; intro a6 cap6 w6 ho6 hc6 hn6); (have I6 := zH (Is.push J5F.out ho6)); (have J6P := zH (Is.keep (J5P.out.below (by first | exact b0 _ | exact ba (b0 _) _ | exact ba (b0 _).drew _ | exact ba (ba (b0 _).drew _) _ | exact (b0 _).drew)) PF4.out.symm hc6)); (have P6P := zH (Apa.keep (J5P.out.below (by first | exact b0 _ | exact ba (b0 _) _ | exact ba (b0 _).drew _ | exact ba (ba (b0 _).drew _) _ | exact (b0 _).drew)) PF4.out.symm hn6)); (have J6D := zH (Is.keep (J5D.out.below (by first | exact b0 _ | exact ba (b0 _) _ | exact ba (b0 _).drew _ | exact ba (ba (b0 _).drew _) _ | exact (b0 _).drew)) DF4.out.symm hc6)); (have P6D := zH (Apa.keep (J5D.out.below (by first | exact b0 _ | exact ba (b0 _) _ | exact ba (b0 _).drew _ | exact ba (ba (b0 _).drew _) _ | exact (b0 _).drew)) DF4.out.symm hn6)); (have J6O := zH (Is.keep (I5.out.below (by first | exact b0 _ | exact ba (b0 _) _ | exact ba (b0 _).drew _ | exact ba (ba (b0 _).drew _) _ | exact (b0 _).drew)) P5F.out.symm hc6)); (have P6O := zH (Apa.keep (I5.out.below (by first | exact b0 _ | exact ba (b0 _) _ | exact ba (b0 _).drew _ | exact ba (ba (b0 _).drew _) _ | exact (b0 _).drew)) P5F.out.symm hn6)); (have B6 := zH (Chg.bt (bt B5.out (by first | exact b0 _ | exact ba (b0 _) _ | exact ba (b0 _).drew _ | exact ba (ba (b0 _).drew _) _ | exact (b0 _).drew)) hc6 (fun i hi h => by omega))); (have hz6 := B6.out.size)
         refine hK.out _ _ ?g3rs8 (fun hHeld => ?g3rt8)
         case g3rs8 => (try dsimp only); (first | exact f3 | exact cb (ba (b0 _) _) hHeld | exact hc5.keep hHeld (by rintro ⟨_, h, _⟩; omega) | exact hc6.keep hHeld (by rintro ⟨_, h, _⟩; omega))
         try dsimp only at hHeld
         clear hK K
         try simp only [pD]
         refine zD [12] 1 (by kernel_rfl) (fun _ _ _ _ _ h => h) (by assumption) ?_
         iterate 1 ((apply YA.take rfl (by rfl); case hy => intro w hSw; go_simp; try with_reducible rfl); try simp only [pD])
         refine YA.nil ?_
         refine zB [13] (by kernel_rfl) (by simp) ?_
         refine zA.lst 13 rfl (by kernel_rfl) (fun K hK => ?g3ro9) ?g3rm9
         case g3rm9 => exact zA.nil
         go_simp
         refine hK.out _ _ ?_
         clear hK K
         try simp only [pD]
         refine zE (by kernel_rfl) ?_
         go_wp2_with fail
         go_roundw
         case rel => exact ⟨j + 1, ((j : Int), f.kids) :: sm, aP', aD', a5, a6, cP', cD', cap5, cap6, rfl, rfl, rfl, rfl, by go_num, by omega, by simp; omega, HL4, J6P, J6D, zH (by rw [zAo]; exact J6O.out), zH (by rw [wI]; exact I6.out), zH PD4.out, zH P5P.out.symm, zH P6P.out.symm, zH P5D.out.symm, zH P6D.out.symm, zH P6O.out.symm, B6⟩
         case measure => simp [intOf]; omega
        case g3rm6 =>
        exact zA.nil
       case g3rm1 =>
       refine zA.con 10 rfl (fun K hK => ?g3ro10) ?g3rm10
       case g3ro10 =>
        go_simp
        refine hK.out _ _ ?g3rs10 (fun hHeld => ?g3rt10)
        case g3rs10 => (try dsimp only); (first | exact f3 | exact cb (ba (b0 _) _) hHeld | exact hc5.keep hHeld (by rintro ⟨_, h, _⟩; omega) | exact hc6.keep hHeld (by rintro ⟨_, h, _⟩; omega))
        try dsimp only at hHeld
        clear hK K
        try simp only [pD]
        refine zB [2] (by kernel_rfl) (by simp) ?_
        refine zA.con 2 rfl (fun K hK => ?g3ro11) ?g3rm11
        case g3rm11 => exact zA.nil
        go_simp
        refine hK.out _ _ ?g3rs11 (fun hHeld => ?g3rt11)
        case g3rs11 => (try dsimp only); (first | exact f3 | exact cb (ba (b0 _) _) hHeld | exact hc5.keep hHeld (by rintro ⟨_, h, _⟩; omega) | exact hc6.keep hHeld (by rintro ⟨_, h, _⟩; omega))
        try dsimp only at hHeld
        clear hK K
        try simp only [pD]
        refine zB [3] (by kernel_rfl) (by simp) ?_
        refine zA.con 3 rfl (fun K hK => ?g3ro12) ?g3rm12
        case g3rm12 => exact zA.nil
        (refine zN (B := w.heap.size) rfl _ _ _ _ rfl ii (.int .i64 0) 8 Try.underlying22 hii hz0i hz1i hz2i rfl rfl ((by first | exact IO5.out.own | exact IO5.out.own.alloc _ | exact IO5.out.own.drew.alloc _ | exact (IO5.out.own.drew.alloc _).alloc _ | exact IO5.out.own.drew)) _ rfl _ _ (yP (e' := 3) Try.underlying22 (cur := #[.int .i64 (j : Int)]) (t := 3) (by (repeat (first | (refine Rw.new' ?_; (simp; done)) | refine Rw.alloc ?_ _ | assumption)); done) 1 1 (by rfl) (by simp [Value.oneCell'])) (by simp only [maxLen]; omega) (by omega) (by first | omega | (simp; omega) | simp) ?_; intro a5 cap5 w5 ho5 hc5 hn5); (have I5 := zH (Is.push IO5.out ho5)); (have J5P := zH (Is.keep (IP4.out.below (by first | exact b0 _ | exact ba (b0 _) _ | exact ba (b0 _).drew _ | exact ba (ba (b0 _).drew _) _ | exact (b0 _).drew)) PO4.out.symm hc5)); (have P5P := zH (Apa.keep (IP4.out.below (by first | exact b0 _ | exact ba (b0 _) _ | exact ba (b0 _).drew _ | exact ba (ba (b0 _).drew _) _ | exact (b0 _).drew)) PO4.out.symm hn5)); (have J5D := zH (Is.keep (ID4.out.below (by first | exact b0 _ | exact ba (b0 _) _ | exact ba (b0 _).drew _ | exact ba (ba (b0 _).drew _) _ | exact (b0 _).drew)) DO4.out.symm hc5)); (have P5D := zH (Apa.keep (ID4.out.below (by first | exact b0 _ | exact ba (b0 _) _ | exact ba (b0 _).drew _ | exact ba (ba (b0 _).drew _) _ | exact (b0 _).drew)) DO4.out.symm hn5)); (have J5F := zH (Is.keep (IF5.out.below (by first | exact b0 _ | exact ba (b0 _) _ | exact ba (b0 _).drew _ | exact ba (ba (b0 _).drew _) _ | exact (b0 _).drew)) OF.out hc5)); (have P5F := zH (Apa.keep (IF5.out.below (by first | exact b0 _ | exact ba (b0 _) _ | exact ba (b0 _).drew _ | exact ba (ba (b0 _).drew _) _ | exact (b0 _).drew)) OF.out hn5)); (have B5 := zH (Chg.bt (bt HB4.out (by first | exact b0 _ | exact ba (b0 _) _ | exact ba (b0 _).drew _ | exact ba (ba (b0 _).drew _) _ | exact (b0 _).drew)) hc5 (fun i hi h => by omega))); (have hz5 := B5.out.size) ; (have r92 : Rw w5 wc.heap.size #[.int .i64 f.kids] 3 := Rw.chg (by (repeat (first | (refine Rw.new' ?_; (simp; done)) | refine Rw.alloc ?_ _ | assumption)); done) hc5 (by rintro ⟨h, _⟩; have := IO5.out.lt _ h; omega))
        refine hK.out _ _ ?g3rs12 (fun hHeld => ?g3rt12)
        case g3rs12 => (try dsimp only); (first | exact f3 | exact cb (ba (b0 _) _) hHeld | exact hc5.keep hHeld (by rintro ⟨_, h, _⟩; omega) | exact hc6.keep hHeld (by rintro ⟨_, h, _⟩; omega))
        try dsimp only at hHeld
        clear hK K
        try simp only [pD]
        refine zB [11] (by kernel_rfl) (by simp) ?_
        refine zA.con 11 rfl (fun K hK => ?g3ro13) ?g3rm13
        case g3rm13 => exact zA.nil
        (refine zN (B := w.heap.size) rfl _ _ _ _ rfl ii (.int .i64 0) 8 Try.underlying22 hii hz0i hz1i hz2i rfl rfl ((by first | exact J5F.out.own | exact J5F.out.own.alloc _ | exact J5F.out.own.drew.alloc _ | exact (J5F.out.own.drew.alloc _).alloc _ | exact J5F.out.own.drew)) _ rfl _ _ (yP (e' := 3) Try.underlying22 (cur := #[.int .i64 f.kids]) (t := 3) (by (repeat (first | (refine Rw.new' ?_; (simp; done)) | refine Rw.alloc ?_ _ | assumption)); done) 1 1 (by rfl) (by simp [Value.oneCell'])) (by simp only [maxLen]; omega) (by omega) (by first | omega | (simp; omega) | simp) ?_; intro a6 cap6 w6 ho6 hc6 hn6); (have I6 := zH (Is.push J5F.out ho6)); (have J6P := zH (Is.keep (J5P.out.below (by first | exact b0 _ | exact ba (b0 _) _ | exact ba (b0 _).drew _ | exact ba (ba (b0 _).drew _) _ | exact (b0 _).drew)) PF4.out.symm hc6)); (have P6P := zH (Apa.keep (J5P.out.below (by first | exact b0 _ | exact ba (b0 _) _ | exact ba (b0 _).drew _ | exact ba (ba (b0 _).drew _) _ | exact (b0 _).drew)) PF4.out.symm hn6)); (have J6D := zH (Is.keep (J5D.out.below (by first | exact b0 _ | exact ba (b0 _) _ | exact ba (b0 _).drew _ | exact ba (ba (b0 _).drew _) _ | exact (b0 _).drew)) DF4.out.symm hc6)); (have P6D := zH (Apa.keep (J5D.out.below (by first | exact b0 _ | exact ba (b0 _) _ | exact ba (b0 _).drew _ | exact ba (ba (b0 _).drew _) _ | exact (b0 _).drew)) DF4.out.symm hn6)); (have J6O := zH (Is.keep (I5.out.below (by first | exact b0 _ | exact ba (b0 _) _ | exact ba (b0 _).drew _ | exact ba (ba (b0 _).drew _) _ | exact (b0 _).drew)) P5F.out.symm hc6)); (have P6O := zH (Apa.keep (I5.out.below (by first | exact b0 _ | exact ba (b0 _) _ | exact ba (b0 _).drew _ | exact ba (ba (b0 _).drew _) _ | exact (b0 _).drew)) P5F.out.symm hn6)); (have B6 := zH (Chg.bt (bt B5.out (by first | exact b0 _ | exact ba (b0 _) _ | exact ba (b0 _).drew _ | exact ba (ba (b0 _).drew _) _ | exact (b0 _).drew)) hc6 (fun i hi h => by omega))); (have hz6 := B6.out.size)
        refine hK.out _ _ ?g3rs13 (fun hHeld => ?g3rt13)
        case g3rs13 => (try dsimp only); (first | exact f3 | exact cb (ba (b0 _) _) hHeld | exact hc5.keep hHeld (by rintro ⟨_, h, _⟩; omega) | exact hc6.keep hHeld (by rintro ⟨_, h, _⟩; omega))
        try dsimp only at hHeld
        clear hK K
        try simp only [pD]
        refine zD [12] 1 (by kernel_rfl) (fun _ _ _ _ _ h => h) (by assumption) ?_
        iterate 1 ((apply YA.take rfl (by rfl); case hy => intro w hSw; go_simp; try with_reducible rfl); try simp only [pD])
        refine YA.nil ?_
        refine zB [13] (by kernel_rfl) (by simp) ?_
        refine zA.lst 13 rfl (by kernel_rfl) (fun K hK => ?g3ro14) ?g3rm14
        case g3rm14 => exact zA.nil
        go_simp
        refine hK.out _ _ ?_
        clear hK K
        try simp only [pD]
        refine zE (by kernel_rfl) ?_
        go_wp2_with fail
        go_roundw
        case rel => exact ⟨j + 1, ((j : Int), f.kids) :: sm, aP', aD', a5, a6, cP', cD', cap5, cap6, rfl, rfl, rfl, rfl, by go_num, by omega, by simp; omega, HL4, J6P, J6D, zH (by rw [zAo]; exact J6O.out), zH (by rw [wI]; exact I6.out), zH PD4.out, zH P5P.out.symm, zH P6P.out.symm, zH P5D.out.symm, zH P6D.out.symm, zH P6O.out.symm, B6⟩
        case measure => simp [intOf]; omega
       case g3rm10 =>
       exact zA.nil
     ·have HL4 : Hid (zEV sm (zAH 0 [] (l.take (j + 1)))) := zH ⟨by rw [HN.out, HNM.out, if_neg hk0], HMM.out⟩
      have hkb2 : (f.kind == 0) = false := beq_eq_false_iff_ne.2 hk0
      clear hk0
      go_wp2_with fail
      go_roundw
      case rel => exact ⟨j + 1, sm, aP', aD', aO, aF, cP', cD', cO, cF, rfl, rfl, rfl, rfl, by go_num, by omega, by omega, HL4, IP4, ID4, IO5, IF5, PD4, PO4, PF4, DO4, DF4, OF, HB4⟩
      case measure => simp [intOf]; omega
  ·obtain rfl : j = n := by omega
   go_wp2_with fail
   go_ret2
   have e1 : l.take j = l := List.take_of_length_le (by omega)
   have h1 := IP.out; have h2 := ID.out
   rw [e1] at h1 h2
   exact ⟨aP, cP, aD, cD, rfl, h1, h2, PD.out, HB.out⟩
end Go.Proofs.Ytjbkjfefjhbolaa
