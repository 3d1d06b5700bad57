import Derived.Test.YtjbkjfefjhbolaakBase
import Derived.Test.YtjbkjfefjhbolaakSchP
import Derived.Test.YtjbkjfefjhbolaakTrG
import Derived.Test.YtjbkjfefjhbolaakMk
set_option linter.unusedSimpArgs false
set_option linter.unusedVariables false
namespace Go.Proofs.Ytjbkjfefjhbolaa
open Go.RowKit Go.Shr
end Go.Proofs.Ytjbkjfefjhbolaa
namespace Go.Proofs.Ytjbkjfefjhbolaa
open Go.RowKit Go.Shr
structure MC where
 M : Nat
 sa : Option Addr
 pa : Option Addr
 na : Option Addr
 sc : Nat
 pc : Nat
 nc : Nat
structure Mkr (w : World) (c : MC) (l : List Fl) (P ns : List Int) (k : Nat) : Prop where
 rw : Rw w c.M #[.slice c.sa l.length c.sc, .slice c.pa l.length c.pc, .slice c.na ns.length c.nc, .int .i64 (k : Int)] 88
 s : Sl (fun b => b < c.M) w 4 c.sa l.length c.sc (fls l)
 p : Sl (fun b => b < c.M) w 1 c.pa l.length c.pc (ints P)
 n : Sl (fun b => b < c.M) w 1 c.na ns.length c.nc (ints ns)
 lt : k ≤ ns.length
section
variable {w w' : World} {c : MC} {l : List Fl} {P ns : List Int} {k : Nat}
theorem Mkr.chg {S : Nat → Prop} (h : Mkr w c l P ns k) (hc : Chg S w w') (hn : ∀ k, k ≤ c.M → ¬ S k) : Mkr w' c l P ns k :=
 ⟨h.rw.chg hc (hn c.M (Nat.le_refl _)), h.s.chg hc (fun k hk => hn k (Nat.le_of_lt hk)), h.p.chg hc (fun k hk => hn k (Nat.le_of_lt hk)), h.n.chg hc (fun k hk => hn k (Nat.le_of_lt hk)), h.lt⟩
theorem Mkr.below (h : Mkr w c l P ns k) (hb : Below w.heap.size w w') : Mkr w' c l P ns k := h.chg (Chg.ofBelow hb) (fun k hk h2 => by have := h.rw.lt; omega)
theorem Mkr.drew (h : Mkr w c l P ns k) : Mkr w.drew c l P ns k := h.below (Below.refl _ _).drew
theorem Mkr.put (h : Mkr w c l P ns k) {j : Nat} (hj : j ≤ ns.length) : Mkr (w.setCell ⟨c.M, 3, none⟩ (.int .i64 (j : Int))) c l P ns j := by
 have hc : Chg (fun b => b = c.M) w (w.setCell ⟨c.M, 3, none⟩ (.int .i64 (j : Int))) := (Chg.refl (fun b => b = c.M) w).setCell (p := ⟨c.M, 3, none⟩) (.inr rfl) _
 exact ⟨h.rw.set 3 _, h.s.chg hc (fun k hk => by omega), h.p.chg hc (fun k hk => by omega), h.n.chg hc (fun k hk => by omega), hj⟩
end
def ValQ (c : MC) (l : List Fl) (P ns : List Int) (r : Tr × Nat) (w : World) (e : Ending) (w' : World) : Prop :=
 ∃ a m cap, e = .returned (.agg #[.int .i64 r.1.n, .string r.1.s, .slice a m cap]) ∧ TrG (fun b => w.heap.size ≤ b) w' r.1 [.int .i64 r.1.n, .string r.1.s, .slice a m cap] ∧ Mkr w' c l P ns r.2 ∧ Chg (fun b => b = c.M) w w'
theorem ValQ.leaf {c : MC} {l : List Fl} {P ns : List Int} {r : Tr × Nat} {w w1 : World} (hr : r.1.kids = []) (hs : r.1.s.size ≤ maxLen) (hm : Mkr w1 c l P ns r.2) (hc : Chg (fun b => b = c.M) (w.alloc (.cells #[.int .i64 0, .string ByteArray.empty, .slice none 0 0] 57)) w1) (hM : c.M < w.heap.size) :
  ValQ c l P ns r w (.returned (.agg #[.int .i64 r.1.n, .string r.1.s, .slice none 0 0])) (((w1.setCell ⟨w.heap.size, 0, none⟩ (.int .i64 r.1.n)).setCell ⟨w.heap.size, 1, none⟩ (.string r.1.s)).setCell ⟨w.heap.size, 2, none⟩ (.slice none 0 0)) := by
 have h2 : Chg (fun b => b = w.heap.size) w1 (((w1.setCell ⟨w.heap.size, 0, none⟩ (.int .i64 r.1.n)).setCell ⟨w.heap.size, 1, none⟩ (.string r.1.s)).setCell ⟨w.heap.size, 2, none⟩ (.slice none 0 0)) := (((Chg.refl (fun b => b = w.heap.size) w1).setCell (p := ⟨w.heap.size, 0, none⟩) (.inr rfl) _).setCell (p := ⟨w.heap.size, 1, none⟩) (.inr rfl) _).setCell (p := ⟨w.heap.size, 2, none⟩) (.inr rfl) _
 refine ⟨none, 0, 0, rfl, ?_, hm.chg h2 (fun k hk => by omega), (((Chg.refl (fun b => b = c.M) w).alloc _).trans hc (fun _ _ h => h)).trans h2 (fun i hi h => by omega)⟩
 obtain ⟨⟨n, s, ks⟩, k⟩ := r
 simp only [Tr.kids] at hr
 subst hr
 exact TrG.leaf hs
end Go.Proofs.Ytjbkjfefjhbolaa
namespace Go.Proofs.Ytjbkjfefjhbolaa
open Go.RowKit Go.Shr
theorem info_tr : (Try.prog.info? 57).map (fun i => (i.zero, i.size, i.bytes)) = some (some (.agg #[.int .i64 0, .string ByteArray.empty, .slice none 0 0]), 3, 48) := by kernel_rfl
theorem info_ts : (Try.prog.info? 28).map (fun i => (i.zero, i.size, i.bytes)) = some (some (.slice none 0 0), 1, 24) := by kernel_rfl
end Go.Proofs.Ytjbkjfefjhbolaa
