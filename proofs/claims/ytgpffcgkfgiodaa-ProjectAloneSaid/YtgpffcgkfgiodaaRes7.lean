/-
  Resolve and Tree of schemas with their ways; what a tree that is returned is.
-/
import Derived.Test.YtgpffcgkfgiodaaTree7
import Derived.Test.YtgpffcgkfgiodaaPrR
import Derived.Test.YtgpffcgkfgiodaaOrder7
set_option linter.unusedSimpArgs false
namespace Go.Proofs.Ytgpffcgkfgiodaa
open Go.RowKit Go.Shr
theorem tree_at {w : World} {t : Tr} {a : Option Addr} {m c : Nat} (h : TrAt w t [.int .i64 t.n, .string t.s, .slice a m c]) : m = t.kids.length := by
  obtain ⟨_, _, _, _, hcs, hm, _⟩ := h.parts
  simp at hcs
  obtain ⟨rfl, rfl, rfl⟩ := hcs
  exact hm
theorem gen_wq {P : Program} {c : Code} {Q : Exit → Act → World → Prop} {a : Act} {W : World} (h : ∀ W', W' = W → Code.wp P c Q a W') : Code.wp P c Q a W := h W rfl
theorem res_sw {l : List Fl} {sh : Sh} (h : SW l sh) (sa pa : Option Addr) (sc pc n : Nat) (ps : List ByteArray) (w : World) (hn : n = ps.length) (hpn : ps.length ≤ 1000)
    (hs : Sl (fun b => b < w.heap.size) w 4 sa l.length sc (fls l)) (hp : Sl (fun b => b < w.heap.size) w 1 pa ps.length pc (strs ps)) (hpsz : ∀ p ∈ ps, p.size ≤ maxLen) (ha : allA l ps) :
    Calls Try.prog 14 #[.slice sa l.length sc, .slice pa n pc] w fun e w' => ∃ ak ck ap cp, e = .returned (.tuple #[.slice ak l.length ck, .slice ap (kL ps l sh).length cp, .int .i64 0]) ∧
      Sl (fun b => b < w'.heap.size) w' 1 ak l.length ck (bls (fun k => KW ps (wayAt sh k)) l.length) ∧ Sl (fun b => b < w'.heap.size) w' 4 ap (kL ps l sh).length cp (fls (kL ps l sh)) ∧ Below w.heap.size w w' := by
  subst hn
  refine (res_p h.wy h.sch.kids sa pa sc pc ps w hpn hs hp hpsz).mono ?_
  rintro e w' ⟨hb, ⟨_, ak, ck, ap, cp, rfl, hk, hq⟩ | ⟨hna, _⟩⟩
  · exact ⟨ak, ck, ap, cp, rfl, hk.sl.mono (fun k hk _ => hk) (by decide), hq.sl.mono (fun k hk _ => hk) (by decide), hb⟩
  · exact absurd ha hna
/-- A tree that is returned. -/
def TreeQ (t : Tr) (w : World) (e : Ending) (w' : World) : Prop :=
  ∃ a cap, e = .returned (.agg #[.int .i64 t.n, .string t.s, .slice a t.kids.length cap]) ∧ TrAt w' t [.int .i64 t.n, .string t.s, .slice a t.kids.length cap] ∧ Below w.heap.size w w'
theorem ptree_sw {l : List Fl} {sh : Sh} (h : SW l sh) (ps : List ByteArray) (sa ka a : Option Addr) (sc kc cap : Nat) (t : Tr) (w : World) (hs : Sl (fun b => b < w.heap.size) w 4 sa l.length sc (fls l)) (hk : Sl (fun b => b < w.heap.size) w 1 ka l.length kc (bls (fun k => KW ps (wayAt sh k)) l.length))
    (ht : TrAt w t [.int .i64 t.n, .string t.s, .slice a t.kids.length cap]) (hok : okT sh t) :
    Calls Try.prog 23 #[.slice sa l.length sc, .slice ka l.length kc, .agg #[.int .i64 t.n, .string t.s, .slice a t.kids.length cap]] w (TreeQ (keptTW (KW ps) [] sh t) w) := by
  refine (ptree_v h.sch _ sa ka a sc kc cap t w hs hk ht hok).mono ?_
  rintro e w' ⟨x, m, c, rfl, hg, hb⟩
  rw [kept_tree] at hg ⊢
  have ha := hg.at
  obtain rfl := tree_at ha
  exact ⟨x, c, rfl, ha, hb⟩
theorem strs_nil : strs [] = [] := rfl
end Go.Proofs.Ytgpffcgkfgiodaa
