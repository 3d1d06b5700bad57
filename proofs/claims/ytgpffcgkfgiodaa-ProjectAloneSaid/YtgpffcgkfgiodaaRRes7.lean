/-
  The walk of the document's Resolve.
-/
import Derived.Test.YtgpffcgkfgiodaaKids7
import Derived.Test.YtgpffcgkfgiodaaResolve7
import Derived.Test.YtgpffcgkfgiodaaSameP
import Derived.Deep.CutRange
import Derived.Deep.CutBlock
set_option linter.unusedSimpArgs false
namespace Go.Proofs.Ytgpffcgkfgiodaa
open Go.RowKit Go.Shr
theorem bls_put (f : Nat → Bool) {n k : Nat} (b : Bool) : (bls f n).set k (.bool b) = bls (fun x => if x = k then b else f x) n := by
  refine List.ext_getElem (by simp [bls]) fun i h1 h2 => ?_
  rw [List.getElem_set]
  simp only [bls, List.getElem_map, List.getElem_range]
  by_cases h : k = i
  · subst h; simp
  · rw [if_neg h, if_neg (Ne.symm h)]
/-- What the document keeps. -/
def kpR (l : List Fl) (ps : List ByteArray) (k : Nat) : Bool := keepR l (byts ps) k || ps.isEmpty
def RResQ (l : List Fl) (ps : List ByteArray) (w : World) (e : Ending) (w' : World) : Prop :=
  Below w.heap.size w w' ∧ ((allA l ps ∧ ∃ ak ck ap cp, e = .returned (.tuple #[.slice ak l.length ck, .slice ap (rank (kpR l ps) l.length) cp, .int .i64 0]) ∧ Own w.heap.size w' 4 1 ak l.length ck (bls (kpR l ps) l.length) ∧ Own w.heap.size w' 40 4 ap (rank (kpR l ps) l.length) cp (fls (keptL (kpR l ps) l))) ∨
    (¬ allA l ps ∧ e = .returned (.tuple #[.slice none 0 0, .slice none 0 0, .int .i64 2])))
theorem keepR_snoc (l : List Fl) (ps : List ByteArray) (k x : Nat) (h : k < ps.length) : keepR l (byts (ps.take (k + 1))) x = (keepR l (byts (ps.take k)) x || (decide (atR l ps[k].data.toList l.length ∈ Go.Shr.chain (par l) x) || decide (x ∈ Go.Shr.chain (par l) (atR l ps[k].data.toList l.length)))) := by
  unfold keepR byts
  rw [List.take_succ_eq_append_getElem h, List.map_append, List.any_append]
  simp
/-- The state on the way. -/
structure RT (w : World) (gk : Nat) (aP : Option Addr) (cP : Nat) (l : List Fl) (F : Nat → Bool) (W : World) : Prop where
  own : Own w.heap.size W 4 1 (some ⟨gk, 0, none⟩) l.length l.length (bls F l.length)
  pr : Sl (fun b => b < W.heap.size ∧ b ≠ gk ∧ blk aP b) W 1 aP l.length cP (ints (par l))
  bel : Below w.heap.size w W
  ne : w.heap.size ≤ gk
theorem RT.below {w : World} {gk : Nat} {aP : Option Addr} {cP : Nat} {l : List Fl} {F : Nat → Bool} {W W' : World} (h : RT w gk aP cP l F W) (hb : Below W.heap.size W W') : RT w gk aP cP l F W' :=
  ⟨h.own.below hb, Sl.go (Chg.ofBelow hb) (fun k hk h => ⟨by omega, by have := hb.size; omega, h.2.1, h.2.2⟩) h.pr (by decide), bt h.bel hb, h.ne⟩
theorem RT.chg {S : Nat → Prop} {w : World} {gk : Nat} {aP : Option Addr} {cP : Nat} {l : List Fl} {F : Nat → Bool} {W W' : World} (h : RT w gk aP cP l F W) (hc : Chg S W W') (hn : ∀ k, S k → k ≠ gk ∧ ¬ blk aP k ∧ w.heap.size ≤ k) : RT w gk aP cP l F W' :=
  ⟨h.own.chg hc (fun k ⟨_, _, e⟩ hs => by cases e; exact (hn _ hs).1 rfl), Sl.go hc (fun k hk h => ⟨fun hs => (hn k hs).2.1 h.2.2, by have := hc.size; omega, h.2.1, h.2.2⟩) h.pr (by decide), Chg.bt h.bel hc (fun i hi hs => by have := (hn i hs).2.2; omega), h.ne⟩
theorem RT.congr {w : World} {gk : Nat} {aP : Option Addr} {cP : Nat} {l : List Fl} {F G : Nat → Bool} {W : World} (h : RT w gk aP cP l F W) (hc : ∀ k, k < l.length → F k = G k) : RT w gk aP cP l G W :=
  ⟨bls_congr hc ▸ h.own, h.pr, h.bel, h.ne⟩
theorem RT.put {w : World} {gk : Nat} {aP : Option Addr} {cP : Nat} {l : List Fl} {F : Nat → Bool} {W : World} (h : RT w gk aP cP l F W) (k : Nat) (b : Bool) : RT w gk aP cP l (fun x => if x = k then b else F x) (W.setCell ⟨gk, k, none⟩ (.bool b)) := by
  refine ⟨?_, ?_, h.bel.setCell (p := ⟨gk, k, none⟩) h.ne _, h.ne⟩
  · rw [← bls_put]; exact h.own.stored rfl k _
  · exact Sl.go ((Chg.refl (fun b => b = gk) W).setCell (p := ⟨gk, k, none⟩) (.inr rfl) _) (fun k hk h => ⟨h.2.1, by simpa using hk, h.2.1, h.2.2⟩) h.pr (by decide)
set_option maxHeartbeats 1000000 in
set_option maxRecDepth 100000 in
theorem rresolve_v (sa pa : Option Addr) (sc pc : Nat) (l : List Fl) (ps : List ByteArray) (w : World) (h0 : 0 < l.length) (hn : l.length ≤ 20) (hpn : ps.length ≤ 1000)
    (hs : Sl (fun b => b < w.heap.size) w 4 sa l.length sc (fls l)) (hp : Sl (fun b => b < w.heap.size) w 1 pa ps.length pc (strs ps)) (hkid : ∀ x ∈ l, x.kids ≤ 1000) (hnm : ∀ x ∈ l, x.name.size ≤ 20) :
    Calls Try.prog 21 #[.slice sa l.length sc, .slice pa ps.length pc] w (RResQ l ps w) := by
  obtain ⟨io, hio, hz0o, hz1o, hz2o⟩ := info_parts info_bo
  obtain ⟨iF, hiF, hz0F, hz1F, hz2F⟩ := info_parts info_f
  have HS := Lib.hid hs; have HP := Lib.hid hp; have HK := Lib.hid hkid; have HNM := Lib.hid hnm
  clear hs hp hkid hnm
  go_enter Try.func21, Try.ntmps21
  go_upto_region 2 with (at_make; refine wpList_make rfl _ _ _ rfl w.heap.size _ io (.bool false) 1 Try.underlying32 hio hz0o hz1o .i64 .i64 _ _ l.length rfl rfl rfl rfl (by rw [hz2o]; omega) (by simp only [maxLen]; omega) (Nat.le_refl _) ?_; intro w2 hown hchg; (have HO2 := Lib.hid hown); (have HB2 := Lib.hid (hchg.nothing (fun _ _ h => h))); clear hown hchg)
  go_wp2_with fail
  refine ((refpar_v sa l.length sc l w2 (slb HS.out HB2.out) (by omega) HK.out).mono ?_)
  rintro e w3 ⟨aP, cP, rfl, hp3, hb3⟩
  have hRT : RT w w.heap.size aP cP l (fun _ => false) w3 := by
    have ho := HO2.out
    rw [zeros_bo] at ho
    have e2 : bls (fun _ => false) l.length = List.replicate l.length (Value.bool false) := by
      refine List.ext_getElem (by simp [bls]) fun a h1 h2 => by simp [bls]
    obtain ⟨g, hg, _, hg2, _⟩ := ho.pos (by omega)
    injection hg with hg; injection hg with hg; subst hg
    refine ⟨by rw [e2]; exact ho.below hb3, hp3.own.sl.mono (fun k hk h => ⟨hk, by have := h.1; omega, h.2.1⟩) (by decide), bt HB2.out hb3, Nat.le_refl _⟩
  have HRT := Lib.hid hRT
  clear hRT hp3 hb3 HO2
  generalize hgk : w.heap.size = gk at HRT ⊢
  clear hgk
  go_upto_block 0 with fail
  go_cut [9, 10, 11, 12] from 20 to 67 (fun _ _ _ _ wc => Hid (RT w gk aP cP l (keepR l (byts ps)) wc) ∧ Hid (allA l ps))
  case first =>
    go_wp2_with fail
    go_loopw [9, 10, 11, 12] (fun kv _ _ _ wr => ∃ k : Nat, kv = .int .i64 (k : Int) ∧ k ≤ ps.length ∧ Hid (RT w gk aP cP l (keepR l (byts (ps.take k))) wr) ∧ Hid (∀ p ∈ ps.take k, isA l p.data.toList l.length = true)) (fun kv _ _ _ _ => ps.length - (intOf kv).toNat)
    case atStart => exact ⟨0, rfl, Nat.zero_le _, HRT, Lib.hid (by simp)⟩
    case round =>
      clear HRT
      obtain ⟨k, rfl, hk, HRS, HALL⟩ := hrel
      have hszr := HRS.out.bel.size
      by_cases hkl : k < ps.length
      · obtain ⟨pb, po, rfl, hpb, hpc⟩ := HP.out.pos (by omega)
        have q0w := hpc _ _ (strs_get ps k hkl)
        have HKS := Lib.hid (fun x => keepR_snoc l ps k x hkl)
        have HTK : Hid (ps.take (k + 1) = ps.take k ++ [ps[k]]) := Lib.hid (List.take_succ_eq_append_getElem hkl)
        have HPM : Hid (ps[k] ∈ ps) := Lib.hid (List.getElem_mem hkl)
        generalize ps[k] = p at *
        have HQW := Lib.hid q0w
        clear hpc q0w
        go_upto_block 2 with fail
        go_cut [10, 11] from 26 to 40 (fun av _ wc => av = .int .i64 (atR l p.data.toList l.length : Int) ∧ Hid (RT w gk aP cP l (keepR l (byts (ps.take k))) wc))
        case first =>
          go_wp2_with fail
          go_loopw [10, 11] (fun av iv wq => ∃ (i : Nat), av = .int .i64 (atR l p.data.toList i : Int) ∧ iv = .int .i64 (i : Int) ∧ 1 ≤ i ∧ i ≤ l.length ∧ Hid (RT w gk aP cP l (keepR l (byts (ps.take k))) wq)) (fun _ iv _ => l.length - (intOf iv).toNat)
          case atStart => exact ⟨1, rfl, rfl, Nat.le_refl _, h0, HRS⟩
          case round =>
            obtain ⟨i, rfl, rfl, hi1, hi2, HR⟩ := hrel
            by_cases hil : i < l.length
            · have HAT : Hid (atR l p.data.toList (i + 1) = if 0 < i ∧ (ownS l i).data.toList = p.data.toList then i else atR l p.data.toList i) := Lib.hid rfl
              have HB := HR.out.bel
              go_wp2_with fail
              refine Go.Shr.wp_region_F (fun w' => w'.cell? ⟨pb, po + k, none⟩ = some (.string p)) [7] (by kernel_rfl) ?g2rgS (fun hHeld => ?g2rgR)
              case g2rgS => (try dsimp only); (first | exact cb HB HQW.out | exact cb HB.drew HQW.out)
              try dsimp only at hHeld
              obtain ⟨X, hX⟩ : ∃ X, X = wr.drew := ⟨_, rfl⟩; rw [← hX] at hHeld ⊢; (have HR : Hid (RT w gk aP cP l (keepR l (byts (ps.take k))) X) := Lib.hid (by rw [hX]; exact HR.out.below (b0 wr).drew)); (replace HB := HR.out.bel); clear hX
              refine Go.Shr.wpAnyF_take 0 (oi := { dst := some 32, op := Go.Op.move (Go.Operand.tmp 0), type := 25, pos := "ref.go:32", after := #[], guard := none }) (v := ?g2rv1) rfl (by kernel_rfl) (fun _ _ _ h => h) (by assumption) (by rfl) ?g2ry1 ?g2rr1
              case g2ry1 => intro w hSw; have s1 := hSw; go_simp; try with_reducible rfl
              try simp only [Act.put, List.setIfInBounds_toArray, List.set_cons_zero, List.set_cons_succ]
              refine Go.Shr.wpAnyF_take 1 (oi := { dst := some 33, op := Go.Op.move (Go.Operand.tmp 11), type := 3, pos := "ref.go:32", after := #[], guard := none }) (v := ?g2rv2) rfl (by kernel_rfl) (fun _ _ _ h => h) (by assumption) (by rfl) ?g2ry2 ?g2rr2
              case g2ry2 => intro w hSw; have s1 := hSw; go_simp; try with_reducible rfl
              try simp only [Act.put, List.setIfInBounds_toArray, List.set_cons_zero, List.set_cons_succ]
              refine Go.Shr.wpAnyF_take 3 (oi := { dst := some 35, op := Go.Op.move (Go.Operand.tmp 1), type := 37, pos := "ref.go:32", after := #[], guard := none }) (v := ?g2rv3) rfl (by kernel_rfl) (fun _ _ _ h => h) (by assumption) (by rfl) ?g2ry3 ?g2rr3
              case g2ry3 => intro w hSw; have s1 := hSw; go_simp; try with_reducible rfl
              try simp only [Act.put, List.setIfInBounds_toArray, List.set_cons_zero, List.set_cons_succ]
              refine Go.Shr.wpAnyF_take 4 (oi := { dst := some 36, op := Go.Op.move (Go.Operand.tmp 9), type := 3, pos := "ref.go:32", after := #[], guard := none }) (v := ?g2rv4) rfl (by kernel_rfl) (fun _ _ _ h => h) (by assumption) (by rfl) ?g2ry4 ?g2rr4
              case g2ry4 => intro w hSw; have s1 := hSw; go_simp; try with_reducible rfl
              try simp only [Act.put, List.setIfInBounds_toArray, List.set_cons_zero, List.set_cons_succ]
              refine Go.Shr.wpAnyF_take 5 (oi := { dst := some 37, op := Go.Op.indexAddr 37 (Go.Operand.tmp 35) (Go.Operand.tmp 36), type := 0, pos := "ref.go:32", after := #[{ on := 3, ground := Go.Ground.data }, { on := 4, ground := Go.Ground.data }], guard := none }) (v := ?g2rv5) rfl (by kernel_rfl) (fun _ _ _ h => h) (by assumption) (by rfl) ?g2ry5 ?g2rr5
              case g2ry5 => intro w hSw; have s1 := hSw; go_simp; try with_reducible rfl
              try simp only [Act.put, List.setIfInBounds_toArray, List.set_cons_zero, List.set_cons_succ]
              refine Go.Shr.wpAnyF_take 6 (oi := { dst := some 38, op := Go.Op.load 9 (Go.Operand.tmp 37), type := 9, pos := "ref.go:32", after := #[{ on := 5, ground := Go.Ground.data }], guard := none }) (v := ?g2rv6) rfl (by kernel_rfl) (fun _ _ _ h => h) (by assumption) (by rfl) ?g2ry6 ?g2rr6
              case g2ry6 => intro w hSw; have s1 := hSw; go_simp; try with_reducible rfl
              try simp only [Act.put, List.setIfInBounds_toArray, List.set_cons_zero, List.set_cons_succ]
              refine Go.Shr.wpAnyF_ready [2] (by kernel_rfl) (by simp) ?_
              refine Go.Shr.AllReadyF.cons 2 (o := { dst := some 34, op := Go.Op.call { callee := Go.Callee.value (Go.Operand.func 15), args := #[Go.Operand.tmp 32, Go.Operand.tmp 33], argTypes := #[25, 3] }, type := 9, pos := "ref.go:32", after := #[{ on := 0, ground := Go.Ground.data }, { on := 1, ground := Go.Ground.data }], guard := none }) rfl (fun K hK => ?g2ro7) ?g2rm7
              case g2rm7 => exact Go.Shr.AllReadyF.nil
              go_simp; refine ((rpath_v sa sc l i _ (slb HS.out HB) hn HK.out HNM.out hi1 hil).mono ?_); rintro e w5 ⟨rfl, hb5⟩; dsimp only; refine gen_w (fun X2 hX => ?_); (have HR : Hid (RT w gk aP cP l (keepR l (byts (ps.take k))) X2) := Lib.hid (by rw [hX]; exact HR.out.below hb5)); (replace HB := HR.out.bel); clear hX hb5
              refine hK.out _ _ ?g2rs7 (fun hHeld => ?g2rt7)
              case g2rs7 => (try dsimp only); (first | exact cb HB HQW.out | exact cb HB.drew HQW.out)
              try dsimp only at hHeld
              clear hK K
              try simp only [Act.put, List.setIfInBounds_toArray, List.set_cons_zero, List.set_cons_succ]
              refine Go.Shr.wpAnyF_ready [7] (by kernel_rfl) (by simp) ?_
              refine Go.Shr.AllReadyF.last 7 (o := { dst := some 39, op := Go.Op.binOp Go.BinOp.eql 9 (Go.Operand.tmp 34) (Go.Operand.tmp 38) 9, type := 4, pos := "ref.go:32", after := #[{ on := 2, ground := Go.Ground.data }, { on := 6, ground := Go.Ground.data }], guard := none }) rfl (by kernel_rfl) (fun K hK => ?g2ro8) ?g2rm8
              case g2rm8 => exact Go.Shr.AllReadyF.nil
              go_simp
              refine hK.out _ _ ?_
              clear hK K
              try simp only [Act.put, List.setIfInBounds_toArray, List.set_cons_zero, List.set_cons_succ]
              refine Go.Shr.wpAnyF_done (by kernel_rfl) ?_
              clear hHeld
              generalize ownS l i = o at *
              by_cases ho : o = p
              · have hb : (o.toList == p.toList) = true := by rw [ho]; simp
                have HE : Hid (atR l p.data.toList (i + 1) = i) := Lib.hid (by rw [HAT.out, if_pos ⟨hi1, by rw [ho]⟩])
                rw [hb]
                clear ho hb
                go_wp2_with fail
                go_roundw
                case rel => exact ⟨i + 1, by rw [HE.out], by go_num, by omega, by omega, HR⟩
                case measure => simp [intOf]; omega
              · have hb : (o.toList == p.toList) = false := beq_eq_false_iff_ne.2 (fun h => ho (ba_ext h))
                have HE : Hid (atR l p.data.toList (i + 1) = atR l p.data.toList i) := Lib.hid (by rw [HAT.out, if_neg (fun h => ho (ba_ext (by rw [ByteArray.toList_eq, ByteArray.toList_eq]; exact h.2)))])
                rw [hb]
                clear ho hb
                go_wp2_with fail
                go_roundw
                case rel => exact ⟨i + 1, by rw [HE.out], by go_num, by omega, by omega, HR⟩
                case measure => simp [intOf]; omega
            · obtain rfl : i = l.length := by omega
              go_wp2_with fail
              go_meet
              case rel => exact ⟨rfl, HR⟩
        case rest =>
          obtain ⟨rfl, HR⟩ := hcut
          have HAI := Lib.hid (atR_iff (l := l) (p := p.data.toList) (n := l.length))
          generalize hat : atR l p.data.toList l.length = at' at *
          clear hat
          by_cases ha0 : at' = 0
          · subst ha0
            go_wp2_with fail
            refine bodyPost_ret (v := .tuple #[.slice none 0 0, .slice none 0 0, .int .i64 2]) (by simp [results, Try.results21, go_sem]) rfl ?_
            exact ⟨HR.out.bel, .inr ⟨fun h => by have := HAI.out.1.2 (h p HPM.out); omega, rfl⟩⟩
          · have hat0 : 0 < at' := by omega
            have hatl : at' < l.length := (HAI.out.2 hat0).1
            have HIS := Lib.hid (HAI.out.1.1 hat0)
            have hatb : ((at' : Int) == 0) = false := beq_eq_false_iff_ne.2 (by omega)
            clear HAI ha0
            go_wp2_with fail
            go_loopw [12] (fun iv wq => ∃ (i : Nat), iv = .int .i64 (i : Int) ∧ i ≤ l.length ∧ Hid (RT w gk aP cP l (fun x => if x < i then keepR l (byts (ps.take (k + 1))) x else keepR l (byts (ps.take k)) x) wq)) (fun iv _ => l.length - (intOf iv).toNat)
            case atStart => exact ⟨0, rfl, Nat.zero_le _, Lib.hid (HR.out.congr (fun x _ => by rw [if_neg (by omega)]))⟩
            case round =>
              clear HR
              obtain ⟨i, rfl, hi, HR⟩ := hrel
              by_cases hil : i < l.length
              · obtain ⟨g', hgg, h1, h2, h3, h4⟩ := HR.out.own.pos (by omega)
                injection hgg with hgg; injection hgg with hgg; subst hgg
                have c0 := h3 _ _ (bls_get (fun x => if x < i then keepR l (byts (ps.take (k + 1))) x else keepR l (byts (ps.take k)) x) hil)
                rw [if_neg (by omega)] at c0
                have cz := h4 i
                have HPR : Hid (Sl (fun b => b < wr.heap.size) wr 1 aP l.length cP (ints (par l))) := Lib.hid (HR.out.pr.mono (fun k hk h => hk) (by decide))
                have HKI := Lib.hid (HKS.out i)
                have HPUT := Lib.hid (fun b => HR.out.put i b)
                clear h3 h4
                generalize keepR l (byts (ps.take k)) i = kb at *
                have hfin : ∀ b : Bool, b = keepR l (byts (ps.take (k + 1))) i → Hid (RT w gk aP cP l (fun x => if x < i + 1 then keepR l (byts (ps.take (k + 1))) x else keepR l (byts (ps.take k)) x) (wr.setCell ⟨gk, i, none⟩ (.bool b))) := fun b hb => Lib.hid ((HPUT.out b).congr (fun x hx => by
                  by_cases h : x = i
                  · rw [if_pos h, if_pos (by omega), h, hb]
                  · rw [if_neg h]
                    by_cases h2 : x < i
                    · rw [if_pos h2, if_pos (by omega)]
                    · rw [if_neg h2, if_neg (by omega)]))
                have HFIN := Lib.hid hfin
                clear hfin
                cases kb with
                | true =>
                  go_wp2_with fail
                  go_roundw
                  case rel => exact ⟨i + 1, by go_num, by omega, HFIN.out _ (by rw [HKI.out]; rfl)⟩
                  case measure => simp [intOf]; omega
                | false =>
                  go_wp2_with fail
                  refine ((in_v aP cP l i at' wr HPR.out hil (by omega) (by omega)).mono ?_)
                  rintro e w5 ⟨rfl, rfl⟩
                  generalize decide (at' ∈ Go.Shr.chain (par l) i) = b1 at *
                  cases b1 with
                  | true =>
                    go_wp2_with fail
                    go_roundw
                    case rel => exact ⟨i + 1, by go_num, by omega, HFIN.out _ (by rw [HKI.out]; rfl)⟩
                    case measure => simp [intOf]; omega
                  | false =>
                    go_wp2_with fail
                    refine ((in_v aP cP l at' i wr HPR.out hatl (by omega) (by omega)).mono ?_)
                    rintro e w5 ⟨rfl, rfl⟩
                    generalize decide (i ∈ Go.Shr.chain (par l) at') = b2 at *
                    go_wp2_with fail
                    go_roundw
                    case rel => exact ⟨i + 1, by go_num, by omega, HFIN.out _ (by rw [HKI.out]; simp)⟩
                    case measure => simp [intOf]; omega
              · obtain rfl : i = l.length := by omega
                go_wp2_with fail
                go_roundw
                case rel => exact ⟨k + 1, by go_num, by omega, Lib.hid (HR.out.congr (fun x hx => by rw [if_pos hx])), Lib.hid (fun x hx => by
                  rw [HTK.out] at hx
                  rcases List.mem_append.1 hx with h | h
                  · exact HALL.out x h
                  · rw [List.mem_singleton.1 h]; exact HIS.out)⟩
                case measure => simp [intOf]; omega
      · obtain rfl : k = ps.length := by omega
        go_wp2_with fail
        go_meet
        case rel => exact ⟨by rw [List.take_length] at HRS; exact HRS, Lib.hid (by rw [List.take_length] at HALL; exact HALL.out)⟩
  case rest =>
    obtain ⟨HR, HALL⟩ := hcut
    clear HRT
    go_upto_block 6 with fail
    go_cut [13, 14] from 68 to 97 (fun vo _ wc => ∃ aO cO, vo = .slice aO (rank (kpR l ps) l.length) cO ∧ Hid (RT w gk aP cP l (kpR l ps) wc) ∧ Hid (Own w.heap.size wc 40 4 aO (rank (kpR l ps) l.length) cO (fls (keptG (kpR l ps) l l.length fun a => (flN l a).kids))) ∧ Hid (∀ k, blk aO k → k ≠ gk ∧ ¬ blk aP k ∧ w.heap.size ≤ k))
    case first =>
      go_wp2_with fail
      go_loopw [13, 14] (fun vo iv wq => ∃ (i : Nat) (aO : Option Addr) (cO : Nat), vo = .slice aO (rank (kpR l ps) i) cO ∧ iv = .int .i64 (i : Int) ∧ i ≤ l.length ∧ Hid (RT w gk aP cP l (fun x => if x < i then kpR l ps x else keepR l (byts ps) x) wq) ∧ Hid (Own w.heap.size wq 40 4 aO (rank (kpR l ps) i) cO (fls (keptG (kpR l ps) l i fun a => (flN l a).kids))) ∧ Hid (∀ k, blk aO k → k ≠ gk ∧ ¬ blk aP k ∧ w.heap.size ≤ k ∧ k < wq.heap.size)) (fun _ iv _ => l.length - (intOf iv).toNat)
      case atStart => exact ⟨0, none, 0, rfl, rfl, Nat.zero_le _, Lib.hid (HR.out.congr (fun x _ => by rw [if_neg (by omega)])), Lib.hid (Own.nil _ _ _ _), Lib.hid (fun k ⟨_, _, h⟩ => by cases h)⟩
      case round =>
        clear HR
        obtain ⟨i, aO, cO, rfl, rfl, hi, HR, HO, HNE⟩ := hrel
        have hri : rank (kpR l ps) i ≤ i := rank_le
        by_cases hil : i < l.length
        · obtain ⟨g', hgg, h1, h2, h3, h4⟩ := HR.out.own.pos (by omega)
          injection hgg with hgg; injection hgg with hgg; subst hgg
          have c0 := h3 _ _ (bls_get (fun x => if x < i then kpR l ps x else keepR l (byts ps) x) hil)
          rw [if_neg (by omega)] at c0
          have cz := h4 i
          have HKI : Hid (kpR l ps i = (keepR l (byts ps) i || ps.isEmpty)) := Lib.hid rfl
          have HPUT : Hid (Hid (RT w gk aP cP l (fun x => if x < i + 1 then kpR l ps x else keepR l (byts ps) x) (wr.setCell ⟨gk, i, none⟩ (.bool (kpR l ps i))))) := Lib.hid (Lib.hid ((HR.out.put i (kpR l ps i)).congr (fun x hx => by
            by_cases h : x = i
            · rw [if_pos h, if_pos (by omega), h]
            · rw [if_neg h]
              by_cases h2 : x < i
              · rw [if_pos h2, if_pos (by omega)]
              · rw [if_neg h2, if_neg (by omega)])))
          have HO2 := Lib.hid (HO.out.setCell (p := ⟨gk, i, none⟩) (fun k hk => (HNE.out k hk).1) (.bool (kpR l ps i)))
          obtain ⟨bs, os, rfl, hbs, hsc⟩ := HS.out.pos (by omega)
          obtain ⟨f0, f1, f2, f3⟩ := fls_get l i hil
          replace f0 := hsc _ _ f0; replace f1 := hsc _ _ f1; replace f2 := hsc _ _ f2; replace f3 := hsc _ _ f3
          rw [← Nat.add_assoc] at f1 f2 f3
          have HFN := Lib.hid (flN_eq hil)
          generalize l[i] = fj at *
          obtain ⟨nm, rp, kd, kk⟩ := fj
          dsimp only at f0 f1 f2 f3
          have HF := Lib.hid (And.intro (And.intro f0 f1) (And.intro f2 f3))
          have hge := HR.out.ne
          have hzr := HR.out.bel.size
          generalize keepR l (byts ps) i = kb at *
          clear h3 h4 hsc f0 f1 f2 f3 HR HO
          by_cases hA : (kb || ps.isEmpty) = true
          · have HRB := Lib.hid (HKI.out.trans hA)
            rw [HRB.out] at HPUT HO2
            have hA2 : kb = true ∨ kb = false ∧ ((ps.length : Int) == 0) = true := by
              cases kb with
              | true => exact .inl rfl
              | false =>
                rw [Bool.false_or] at hA
                exact .inr ⟨rfl, by cases ps with | nil => rfl | cons _ _ => cases hA⟩
            clear hA
            have HW : ∀ W, wr.setCell ⟨gk, i, none⟩ (.bool true) = W → Hid (RT w gk aP cP l (fun x => if x < i + 1 then kpR l ps x else keepR l (byts ps) x) W) ∧ Hid (Own w.heap.size W 40 4 aO (rank (kpR l ps) i) cO (fls (keptG (kpR l ps) l i fun a => (flN l a).kids))) ∧ W.heap.size = wr.heap.size := by
              intro W hW
              rw [← hW]
              exact ⟨HPUT.out, Lib.hid HO2.out, by simp⟩
            have HHW := Lib.hid HW
            clear HPUT HO2 HW
            rcases hA2 with rfl | ⟨rfl, hpsb⟩
            all_goals
              go_upto_region 23 with fail
              generalize hW : wr.setCell ⟨gk, i, none⟩ (.bool true) = W
              obtain ⟨HR2, HO3, hzW⟩ := HHW.out W hW
              obtain ⟨g', hgg, h1', h2', h3, h4⟩ := HR2.out.own.pos (by omega)
              injection hgg with hgg; injection hgg with hgg; subst hgg
              have k1 := h3 _ _ (bls_get (fun x => if x < i + 1 then kpR l ps x else keepR l (byts ps) x) hil)
              rw [if_pos (by omega), HRB.out] at k1
              obtain ⟨⟨f0, f1⟩, ⟨f2, f3⟩⟩ := HF.out
              replace f0 := cb HR2.out.bel f0; replace f1 := cb HR2.out.bel f1; replace f2 := cb HR2.out.bel f2; replace f3 := cb HR2.out.bel f3
              have hzW2 : wr.heap.size ≤ W.heap.size := by omega
              have HRY := Lib.hid (rank_yes HRB.out)
              have hbW : w.heap.size ≤ W.heap.size := HR2.out.bel.size
              clear hW h3 h4 c0 cz hzW
              have tok1 : True := trivial
              go_wp2_with (first | (at_builtin; have _t := tok1; clear tok1; clear _t; refine wpList_append (B := w.heap.size) rfl _ _ _ _ rfl iF (.agg #[.string ByteArray.empty, .int .i64 0, .int .i64 0, .int .i64 0]) 40 Try.underlying25 hiF hz0F hz1F hz2F rfl rfl (HO3.out.alloc _) _ rfl _ _ (src_built (e' := 40) Try.underlying25 W #[.string nm, .int .i64 rp, .int .i64 kd, .int .i64 kk] 40 1 4 rfl (by simp [Value.oneCell'])) (by simp only [maxLen]; omega) (by omega) (by first | omega | (simp; omega) | simp) ?_; intro a5 cap5 w5 ho5 hc5 hn5); (have HO5 := Lib.hid ho5); (have HC5 := Lib.hid hc5); (have HN5 := Lib.hid hn5); clear ho5 hc5 hn5)
              go_roundw
              case rel =>
                refine ⟨i + 1, a5, cap5, by rw [HRY.out], by go_num, by omega, Lib.hid ?_, Lib.hid ?_, Lib.hid (fun k hk => ?_)⟩
                · exact (HR2.out.below (ba (b0 W) _)).chg HC5.out (fun k hk => ⟨(HNE.out k hk.1).1, (HNE.out k hk.1).2.1, (HNE.out k hk.1).2.2.1⟩)
                · have ho5 := HO5.out
                  rw [HRY.out, keptG_yes HRB.out, fls_snoc, HFN.out]
                  exact ho5
                · have hlt := HO5.out.blt' (by omega) hk
                  rcases HN5.out k hk with h | h
                  · exact ⟨(HNE.out k h).1, (HNE.out k h).2.1, (HNE.out k h).2.2.1, hlt.2⟩
                  · simp at h
                    refine ⟨fun e => by omega, fun hb => ?_, hlt.1, hlt.2⟩
                    obtain ⟨b1, o1, he, hb1, _⟩ := HR2.out.pr.pos (by omega)
                    obtain ⟨_, _, e⟩ := hb
                    rw [he] at e
                    cases e
                    have := hb1.1
                    omega
              case measure => simp [intOf]; omega
          · have hA' : (kb || ps.isEmpty) = false := by simpa using hA
            have HRB := Lib.hid (HKI.out.trans hA')
            rw [HRB.out] at HPUT HO2
            obtain ⟨rfl, hpe⟩ : kb = false ∧ ps.isEmpty = false := by simpa using hA'
            have hpsb : ((ps.length : Int) == 0) = false := by
              cases ps with
              | nil => cases hpe
              | cons _ _ => simp; omega
            have HRN := Lib.hid (rank_no HRB.out)
            clear hA hA' hpe
            have hz3 : (wr.setCell ⟨gk, i, none⟩ (.bool false)).heap.size = wr.heap.size := by simp
            have HZ3 := Lib.hid hz3
            clear hz3
            go_wp2_with fail
            go_roundw
            case rel => exact ⟨i + 1, aO, cO, by rw [HRN.out], by go_num, by omega, HPUT.out, Lib.hid (by rw [HRN.out, keptG_no HRB.out]; exact HO2.out), Lib.hid (fun k hk => by rw [HZ3.out]; exact HNE.out k hk)⟩
            case measure => simp [intOf]; omega
        · obtain rfl : i = l.length := by omega
          go_wp2_with fail
          go_meet
          case rel => exact ⟨aO, cO, rfl, Lib.hid (HR.out.congr (fun x hx => by rw [if_pos hx])), HO, Lib.hid (fun k hk => ⟨(HNE.out k hk).1, (HNE.out k hk).2.1, (HNE.out k hk).2.2.1⟩)⟩
    case rest =>
      obtain ⟨aO, cO, rfl, HR2, HO, HNE⟩ := hcut
      clear HR
      have hs2 : Sl (fun b => b < wc.heap.size ∧ ¬ blk aO b) wc 4 sa l.length sc (fls l) := Sl.go (Chg.ofBelow HR2.out.bel) (fun k hk h => ⟨by omega, by have := HR2.out.bel.size; omega, fun hb => by have := (HNE.out k hb).2.2; omega⟩) HS.out (by decide)
      have hp2 : Sl (fun b => b < wc.heap.size ∧ ¬ blk aO b) wc 1 aP l.length cP (ints (par l)) := HR2.out.pr.mono (fun k hk h => ⟨hk, fun hb => (HNE.out k hb).2.1 h.2.2⟩) (by decide)
      have hk2 : Sl (fun b => b < wc.heap.size ∧ ¬ blk aO b) wc 1 (some ⟨gk, 0, none⟩) l.length l.length (bls (kpR l ps) l.length) := HR2.out.own.sl.mono (fun k hk h => ⟨hk, fun hb => (HNE.out k hb).1 (by obtain ⟨_, _, e⟩ := h.2.1; cases e; rfl)⟩) (by decide)
      have HK3 := Lib.hid (kids_v w.heap.size sa aP (some ⟨gk, 0, none⟩) aO sc cP l.length cO l (kpR l ps) (fun a => (flN l a).kids) wc (by omega) hs2 hp2 hk2 HO.out)
      clear hs2 hp2 hk2
      go_wp2_with fail
      refine (HK3.out.mono ?_)
      rintro e w5 ⟨rfl, ho5, hc5⟩
      have HO5 := Lib.hid ho5
      have HR5 := Lib.hid (HR2.out.chg hc5 (fun k hk => HNE.out k hk.1))
      clear ho5 hc5
      go_wp2_with fail
      refine bodyPost_ret (v := .tuple #[.slice (some ⟨gk, 0, none⟩) l.length l.length, .slice aO (rank (kpR l ps) l.length) cO, .int .i64 0]) (by simp [results, Try.results21, go_sem]) rfl ?_
      exact ⟨HR5.out.bel, .inl ⟨HALL.out, _, _, _, _, rfl, HR5.out.own, HO5.out⟩⟩
end Go.Proofs.Ytgpffcgkfgiodaa
