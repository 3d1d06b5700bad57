/-
  The walk of Resolve.
-/
import Derived.Test.YtgpffcgkfgiodaaKept7
import Derived.Test.YtgpffcgkfgiodaaPath7
import Derived.Deep.CutRange
import Derived.Deep.CutBlock
set_option linter.unusedSimpArgs false
namespace Go.Proofs.Ytgpffcgkfgiodaa
open Go.RowKit Go.Shr
/-- Texts as cells. -/
def strs (l : List ByteArray) : List Value := l.map .string
theorem strs_len (l : List ByteArray) : (strs l).length = l.length := by simp [strs]
theorem strs_get (l : List ByteArray) (k : Nat) (h : k < l.length) : (strs l)[k]? = some (.string l[k]) := by simp [strs, h]
def byts (l : List ByteArray) : List (List UInt8) := l.map fun p => p.data.toList
/-- What is kept. -/
def kpF (l : List Fl) (ps : List ByteArray) (k : Nat) : Bool := ps.isEmpty || keepP l (byts ps) k
def allA (l : List Fl) (ps : List ByteArray) : Prop := ∀ p ∈ ps, isA l p.data.toList l.length = true
/-- What Resolve returns. -/
def ResQ (l : List Fl) (ps : List ByteArray) (w : World) (e : Ending) (w' : World) : Prop :=
  Below w.heap.size w w' ∧ ((allA l ps ∧ ∃ ak ck ap cp, e = .returned (.tuple #[.slice ak l.length ck, .slice ap (rank (kpF l ps) l.length) cp, .int .i64 0]) ∧ Own w.heap.size w' 4 1 ak l.length ck (bls (kpF l ps) l.length) ∧ Own w.heap.size w' 40 4 ap (rank (kpF l ps) l.length) cp (fls (keptL (kpF l ps) l))) ∨
    (¬ allA l ps ∧ e = .returned (.tuple #[.slice none 0 0, .slice none 0 0, .int .i64 2])))
/-- The state on the way. -/
structure RS (w : World) (b4 b7 gk : Nat) (aP : Option Addr) (cP : Nat) (l : List Fl) (F : Nat → Bool) (W : World) : Prop where
  r4 : Rw W b4 #[.slice (some ⟨gk, 0, none⟩) l.length l.length] 32
  r7 : Rw W b7 #[.slice aP l.length cP] 22
  own : Own w.heap.size W 4 1 (some ⟨gk, 0, none⟩) l.length l.length (bls F l.length)
  pr : Sl (fun b => b < W.heap.size ∧ b ≠ gk ∧ b ≠ b4) W 1 aP l.length cP (ints (par l))
  bel : Below w.heap.size w W
  ne : b4 ≠ gk ∧ b7 ≠ gk ∧ w.heap.size ≤ b4 ∧ w.heap.size ≤ gk ∧ b4 ≠ b7
theorem RS.below {w : World} {b4 b7 gk : Nat} {aP : Option Addr} {cP : Nat} {l : List Fl} {F : Nat → Bool} {W W' : World} (h : RS w b4 b7 gk aP cP l F W) (hb : Below W.heap.size W W') : RS w b4 b7 gk aP cP l F W' :=
  ⟨h.r4.below hb, h.r7.below hb, h.own.below hb, Sl.go (Chg.ofBelow hb) (fun k hk h => ⟨by omega, by have := hb.size; omega, h.2.1, h.2.2⟩) h.pr (by decide), bt h.bel hb, h.ne⟩
theorem RS.congr {w : World} {b4 b7 gk : Nat} {aP : Option Addr} {cP : Nat} {l : List Fl} {F G : Nat → Bool} {W : World} (h : RS w b4 b7 gk aP cP l F W) (hc : ∀ k, k < l.length → F k = G k) : RS w b4 b7 gk aP cP l G W :=
  ⟨h.r4, h.r7, bls_congr hc ▸ h.own, h.pr, h.bel, h.ne⟩
theorem RS.all {w : World} {b4 b7 gk : Nat} {aP : Option Addr} {cP : Nat} {l : List Fl} {F : Nat → Bool} {W : World} (h : RS w b4 b7 gk aP cP l F W) {i : Nat} (hi : i < l.length) (hn : l.length ≤ 1000) :
    Calls Try.prog 30 #[.int .i64 i, .pointer (some ⟨b7, 0, none⟩), .pointer (some ⟨b4, 0, none⟩)] W fun e W' => e = .returned (.tuple #[]) ∧ RS w b4 b7 gk aP cP l (fun x => F x || decide (x ∈ Go.Shr.chain (par l) i)) W' :=
  (all_v w.heap.size gk l.length b7 b4 aP cP l F i W hi hn (Sl.go (Chg.refl (fun _ => False) _) (fun k hk h => ⟨fun h => h, h.1, h.2.1⟩) h.pr (by decide)) h.r7 h.r4 h.ne.2.1 h.ne.1 h.own).mono fun e W' ⟨he, ho, hc⟩ =>
    ⟨he, h.r4.chg hc h.ne.1, h.r7.chg hc h.ne.2.1, ho, Sl.go hc (fun k hk h => ⟨h.2.1, by have := hc.size; omega, h.2.1, h.2.2⟩) h.pr (by decide), Chg.bt h.bel hc (fun i hi e => by have e' : i = gk := e; have := h.ne.2.2.2.1; omega), h.ne⟩
theorem keepP_snoc (l : List Fl) (ps : List ByteArray) (k x : Nat) (h : k < ps.length) : keepP l (byts (ps.take (k + 1))) x = (keepP l (byts (ps.take k)) x || inA l ps[k].data.toList l.length x) := by
  unfold keepP byts
  rw [List.take_succ_eq_append_getElem h, List.map_append, List.any_append]
  simp
set_option maxHeartbeats 1000000 in
set_option maxRecDepth 100000 in
theorem resolve_v (sa pa : Option Addr) (sc pc : Nat) (l : List Fl) (ps : List ByteArray) (w : World) (h0 : 0 < l.length) (hn : l.length ≤ 20) (hpn : ps.length ≤ 1000)
    (hs : Sl (fun b => b < w.heap.size) w 4 sa l.length sc (fls l)) (hp : Sl (fun b => b < w.heap.size) w 1 pa ps.length pc (strs ps)) (hkid : ∀ x ∈ l, x.kids ≤ 1000) (hnm : ∀ x ∈ l, x.name.size ≤ 20)
    (hasc : ∀ i, 0 < i → i < l.length → ∀ c ∈ (ownS l i).data.toList, c.toNat < 128) (hosz : ∀ i, 0 < i → i < l.length → (ownS l i).size ≤ 1000) (hpsz : ∀ p ∈ ps, p.size ≤ maxLen)
    (hcl : ∀ (i k : Nat), i < l.length → kpF l ps i = true → (par l)[i]? = some (k : Int) → kpF l ps k = true) :
    Calls Try.prog 14 #[.slice sa l.length sc, .slice pa ps.length pc] w (ResQ l ps w) := by
  have hmf' := hmf
  obtain ⟨io, hio, hz0o, hz1o, hz2o⟩ := info_parts info_bo
  have hs1 := slb hs (ba (b0 w) (.cells #[.slice none 0 0] 32))
  have HS := Lib.hid hs; have HP := Lib.hid hp; have HS1 := Lib.hid hs1; have HK := Lib.hid hkid; have HNM := Lib.hid hnm; have HASC := Lib.hid hasc; have HOSZ := Lib.hid hosz; have HPSZ := Lib.hid hpsz; have HCL := Lib.hid hcl
  clear hs hp hs1 hkid hnm hasc hosz hpsz hcl
  have R4 := Lib.hid (Rw.new w #[.slice none 0 0] 32)
  go_enter Try.func14, Try.ntmps14
  go_wp2_with fail
  refine wp_scope_jumps 0 (fun a' w' => (fun u : Nat → Value => a' = { tmps := List.toArray ((.slice sa l.length sc) :: (.slice pa ps.length pc) :: ((u 2)) :: ((u 3)) :: (.pointer (some ⟨w.heap.size, 0, none⟩)) :: ((u 5)) :: ((u 6)) :: ((u 7)) :: ((u 8)) :: ((u 9)) :: ((u 10)) :: ((u 11)) :: ((u 12)) :: ((u 13)) :: ((u 14)) :: ((u 15)) :: ((u 16)) :: ((u 17)) :: ((u 18)) :: ((u 19)) :: ((u 20)) :: ((u 21)) :: ((u 22)) :: ((u 23)) :: ((u 24)) :: ((u 25)) :: ((u 26)) :: ((u 27)) :: ((u 28)) :: ((u 29)) :: ((u 30)) :: ((u 31)) :: ((u 32)) :: ((u 33)) :: ((u 34)) :: ((u 35)) :: ((u 36)) :: ((u 37)) :: ((u 38)) :: ((u 39)) :: ((u 40)) :: ((u 41)) :: ((u 42)) :: ((u 43)) :: ((u 44)) :: ((u 45)) :: ((u 46)) :: ((u 47)) :: ((u 48)) :: ((u 49)) :: ((u 50)) :: ((u 51)) :: ((u 52)) :: ((u 53)) :: ((u 54)) :: ((u 55)) :: ((u 56)) :: ((u 57)) :: ((u 58)) :: ((u 59)) :: ((u 60)) :: ((u 61)) :: ((u 62)) :: ((u 63)) :: ((u 64)) :: ((u 65)) :: ((u 66)) :: ((u 67)) :: ((u 68)) :: ((u 69)) :: ((u 70)) :: []), defers := [] }) (fun k => a'.tmps.getD k undef) ∧ (∃ v, Hid (Rw w' w.heap.size #[v] 32)) ∧ Hid (Below w.heap.size w w') ∧ Hid (¬ allA l ps)) (fun _ _ => 0) rfl ?first ?pass
  case pass =>
    rintro a' w' ⟨ha, ⟨v, HR⟩, HB, HN⟩
    obtain ⟨u, rfl⟩ : ∃ u : Nat → Value, a' = { tmps := List.toArray ((.slice sa l.length sc) :: (.slice pa ps.length pc) :: ((u 2)) :: ((u 3)) :: (.pointer (some ⟨w.heap.size, 0, none⟩)) :: ((u 5)) :: ((u 6)) :: ((u 7)) :: ((u 8)) :: ((u 9)) :: ((u 10)) :: ((u 11)) :: ((u 12)) :: ((u 13)) :: ((u 14)) :: ((u 15)) :: ((u 16)) :: ((u 17)) :: ((u 18)) :: ((u 19)) :: ((u 20)) :: ((u 21)) :: ((u 22)) :: ((u 23)) :: ((u 24)) :: ((u 25)) :: ((u 26)) :: ((u 27)) :: ((u 28)) :: ((u 29)) :: ((u 30)) :: ((u 31)) :: ((u 32)) :: ((u 33)) :: ((u 34)) :: ((u 35)) :: ((u 36)) :: ((u 37)) :: ((u 38)) :: ((u 39)) :: ((u 40)) :: ((u 41)) :: ((u 42)) :: ((u 43)) :: ((u 44)) :: ((u 45)) :: ((u 46)) :: ((u 47)) :: ((u 48)) :: ((u 49)) :: ((u 50)) :: ((u 51)) :: ((u 52)) :: ((u 53)) :: ((u 54)) :: ((u 55)) :: ((u 56)) :: ((u 57)) :: ((u 58)) :: ((u 59)) :: ((u 60)) :: ((u 61)) :: ((u 62)) :: ((u 63)) :: ((u 64)) :: ((u 65)) :: ((u 66)) :: ((u 67)) :: ((u 68)) :: ((u 69)) :: ((u 70)) :: []), defers := [] } := ⟨fun k => a'.tmps.getD k undef, ha⟩
    clear ha
    have c0 : w'.cell? ⟨w.heap.size, 0, none⟩ = some v := HR.out.cell 0
    have cz := HR.out.frozen 0
    have cl := HR.out.lt
    go_wp2_with fail
    simp only [Exit.jump]
    refine bodyPost_ret (v := .tuple #[.slice none 0 0, .slice none 0 0, .int .i64 2]) (by simp [results, Try.results14, go_sem, c0]) rfl ?_
    exact ⟨HB.out.setCell (p := ⟨w.heap.size, 0, none⟩) (Nat.le_refl _) _, .inr ⟨HN.out, rfl⟩⟩
  go_wp2_with fail
  refine (par_v sa l.length sc l _ HS1.out (by omega) HK.out).mono ?_
  rintro e w1 ⟨aP, cP, rfl, ho, hb⟩
  have hlt1 := hb.size
  simp only [World.size_alloc] at hlt1
  have HR4 := Lib.hid (R4.out.below hb)
  have HP1 := Lib.hid ho
  have HB1 := Lib.hid (bt (ba (b0 w) _) hb)
  clear ho hb
  have hlt2 : w.heap.size < w1.heap.size := by omega
  go_upto_region 4 with fail
  generalize hwA : w1.alloc (.cells #[.slice aP l.length cP] 22) = wA
  have hbA : Below w1.heap.size w1 wA := by rw [← hwA]; exact ba (b0 w1) _
  have hzA : wA.heap.size = w1.heap.size + 1 := by rw [← hwA]; simp
  have HR7 := Lib.hid (show Rw wA w1.heap.size #[.slice aP l.length cP] 22 by rw [← hwA]; exact Rw.new w1 _ _)
  have HR4A := Lib.hid (HR4.out.below hbA)
  have HPA := Lib.hid (HP1.out.below hbA)
  have HPB : Hid (∀ k, blk aP k → w.heap.size < k ∧ k < w1.heap.size) := Lib.hid (fun k hk => by have := HP1.out.blt' h0 hk; simp at this; omega)
  have HBA := Lib.hid (bt HB1.out hbA)
  have HZA := Lib.hid hzA
  have hbo : w.heap.size ≤ wA.heap.size := by omega
  clear hwA hbA hzA HR4 HB1
  go_upto_region 5 with (at_make; refine wpList_make rfl _ _ _ rfl w.heap.size _ io (.bool false) 1 Try.underlying32 hio hz0o hz1o .i64 .i64 _ _ l.length rfl rfl rfl rfl (by rw [hz2o]; omega) (by simp only [maxLen]; omega) hbo ?_; intro w2 hown hchg; (have HO2 := Lib.hid hown); (have HC2 := Lib.hid hchg); (have r42 := HR4A.out.chg hchg (fun h => h)); (have c40 := r42.cell 0); (have c4z := r42.frozen 0); (have c4l := r42.lt); (have HR42 := Lib.hid r42); clear hown hchg r42)
  generalize hW : w2.setCell ⟨w.heap.size, 0, none⟩ (.slice (some ⟨wA.heap.size, 0, none⟩) l.length l.length) = W
  have hRS : RS w w.heap.size w1.heap.size wA.heap.size aP cP l (fun _ => false) W := by
    have e := HZA.out
    have hb2 : Below wA.heap.size wA w2 := HC2.out.nothing (fun _ _ h => h)
    rw [← hW]
    refine ⟨HR42.out.set 0 _, (HR7.out.below hb2).other (by show w1.heap.size ≠ w.heap.size; omega) _, ?_, ?_, (bt HBA.out hb2).setCell (p := ⟨w.heap.size, 0, none⟩) (Nat.le_refl _) _, by omega⟩
    · have ho := HO2.out
      rw [zeros_bo] at ho
      have e2 : bls (fun _ => false) l.length = List.replicate l.length (Value.bool false) := by
        refine List.ext_getElem (by simp [bls]) fun a h1 h2 => by simp [bls]
      rw [e2]
      exact ho.setCell (p := ⟨w.heap.size, 0, none⟩) (fun k ⟨_, _, e⟩ => by cases e; show wA.heap.size ≠ w.heap.size; omega) _
    · have h1 := (HPA.out.below hb2).setCell (p := ⟨w.heap.size, 0, none⟩) (fun k hk e => by
        have h2 := HPB.out k hk
        have e' : k = w.heap.size := e
        omega) (.slice (some ⟨wA.heap.size, 0, none⟩) l.length l.length)
      exact h1.sl.mono (fun k hk h => ⟨hk, by have := HPB.out k h.2.1; omega, by have := HPB.out k h.2.1; omega⟩) (by decide)
  have HRS := Lib.hid hRS
  clear hRS hW HO2 HC2 HR42 HR7 HR4A HPA HBA c40 c4z c4l
  generalize hgk : wA.heap.size = gk at *
  generalize hb7 : w1.heap.size = b7 at *
  clear hgk hb7 hbo HZA hlt1 hlt2
  go_upto_block 0 with fail
  go_cut [10, 11, 12, 13, 26] from 27 to 53 (fun _ _ _ _ _ wc => Hid (RS w w.heap.size b7 gk aP cP l (keepP l (byts ps)) wc) ∧ Hid (allA l ps))
  case first =>
    go_wp2_with fail
    go_loopw [10, 11, 12, 13, 26] (fun _ _ _ _ kv wr => ∃ k : Nat, kv = .int .i64 (k : Int) ∧ k ≤ ps.length ∧ Hid (RS w w.heap.size b7 gk aP cP l (keepP l (byts (ps.take k))) wr) ∧ Hid (∀ p ∈ ps.take k, isA l p.data.toList l.length = true)) (fun _ _ _ _ kv _ => ps.length - (intOf kv).toNat)
    case atStart => exact ⟨0, rfl, Nat.zero_le _, HRS, Lib.hid (by simp)⟩
    case round =>
      clear HRS
      obtain ⟨k, rfl, hk, HRS, HALL⟩ := hrel
      have hszr := HRS.out.bel.size
      by_cases hkl : k < ps.length
      · obtain ⟨pb, po, rfl, hpb, hpc⟩ := HP.out.pos (by omega)
        have q0 := cb HRS.out.bel (hpc _ _ (strs_get ps k hkl))
        have hps := HPSZ.out ps[k] (List.getElem_mem hkl)
        have HKS := Lib.hid (fun x => keepP_snoc l ps k x hkl)
        have HTK : Hid (ps.take (k + 1) = ps.take k ++ [ps[k]]) := Lib.hid (List.take_succ_eq_append_getElem hkl)
        have HPM : Hid (ps[k] ∈ ps) := Lib.hid (List.getElem_mem hkl)
        generalize ps[k] = p at *
        clear hpc
        go_upto_block 2 with fail
        go_cut [11, 12, 13] from 30 to 50 (fun b _ _ wc => ∃ bb : Bool, b = .bool bb ∧ Hid (bb = isA l p.data.toList l.length) ∧ Hid (RS w w.heap.size b7 gk aP cP l (keepP l (byts (ps.take (k + 1)))) wc))
        case first =>
          go_wp2_with fail
          go_loopw [11, 12, 13] (fun b iv _ wq => ∃ (i : Nat) (bb : Bool), b = .bool bb ∧ iv = .int .i64 (i : Int) ∧ 1 ≤ i ∧ i ≤ l.length ∧ Hid (bb = isA l p.data.toList i) ∧ Hid (RS w w.heap.size b7 gk aP cP l (fun x => keepP l (byts (ps.take k)) x || inA l p.data.toList i x) wq)) (fun _ iv _ _ => l.length - (intOf iv).toNat)
          case atStart => exact ⟨1, false, rfl, rfl, Nat.le_refl _, h0, Lib.hid (isA_one _ _).symm, Lib.hid (HRS.out.congr (fun x _ => by rw [inA_one]; simp))⟩
          case round =>
            obtain ⟨i, bb, rfl, rfl, hi1, hi2, HBB, HR⟩ := hrel
            by_cases hil : i < l.length
            · have HIA := Lib.hid (isA_succ l p.data.toList i hi1)
              have HIN := Lib.hid (fun x => inA_succ l p.data.toList i x hi1)
              have HAS := Lib.hid (HASC.out i hi1 hil)
              have hos := HOSZ.out i hi1 hil
              go_wp2_with fail
              refine ((path_v sa sc l i _ (slb HS.out HR.out.bel) hn HK.out HNM.out hi1 hil).mono ?_)
              rintro e w3 ⟨rfl, hb3⟩
              have HR3 := Lib.hid (HR.out.below hb3)
              clear hb3
              generalize ownS l i = o at *
              have hom : o.size ≤ maxLen := by unfold maxLen; omega
              cases bb
              all_goals
                go_wp2_with fail
                refine ((inside_v o p w3 HAS.out hom hps).mono ?_)
                rintro e w4 ⟨rfl, hb4⟩
                have HR4 := Lib.hid (HR3.out.below hb4)
                clear hb4
                cases hin : insideB o.data.toList p.data.toList
                · have HI := Lib.hid hin
                  clear hin
                  go_wp2_with fail
                  go_roundw
                  case rel => exact ⟨i + 1, _, rfl, by go_num, by omega, by omega, Lib.hid (by rw [HIA.out, ← HBB.out]; simp [ByteArray.toList_eq]), Lib.hid (HR4.out.congr (fun x _ => by rw [HIN.out x, HI.out]; simp))⟩
                  case measure => simp [intOf]; omega
                · have HI := Lib.hid hin
                  clear hin
                  go_wp2_with fail
                  refine ((HR4.out.all hil (by omega)).mono ?_)
                  rintro e w5 ⟨rfl, hr5⟩
                  have HR5 := Lib.hid hr5
                  clear hr5
                  go_wp2_with fail
                  go_roundw
                  case rel => exact ⟨i + 1, _, rfl, by go_num, by omega, by omega, Lib.hid (by rw [HIA.out, ← HBB.out]; simp [ByteArray.toList_eq]), Lib.hid (HR5.out.congr (fun x _ => by rw [HIN.out x, HI.out]; simp [Bool.or_assoc]))⟩
                  case measure => simp [intOf]; omega
            · obtain rfl : i = l.length := by omega
              go_wp2_with fail
              go_meet
              case rel => exact ⟨bb, rfl, HBB, Lib.hid (HR.out.congr (fun x _ => (HKS.out x).symm))⟩
        case rest =>
          obtain ⟨bb, rfl, HBB, HR⟩ := hcut
          cases bb with
          | true =>
            go_wp2_with fail
            go_roundw
            case rel => exact ⟨k + 1, by go_num, by omega, HR, Lib.hid (fun x hx => by
              rw [HTK.out] at hx
              rcases List.mem_append.1 hx with h | h
              · exact HALL.out x h
              · rw [List.mem_singleton.1 h]; exact HBB.out.symm)⟩
            case measure => simp [intOf]; omega
          | false =>
            go_wp2_with fail
            refine Go.wp_goto ?_
            dsimp (zetaDelta := true) only [Exit.inBlock, Exit.then, Exit.jump]
            exact ⟨rfl, rfl, ⟨_, Lib.hid HR.out.r4⟩, Lib.hid HR.out.bel, Lib.hid (fun h => by have := h p HPM.out; rw [← HBB.out] at this; cases this)⟩
      · obtain rfl : k = ps.length := by omega
        go_wp2_with fail
        go_meet
        case rel => exact ⟨by rw [List.take_length] at HRS; exact HRS, Lib.hid (by rw [List.take_length] at HALL; exact HALL.out)⟩
  case rest =>
    obtain ⟨HR, HALL⟩ := hcut
    clear HRS
    go_upto_block 4 with fail
    go_cut [14, 56] from 57 to 65 (fun _ _ wc => Hid (RS w w.heap.size b7 gk aP cP l (kpF l ps) wc))
    case first =>
      by_cases hps0 : ps.length = 0
      · have HE : Hid (ps = []) := Lib.hid (List.eq_nil_of_length_eq_zero hps0)
        have hpb : ((ps.length : Int) == 0) = true := beq_iff_eq.2 (by omega)
        clear hps0
        go_wp2_with fail
        go_loopw [14, 56] (fun _ iv wr => ∃ (i : Nat) (F : Nat → Bool), iv = .int .i64 (i : Int) ∧ i ≤ l.length ∧ Hid (∀ x, x < i → F x = true) ∧ Hid (RS w w.heap.size b7 gk aP cP l F wr)) (fun _ iv _ => l.length - (intOf iv).toNat)
        case atStart => exact ⟨0, _, rfl, Nat.zero_le _, Lib.hid (fun x h => by omega), HR⟩
        case round =>
          clear HR
          obtain ⟨i, F, rfl, hi, HX, HR⟩ := hrel
          by_cases hil : i < l.length
          · go_wp2_with fail
            refine ((HR.out.all hil (by omega)).mono ?_)
            rintro e w5 ⟨rfl, hr5⟩
            have HR5 := Lib.hid hr5
            clear hr5
            go_wp2_with fail
            go_roundw
            case rel =>
              exact ⟨i + 1, fun x => F x || decide (x ∈ Go.Shr.chain (par l) i), by go_num, by omega, Lib.hid (fun x hx => by
              by_cases h : x = i
              · subst h; simp [chain_self]
              · dsimp only; rw [HX.out x (by omega)]; rfl), HR5⟩
            case measure => simp [intOf]; omega
          · obtain rfl : i = l.length := by omega
            go_wp2_with fail
            go_meet
            case rel => exact Lib.hid (HR.out.congr (fun x hx => by rw [HX.out x hx, HE.out]; rfl))
      · have hpb : ((ps.length : Int) == 0) = false := beq_eq_false_iff_ne.2 (by omega)
        have HR' : Hid (RS w w.heap.size b7 gk aP cP l (kpF l ps) wc) := Lib.hid (HR.out.congr (fun x hx => by
          unfold kpF
          have : ps.isEmpty = false := by cases ps with | nil => exact absurd rfl hps0 | cons _ _ => rfl
          rw [this]; rfl))
        clear HR
        go_wp2_with fail
        go_loopw [14, 56] (fun _ iv wr => ∃ (i : Nat), iv = .int .i64 (i : Int) ∧ i ≤ l.length ∧ Hid (RS w w.heap.size b7 gk aP cP l (kpF l ps) wr)) (fun _ iv _ => l.length - (intOf iv).toNat)
        case atStart => exact ⟨0, rfl, Nat.zero_le _, HR'⟩
        case round =>
          clear HR'
          obtain ⟨i, rfl, hi, HR⟩ := hrel
          by_cases hil : i < l.length
          · go_wp2_with fail
            go_roundw
            case rel => exact ⟨i + 1, by go_num, by omega, HR⟩
            case measure => simp [intOf]; omega
          · obtain rfl : i = l.length := by omega
            go_wp2_with fail
            go_meet
            case rel => exact HR
    case rest =>
      have HR := hcut
      clear hcut
      have r4 := HR.out.r4
      have r7 := HR.out.r7
      have HB := HR.out.bel
      have HO := HR.out.own
      have HPR := HR.out.pr
      have HNE := Lib.hid HR.out.ne
      go_wp2_with fail
      refine Go.Shr.wp_region_F (fun w' => w'.cell? ⟨w.heap.size, 0, none⟩ = some (.slice (some ⟨gk, 0, none⟩) l.length l.length) ∧ w'.cell? ⟨b7, 0, none⟩ = some (.slice aP l.length cP)) [5, 6, 7] (by kernel_rfl) ?g1rgS (fun hHeld => ?g1rgR)
      case g1rgS => (try dsimp only); (exact ⟨r4.cell 0, r7.cell 0⟩)
      try dsimp only at hHeld
      obtain ⟨X, hX⟩ : ∃ X, X = wc.drew := ⟨_, rfl⟩; rw [← hX] at hHeld ⊢; (replace r4 := Rw.ren hX r4.drew); (replace r7 := Rw.ren hX r7.drew); (replace HB := Go.Shr.Below.ren hX HB.drew); (replace HO : Own w.heap.size X 4 1 (some ⟨gk, 0, none⟩) l.length l.length (bls (kpF l ps) l.length) := by (rw [hX]; exact HO.drew)); (replace HPR : Sl (fun b => b < X.heap.size) X 1 aP l.length cP (ints (par l)) := by (rw [hX]; exact HPR.drew.mono (fun k hk h => h.1) (by decide))); clear hX
      refine Go.Shr.wpAnyF_take 0 (oi := { dst := some 66, op := Go.Op.load 32 (Go.Operand.tmp 4), type := 32, pos := "project.go:51", after := #[], guard := none }) (v := ?g1rv1) rfl (by kernel_rfl) (fun _ _ _ h => h) (by assumption) (by rfl) ?g1ry1 ?g1rr1
      case g1ry1 => intro w hSw; obtain ⟨s1, s2⟩ := hSw; go_simp; try with_reducible rfl
      try simp only [Act.put, List.setIfInBounds_toArray, List.set_cons_zero, List.set_cons_succ]
      refine Go.Shr.wpAnyF_take 1 (oi := { dst := some 67, op := Go.Op.move (Go.Operand.tmp 0), type := 25, pos := "project.go:51", after := #[], guard := none }) (v := ?g1rv2) rfl (by kernel_rfl) (fun _ _ _ h => h) (by assumption) (by rfl) ?g1ry2 ?g1rr2
      case g1ry2 => intro w hSw; obtain ⟨s1, s2⟩ := hSw; go_simp; try with_reducible rfl
      try simp only [Act.put, List.setIfInBounds_toArray, List.set_cons_zero, List.set_cons_succ]
      refine Go.Shr.wpAnyF_take 2 (oi := { dst := some 68, op := Go.Op.load 22 (Go.Operand.tmp 7), type := 22, pos := "project.go:51", after := #[], guard := none }) (v := ?g1rv3) rfl (by kernel_rfl) (fun _ _ _ h => h) (by assumption) (by rfl) ?g1ry3 ?g1rr3
      case g1ry3 => intro w hSw; obtain ⟨s1, s2⟩ := hSw; go_simp; try with_reducible rfl
      try simp only [Act.put, List.setIfInBounds_toArray, List.set_cons_zero, List.set_cons_succ]
      refine Go.Shr.wpAnyF_take 3 (oi := { dst := some 69, op := Go.Op.load 32 (Go.Operand.tmp 4), type := 32, pos := "project.go:51", after := #[], guard := none }) (v := ?g1rv4) rfl (by kernel_rfl) (fun _ _ _ h => h) (by assumption) (by rfl) ?g1ry4 ?g1rr4
      case g1ry4 => intro w hSw; obtain ⟨s1, s2⟩ := hSw; go_simp; try with_reducible rfl
      try simp only [Act.put, List.setIfInBounds_toArray, List.set_cons_zero, List.set_cons_succ]
      refine Go.Shr.wpAnyF_ready [4] (by kernel_rfl) (by simp) ?_
      refine Go.Shr.AllReadyF.cons 4 (o := { dst := some 70, op := Go.Op.call { callee := Go.Callee.value (Go.Operand.func 33), args := #[Go.Operand.tmp 67, Go.Operand.tmp 68, Go.Operand.tmp 69], argTypes := #[25, 22, 32] }, type := 25, pos := "project.go:51", after := #[{ on := 1, ground := Go.Ground.data }, { on := 2, ground := Go.Ground.data }, { on := 3, ground := Go.Ground.data }], guard := none }) rfl (fun K hK => ?g1ro5) ?g1rm5
      case g1rm5 => exact Go.Shr.AllReadyF.nil
      (have hr4 := r4.lt); go_simp; refine ((kept_v sa aP _ sc cP _ l (kpF l ps) _ (by omega) h0 (slb HS.out HB) HPR (HO.sl.mono (fun k hk h => h.2.2) (by decide)) HCL.out).mono ?_); rintro e w5 ⟨a5, c5, rfl, ho5, hb5⟩; dsimp only; refine gen_w (fun X2 hX => ?_); (replace r4 := Rw.ren hX (Rw.below r4 hb5)); (replace r7 := Rw.ren hX (Rw.below r7 hb5)); (replace HB := Go.Shr.Below.ren hX (bt HB hb5)); (replace HO : Own w.heap.size X2 4 1 (some ⟨gk, 0, none⟩) l.length l.length (bls (kpF l ps) l.length) := by (rw [hX]; exact HO.below hb5)); (have HO5 : Own (w.heap.size + 1) X2 40 4 a5 (rank (kpF l ps) l.length) c5 (fls (keptL (kpF l ps) l)) := by (rw [hX]; exact ho5.mono hr4)); clear hX ho5 hb5 hr4
      refine hK.out _ _ ?g1rs5 (fun hHeld => ?g1rt5)
      case g1rs5 => (try dsimp only); (exact ⟨r4.cell 0, r7.cell 0⟩)
      try dsimp only at hHeld
      clear hK K
      try simp only [Act.put, List.setIfInBounds_toArray, List.set_cons_zero, List.set_cons_succ]
      refine Go.Shr.wpAnyF_ready [5] (by kernel_rfl) (by simp) ?_
      refine Go.Shr.AllReadyF.last 5 (o := { dst := none, op := Go.Op.store 32 (Go.Operand.tmp 4) (Go.Operand.tmp 66), type := 0, pos := "project.go:51", after := #[{ on := 0, ground := Go.Ground.data }, { on := 4, ground := Go.Ground.chain }, { on := 0, ground := Go.Ground.phase }, { on := 1, ground := Go.Ground.textOnly Go.Departure.lateStores }, { on := 2, ground := Go.Ground.textOnly Go.Departure.lateStores }, { on := 3, ground := Go.Ground.phase }, { on := 4, ground := Go.Ground.textOnly Go.Departure.lateStoresUnsure }], guard := none }) rfl (by kernel_rfl) (fun K hK => ?g1ro6) ?g1rm6
      case g1rm6 => exact Go.Shr.AllReadyF.nil
      (have z0 := r4.cell 0); (simp only [List.getElem?_toArray, List.getElem?_cons_zero] at z0); (have zf := r4.frozen); (have zl := r4.lt); go_simp; clear z0 zf zl
      refine hK.out _ _ ?_
      clear hK K
      try simp only [Act.put, List.setIfInBounds_toArray, List.set_cons_zero, List.set_cons_succ]
      refine Go.Shr.wpAnyF_ready [6] (by kernel_rfl) (by simp) ?_
      refine Go.Shr.AllReadyF.last 6 (o := { dst := some 5, op := Go.Op.assign (Go.Operand.tmp 70), type := 25, pos := "project.go:51", after := #[{ on := 4, ground := Go.Ground.data }, { on := 5, ground := Go.Ground.chain }, { on := 0, ground := Go.Ground.phase }, { on := 1, ground := Go.Ground.phase }, { on := 2, ground := Go.Ground.phase }, { on := 3, ground := Go.Ground.phase }, { on := 4, ground := Go.Ground.phase }, { on := 5, ground := Go.Ground.phase }], guard := none }) rfl (by kernel_rfl) (fun K hK => ?g1ro7) ?g1rm7
      case g1rm7 => exact Go.Shr.AllReadyF.nil
      go_simp
      refine hK.out _ _ ?_
      clear hK K
      try simp only [Act.put, List.setIfInBounds_toArray, List.set_cons_zero, List.set_cons_succ]
      refine Go.Shr.wpAnyF_ready [7] (by kernel_rfl) (by simp) ?_
      refine Go.Shr.AllReadyF.last 7 (o := { dst := some 6, op := Go.Op.assign (Go.Operand.const (Go.Value.int Go.IntKind.i64 0)), type := 33, pos := "project.go:51", after := #[{ on := 6, ground := Go.Ground.chain }, { on := 0, ground := Go.Ground.phase }, { on := 1, ground := Go.Ground.phase }, { on := 2, ground := Go.Ground.phase }, { on := 3, ground := Go.Ground.phase }, { on := 4, ground := Go.Ground.phase }, { on := 5, ground := Go.Ground.phase }, { on := 6, ground := Go.Ground.phase }], guard := none }) rfl (by kernel_rfl) (fun K hK => ?g1ro8) ?g1rm8
      case g1rm8 => exact Go.Shr.AllReadyF.nil
      go_simp
      refine hK.out _ _ ?_
      clear hK K
      try simp only [Act.put, List.setIfInBounds_toArray, List.set_cons_zero, List.set_cons_succ]
      refine Go.Shr.wpAnyF_done (by kernel_rfl) ?_
      have q0 := (r4.set 0 (.slice (some ⟨gk, 0, none⟩) l.length l.length)).cell 0
      simp only [List.setIfInBounds_toArray, List.set_cons_zero, List.getElem?_toArray, List.getElem?_cons_zero] at q0
      go_wp2_with fail
      simp only [Exit.jump]
      refine bodyPost_ret (v := .tuple #[.slice (some ⟨gk, 0, none⟩) l.length l.length, .slice a5 (rank (kpF l ps) l.length) c5, .int .i64 0]) (by simp [results, Try.results14, go_sem, q0]) rfl ?_
      exact ⟨HB.setCell (p := ⟨w.heap.size, 0, none⟩) (Nat.le_refl _) _, .inl ⟨HALL.out, _, _, _, _, rfl, HO.setCell (p := ⟨w.heap.size, 0, none⟩) (fun k ⟨_, _, e⟩ => by cases e; exact fun e => HNE.out.1 e.symm) _, (HO5.setBelow (p := ⟨w.heap.size, 0, none⟩) (Nat.lt_succ_self _) _).mono (Nat.le_succ _)⟩⟩
end Go.Proofs.Ytgpffcgkfgiodaa
