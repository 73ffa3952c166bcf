/- The specification's disk: Crash. -/
import Derived.Test.YtbclgklpcbajfaaD33
import Derived.Lib.MinMax
namespace Go.Proofs.Ytbclgklpcbajfaa
open Go.RowKit
set_option linter.unusedSimpArgs false
set_option linter.unusedVariables false

theorem crashTo_rest {l : List (Nat × ByteArray)} {keep : List Bool} {k : Nat} {s : Nat → ByteArray} {j : Nat} (hj : keep.length ≤ j) : ∀ n, crashTo l keep k s (j + n) = crashTo l keep k s j := by
  intro n
  induction n with
  | zero => rfl
  | succ n ih => rw [← Nat.add_assoc, crashTo_skip (by rw [List.getD_eq_getElem?_getD, List.getElem?_eq_none (by omega)]; rfl), ih]

theorem RLay.fall {w1 wr : World} {b : Nat} {ow : Option Nat} {A : ADisk} {s : Nat → ByteArray} {v : Value} (h : RLay w1 wr b ow A s v) (n : Int) (hn : 0 ≤ n) : RLay w1 (wr.setCell ⟨b, 3124, none⟩ (.int .i64 n)) b ow { A with falls := n } s v := by
  obtain ⟨⟨f, h1, h2, h3⟩, h4⟩ := h
  have ht := Turn.setCell (S := (· = b)) (p := ⟨b, 3124, none⟩) (Turn.refl _ wr) rfl (.int .i64 n)
  have d := h2.turn ht (ref_ne h1 h2)
  refine ⟨⟨_, h1.set 3124 _, ?_, by rw [upd_other _ _ (by decide)]; exact h3⟩, h4.trans ht⟩
  constructor
  case safe => exact fun i h => by rw [upd_other _ _ (by omega)]; exact d.safe i h
  case own => rw [upd_other _ _ (by decide)]; exact d.own
  case blk => rw [upd_other _ _ (by decide)]; exact d.blk
  case armed => rw [upd_other _ _ (by decide)]; exact d.armed
  case down => rw [upd_other _ _ (by decide)]; exact d.down
  case acts => rw [upd_other _ _ (by decide)]; exact d.acts
  case falls => rw [upd_same]
  case inside => exact d.inside
  case armed0 => exact d.armed0
  case acts0 => exact d.acts0
  case falls0 => exact hn
/-- The waiting writes dropped, the disk down and not armed. -/
theorem RLay.fell {w1 wr : World} {b : Nat} {ow : Option Nat} {A : ADisk} {s : Nat → ByteArray} {v : Value} (h : RLay w1 wr b ow A s v) :
    RefAt (((wr.setCell ⟨b, 3120, none⟩ (.slice none 0 0)).setCell ⟨b, 3122, none⟩ (.bool true)).setCell ⟨b, 3121, none⟩ (.int .i64 0)) b none { A with safe := s, waits := [], down := true, armed := 0 } ∧
      Turn (its b ow) w1 (((wr.setCell ⟨b, 3120, none⟩ (.slice none 0 0)).setCell ⟨b, 3122, none⟩ (.bool true)).setCell ⟨b, 3121, none⟩ (.int .i64 0)) := by
  obtain ⟨⟨f, h1, h2⟩, h4⟩ := h.drop
  have ht := ((Turn.refl (· = b) (wr.setCell ⟨b, 3120, none⟩ (.slice none 0 0))).setCell (p := ⟨b, 3122, none⟩) rfl (.bool true)).setCell (p := ⟨b, 3121, none⟩) rfl (.int .i64 0)
  exact ⟨RefAt.laid h1 h2 ((h1.set 3122 _).set 3121 _) ht (fun i hi => by rw [upd_other _ _ (by omega), upd_other _ _ (by omega)]) rfl rfl (by simp [upd]) (by simp [upd]) (by simp [upd, h2.acts]) (by simp [upd, h2.falls]) zero_armed h2.acts0 h2.falls0, h4.trans (ht.mono fun k _ h => .inl h)⟩

set_option maxHeartbeats 8000000 in
set_option maxRecDepth 100000 in
theorem refCrash_any (b : Nat) (ow : Option Nat) (A : ADisk) (v : Value) (keep : List Bool) (kk : Int) (w : World) (h : RefAt w b ow A) (hs : Small A) (hb : A.falls ≤ 1000000000) (hb3 : A.waits.length ≤ 1000000000)
    (hv : Bools w v keep) (hvb : 0 < keep.length → ∀ g, v.ownBlock = some g → g ≠ b) (hk63 : kk ≤ 2 ^ 63 - 1) :
    Calls Try.prog 73 #[.pointer (some ⟨b, 0, none⟩), v, .int .i64 kk] w (RefMoved b ow (.tuple #[]) { crashA A keep kk with armed := 0 } w) := by
  obtain ⟨f, hr, hd⟩ := h
  have c1 := hr.cell 3120 (by omega)
  obtain ⟨q, k, ew, _⟩ := ref_slice hd
  rw [ew] at c1
  have hlt := hr.lt
  obtain ⟨p, c, rfl, g1, g2, g3⟩ := hv
  unfold maxLen at g2
  obtain ⟨K, hK⟩ : ∃ K : Nat, max 0 kk = (K : Int) := ⟨(max 0 kk).toNat, by omega⟩
  have HK : Hid ((max kk 0).toNat = K) := hid (by omega)
  have hKb : (K : Int) ≤ 2 ^ 63 - 1 := by omega
  have HF := hid hd.falls
  have HFB := hid hb
  have HF0 := hid hd.falls0
  have HDN := hid hd.down
  have HS : Hid (RLay w w b ow A (crashTo A.waits keep K A.safe 0) (.slice q A.waits.length k)) := hid ⟨⟨f, hr, hd, ew⟩, Turn.refl _ _⟩
  have HSM := hid hs
  have HIN := hid hd.inside
  have G3 := hid g3
  have HVB := hid hvb
  clear hr hd ew g3 hvb hs hb hk63
  go_enter Try.func73, Try.ntmps73
  go_wp2
  go_loopw [6, 7, 8] (fun i _ _ wr => ∃ j : Nat, j ≤ A.waits.length ∧ i = .int .i64 j ∧ Hid (RLay w wr b ow A (crashTo A.waits keep K A.safe j) (.slice q A.waits.length k))) (fun i _ _ _ => A.waits.length - (intOf i).toNat)
  case atStart => exact ⟨0, Nat.zero_le _, rfl, HS⟩
  case round =>
    obtain ⟨j, hj, rfl, hL⟩ := hrel
    clear HS
    obtain ⟨⟨f2, hr2, hi2, e2⟩, ht2⟩ := hL.out
    have cw := hr2.cell 3120 (by omega)
    rw [e2] at cw
    have hbl := hr2.lt
    by_cases hgo : j < A.waits.length ∧ j < keep.length
    · obtain ⟨hlt2, hkj⟩ := hgo
      obtain ⟨_, g, rfl, hg, d0, d1⟩ := hi2.at e2 hlt2
      have hin := hi2.inside _ (List.getElem_mem hlt2)
      simp only at d0 d1 hin
      have cb := hr2.cell A.waits[j].1 (by omega)
      have zb := hr2.frozen A.waits[j].1
      rw [hi2.safe _ hin] at cb
      simp only at cb
      obtain ⟨kb, ko, rfl, hkb, hkc⟩ := G3.out (by omega)
      have hkne : kb ≠ b := HVB.out (by omega) kb rfl
      have hkl : kb < wr.heap.size := Nat.lt_of_lt_of_le hkb hL.out.turn.size
      have ck : wr.cell? ⟨kb, ko + j, none⟩ = some (.bool keep[j]) := by
        rw [World.cell?_of_block (w := w) (a := ⟨kb, ko + j, none⟩) (hL.out.turn.block kb hkb hkne)]
        exact Bools.at hkc hkj
      clear hr2 hi2 e2 ht2 hkc
      cases hkv : keep[j] with
      | false =>
        rw [hkv] at ck
        have HKV := hid (show keep.getD j false = false by simp [hkj, hkv])
        clear hkv
        go_wp2
        go_roundw
        case rel =>
          refine ⟨j + 1, by omega, by go_num, hid ?_⟩
          rw [crashTo_skip HKV.out]
          exact hL.out.new ((New.refl wr).alloc _ _)
        case measure => simp [intOf]; omega
      | true =>
        rw [hkv] at ck
        have HKV := hid (show keep.getD j false = true by simp [hkj, hkv])
        clear hkv
        have hxs : A.waits[j].2.size ≤ 340 := HSM.out.2 _ (List.getElem_mem hlt2)
        have HLT := hid hlt2
        by_cases hlast : j + 1 = A.waits.length
        · have q1 : decide ((j : Int) < (A.waits.length : Int) - 1) = false := by simp; omega
          have HTK := hid (crashTo_last (k := K) (s := A.safe) hlt2 HKV.out hlast)
          by_cases hfit : A.waits[j].2.size ≤ K
          · have HTB : Hid (tornB (crashTo A.waits keep K A.safe j A.waits[j].1) A.waits[j].2 K = A.waits[j].2) := hid (by simp only [tornB, if_pos hfit])
            have HN := hid ((hL.out.next hin A.waits[j].2).new ((New.refl _).alloc #[.int .i64 A.waits[j].1, .string A.waits[j].2] 143).drew)
            clear hL
            generalize hx : A.waits[j] = x at *
            clear hx
            go_wp2
            go_region
            all_goals
              go_wp2
              go_roundw
              case rel =>
                refine ⟨j + 1, by omega, by go_num, hid ?_⟩
                rw [HTK.out, HTB.out]
                exact HN.out
              case measure => simp [intOf]; omega
          · have q2 : decide ((A.waits[j].2.size : Int) ≤ (K : Int)) = false := by simp; omega
            have q3 : decide (A.waits[j].2.size ≤ K) = false := by simp; omega
            have HFIT := hid hfit
            have hKlt : K ≤ A.waits[j].2.size := by omega
            have hos : (crashTo A.waits keep K A.safe j A.waits[j].1).size ≤ 340 := crashTo_small HSM.out.1 HSM.out.2 HIN.out j _ hin
            clear hfit
            have HN := hid (fun n => (hL.out.new (((New.refl wr).alloc #[.int .i64 A.waits[j].1, .string A.waits[j].2] 143).drewN n)).next hin (mixed A.waits[j].2 (crashTo A.waits keep K A.safe j A.waits[j].1) K))
            have HTB : Hid (tornB (crashTo A.waits keep K A.safe j A.waits[j].1) A.waits[j].2 K = mixed A.waits[j].2 (crashTo A.waits keep K A.safe j A.waits[j].1) K) := hid (by simp only [tornB, if_neg HFIT.out]; rfl)
            clear hL
            generalize hol : crashTo A.waits keep K A.safe j A.waits[j].1 = old at *
            clear hol
            generalize hx : A.waits[j] = x at *
            clear hx
            have hm : (min (K : Int) (old.size : Int)).toNat = min K old.size := by omega
            go_wp2
            go_quiet (fail)
            go_wp2
            go_region
            all_goals
              go_wp2
              go_roundw
              case rel =>
                refine ⟨j + 1, by omega, by go_num, hid ?_⟩
                rw [HTK.out, HTB.out]
                exact HN.out _
              case measure => simp [intOf]; omega
        · have HTK := hid (crashTo_keep (k := K) (s := A.safe) hlt2 HKV.out hlast)
          have HN := hid ((hL.out.next hin A.waits[j].2).new ((New.refl _).alloc #[.int .i64 A.waits[j].1, .string A.waits[j].2] 143).drew)
          have hlast2 : j + 1 < A.waits.length := by omega
          have q1 : decide ((j : Int) < (A.waits.length : Int) - 1) = true := by simp; omega
          clear hL
          generalize hx : A.waits[j] = x at *
          clear hx
          go_wp2
          go_region
          all_goals
            go_wp2
            go_roundw
            case rel =>
              refine ⟨j + 1, by omega, by go_num, hid ?_⟩
              rw [HTK.out]
              exact HN.out
            case measure => simp [intOf]; omega
    · have hgo2 : A.waits.length ≤ j ∨ keep.length ≤ j := by omega
      have hj2 : crashTo A.waits keep K A.safe j = crashTo A.waits keep K A.safe A.waits.length := by
        rcases hgo2 with h | h
        · rw [show j = A.waits.length by omega]
        · have := crashTo_rest (l := A.waits) (k := K) (s := A.safe) h (A.waits.length - j)
          rw [show j + (A.waits.length - j) = A.waits.length by omega] at this
          exact this.symm
      have z0 := hr2.frozen 3120
      have cd := hr2.cell 3122 (by omega)
      have zd := hr2.frozen 3122
      have ca := hr2.cell 3121 (by omega)
      have za := hr2.frozen 3121
      have cf := hr2.cell 3124 (by omega)
      have zf := hr2.frozen 3124
      rw [hi2.down] at cd
      rw [hi2.armed] at ca
      rw [hi2.falls] at cf
      simp only at cd ca cf
      have hfb := HFB.out
      have hf0 := HF0.out
      have e : (max kk 0).toNat = K := HK.out
      clear hr2 hi2 e2 ht2 hgo2
      have hgo3 : j < A.waits.length → ¬ j < keep.length := fun h1 h2 => hgo ⟨h1, h2⟩
      clear hgo
      cases hdn : A.down with
      | true =>
        rw [hdn] at cd
        have hfin : Hid (RefMoved b ow (.tuple #[]) { crashA A keep kk with armed := 0 } w (.returned (.tuple #[])) (((wr.setCell ⟨b, 3120, none⟩ (.slice none 0 0)).setCell ⟨b, 3122, none⟩ (.bool true)).setCell ⟨b, 3121, none⟩ (.int .i64 0))) := hid (by
          obtain ⟨r1, r2⟩ := hL.out.fell
          refine ⟨rfl, none, ?_, fun k h => (by cases h), r2⟩
          have : ({ crashA A keep kk with armed := 0 } : ADisk) = { A with safe := crashTo A.waits keep K A.safe j, waits := [], down := true, armed := 0 } := by
            simp only [crashA, fallA, hdn, if_true, e, hj2]
          rw [this]
          exact r1)
        clear hL hj2 hdn
        by_cases h1 : j < A.waits.length
        · have h2 := hgo3 h1
          clear hgo3
          go_wp2
          go_end0
          exact hfin.out
        · clear hgo3
          go_wp2
          go_end0
          exact hfin.out
      | false =>
        rw [hdn] at cd
        have hfin : Hid (RefMoved b ow (.tuple #[]) { crashA A keep kk with armed := 0 } w (.returned (.tuple #[])) ((((wr.setCell ⟨b, 3124, none⟩ (.int .i64 (A.falls + 1))).setCell ⟨b, 3120, none⟩ (.slice none 0 0)).setCell ⟨b, 3122, none⟩ (.bool true)).setCell ⟨b, 3121, none⟩ (.int .i64 0))) := hid (by
          obtain ⟨r1, r2⟩ := (hL.out.fall (A.falls + 1) (by omega)).fell
          refine ⟨rfl, none, ?_, fun k h => (by cases h), r2⟩
          have : ({ crashA A keep kk with armed := 0 } : ADisk) = { A with safe := crashTo A.waits keep K A.safe j, waits := [], down := true, armed := 0, falls := A.falls + 1 } := by
            simp only [crashA, fallA, hdn, e, hj2]
            simp
          rw [this]
          exact r1)
        clear hL hj2 hdn
        by_cases h1 : j < A.waits.length
        · have h2 := hgo3 h1
          clear hgo3
          go_wp2
          go_end0
          exact hfin.out
        · clear hgo3
          go_wp2
          go_end0
          exact hfin.out

end Go.Proofs.Ytbclgklpcbajfaa
