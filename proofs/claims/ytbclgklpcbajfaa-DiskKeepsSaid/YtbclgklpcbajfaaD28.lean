/- DiskKeeps' walk: its loop of acts (printed by keeps.py). -/
import Derived.Test.YtbclgklpcbajfaaD27
namespace Go.Proofs.Ytbclgklpcbajfaa
open Go.RowKit
set_option linter.unusedSimpArgs false
set_option linter.unusedVariables false

theorem wrong_two {A : ADisk} {n : Nat} (h : Calm A n) {m : Int} {s : ByteArray} (hw : ¬ writeE A m s = 0) : writeE A m s = 2 := by
  have := h.wrote m s
  split at this
  · exact absurd this hw
  · exact this

set_option maxHeartbeats 16000000 in
set_option maxRecDepth 100000 in
theorem keeps_law (v : Value) (l : List Deed) (blk : Int) (w : World) (h : Deeds w v l) :
    Calls Try.prog 5 #[v, .int .i64 blk] w fun e w' => e = .returned (.bool true) ∧ New w w' := by
  have H := hid h
  obtain ⟨gp, gc, rfl, g1, g2, _⟩ := h
  unfold maxLen at g2
  cases hf : fewB l with
  | false =>
    go_enter Try.func5, Try.ntmps5
    go_wp2_with fail
    refine (few_any _ l _ H.out).mono ?_
    rintro e w' ⟨rfl, rfl⟩
    rw [hf]
    go_wp2_with fail
    refine (awake_any _).mono ?_
    rintro e w' ⟨rfl, hn⟩
    go_wp2
    go_ret
    exact ⟨rfl, hn⟩
  | true =>
    have hl : l.length ≤ 40 := by simp [fewB] at hf; omega
    go_enter Try.func5, Try.ntmps5
    go_wp2_with fail
    refine (few_any _ l _ H.out).mono ?_
    rintro e w' ⟨rfl, rfl⟩
    rw [hf]
    go_wp2_with fail
    refine (new_any _).mono ?_
    rintro e w1 ⟨rfl, hw1⟩
    have g1' := (Group.nil (New.refl w)).made
    rw [← hw1] at g1'
    have G1 := hid g1'
    clear hw1 g1'
    go_wp2_with fail
    refine (new_any _).mono ?_
    rintro e w2 ⟨rfl, hw2⟩
    have g2' := G1.out.made
    rw [← hw2] at g2'
    have S2 : Hid (Keeping w w2 w.heap.size w1.heap.size none newA none newA 0) := hid ⟨g2'.rot, calm_new, rfl, rfl, rfl⟩
    clear hw2 g2' G1
    go_wp2
    go_loopw [6, 7, 8, 9, 10, 11, 12, 13, 14] (fun fl i _ _ _ _ _ _ _ wr => ∃ (j c : Nat) (oc : Option Nat) (C : ADisk) (ow : Option Nat) (A : ADisk), j ≤ l.length ∧ i = .int .i64 j ∧ fl = .pointer (some ⟨c, 0, none⟩) ∧ Hid (Keeping w wr w.heap.size c oc C ow A j)) (fun _ i _ _ _ _ _ _ _ _ => l.length - (intOf i).toNat)
    case atStart => exact ⟨0, _, none, _, none, _, Nat.zero_le _, rfl, rfl, S2⟩
    case round =>
      clear S2
      obtain ⟨j, c, oc, C, ow, A, hj, rfl, rfl, hT⟩ := hrel
      by_cases hlt : j < l.length
      · obtain ⟨b, o, rfl, hb, sp, sc, kp, kc, hact⟩ := H.out.at hlt
        obtain ⟨c0, c1, c2, c3, c4, hs, _, hold, _, ⟨s1, s2⟩, k1, k2⟩ := hact wr hT.out.grp.new
        have HOLD := hid hold
        have HS := hid hs
        have hbw : b < wr.heap.size := Nat.lt_of_lt_of_le hb hT.out.grp.new.size
        clear hs hold hact
        generalize hx : l[j] = x at *
        clear hx
        have HC := hid hT.out.calm
        have G1 := hid (hT.out.grp.newer ((New.refl wr).alloc #[.int .i64 x.kind, .int .i64 x.block, .int .i64 x.n, .slice sp x.bytes.size sc, .slice kp x.keep.length kc] 37))
        by_cases hbb : x.block = blk
        · have tb : (x.block != blk) = false := by simp [hbb]
          have HBB := hid hbb
          clear hbb
          go_wp2_with fail
          refine (write_any w.heap.size ow A x.block _ x.bytes _ G1.out.head.disk (RowAt.new HS.out ((New.refl wr).alloc _ _)) (fun h0 k hk => Nat.ne_of_lt (HOLD.out h0 k hk)) ?_ ?_ ?_).mono ?_
          · have := HC.out.falls; omega
          · have := HC.out.acts; omega
          · have := HC.out.waits; omega
          intro e w3 h3
          obtain ⟨ow3, rfl, g3, ht3⟩ := G1.out.moved h3
          have G3 := hid g3
          have ml3 : ∀ o, w3.cell? ⟨wr.heap.size, o, none⟩ = (#[Value.int .i64 x.kind, .int .i64 x.block, .int .i64 x.n, .slice sp x.bytes.size sc, .slice kp x.keep.length kc] : Array Value)[o]? := fun o => by
            rw [World.cell?_of_block (ht3.block wr.heap.size (by simp) (fun hk => by have := hT.out.grp.head.disk.its_lt hk; omega))]
            exact cell_made wr _ 37 o
          have HT3 := hid ht3
          clear h3 g3 ht3
          by_cases hE : writeE A x.block x.bytes = 0
          · rw [hE]
            clear hE
            by_cases e3 : (IntKind.u64.wrap x.kind).tmod 4 = 0
            · have t3 : ((IntKind.u64.wrap x.kind).tmod 4 == 0) = true := by simp [e3]
              clear e3
              go_wp2_with fail
              refine (flush_any w.heap.size ow3 (writeA A x.block x.bytes) _ G3.out.head.disk ?_ ?_ ?_).mono ?_
              · have := (writeA_calm HC.out x.block x.bytes).falls; omega
              · have := (writeA_calm HC.out x.block x.bytes).acts; omega
              · have := (writeA_calm HC.out x.block x.bytes).waits; omega
              rw [(writeA_calm HC.out x.block x.bytes).act]
              intro e w4 h4
              obtain ⟨ow4, rfl, g4, _⟩ := G3.out.moved h4
              have G4 := hid g4
              have HF := hid ((writeA_calm HC.out x.block x.bytes).flush)
              clear h4 g4 G3 ml3
              go_wp2_with fail
              refine (copy_any w.heap.size ow4 _ _ G4.out.head.disk ?_).mono ?_
              · have := HF.out.waits; omega
              intro e w5 h5
              obtain ⟨c5, oc5, rfl, g5, _⟩ := G4.out.copied h5
              have G5 := hid (g5.rot.sub (List.Sublist.cons_cons _ (List.Sublist.cons _ (List.Sublist.refl _))))
              clear h5 g5 G4
              go_wp2
              go_roundw
              case rel =>
                have e := flushA_calm (writeA_calm HC.out x.block x.bytes)
                exact ⟨j + 1, c5, oc5, _, ow4, _, by omega, by go_num, rfl, hid ⟨G5.out, HF.out.mono (by omega), rfl, by rw [e], by rw [e]; exact (writeA_calm HC.out x.block x.bytes).down⟩⟩
              case measure => simp [intOf]; omega
            · have t3 : ((IntKind.u64.wrap x.kind).tmod 4 == 0) = false := by simp [e3]
              clear e3
              go_wp2
              go_roundw
              case rel => exact ⟨j + 1, c, oc, C, ow3, _, by omega, by go_num, rfl, hid ⟨G3.out, (writeA_calm HC.out x.block x.bytes).mono (by omega), by rw [writeA_safe HC.out]; exact hT.out.safe, hT.out.waits, hT.out.down⟩⟩
              case measure => simp [intOf]; omega
          · rw [wrong_two HC.out hE]
            clear hE
            by_cases e3 : (IntKind.u64.wrap x.kind).tmod 4 = 0
            · have t3 : ((IntKind.u64.wrap x.kind).tmod 4 == 0) = true := by simp [e3]
              clear e3
              go_wp2_with fail
              refine (flush_any w.heap.size ow3 (writeA A x.block x.bytes) _ G3.out.head.disk ?_ ?_ ?_).mono ?_
              · have := (writeA_calm HC.out x.block x.bytes).falls; omega
              · have := (writeA_calm HC.out x.block x.bytes).acts; omega
              · have := (writeA_calm HC.out x.block x.bytes).waits; omega
              rw [(writeA_calm HC.out x.block x.bytes).act]
              intro e w4 h4
              obtain ⟨ow4, rfl, g4, _⟩ := G3.out.moved h4
              have G4 := hid g4
              have HF := hid ((writeA_calm HC.out x.block x.bytes).flush)
              clear h4 g4 G3 ml3
              go_wp2_with fail
              refine (copy_any w.heap.size ow4 _ _ G4.out.head.disk ?_).mono ?_
              · have := HF.out.waits; omega
              intro e w5 h5
              obtain ⟨c5, oc5, rfl, g5, _⟩ := G4.out.copied h5
              have G5 := hid (g5.rot.sub (List.Sublist.cons_cons _ (List.Sublist.cons _ (List.Sublist.refl _))))
              clear h5 g5 G4
              go_wp2
              go_roundw
              case rel =>
                have e := flushA_calm (writeA_calm HC.out x.block x.bytes)
                exact ⟨j + 1, c5, oc5, _, ow4, _, by omega, by go_num, rfl, hid ⟨G5.out, HF.out.mono (by omega), rfl, by rw [e], by rw [e]; exact (writeA_calm HC.out x.block x.bytes).down⟩⟩
              case measure => simp [intOf]; omega
            · have t3 : ((IntKind.u64.wrap x.kind).tmod 4 == 0) = false := by simp [e3]
              clear e3
              go_wp2
              go_roundw
              case rel => exact ⟨j + 1, c, oc, C, ow3, _, by omega, by go_num, rfl, hid ⟨G3.out, (writeA_calm HC.out x.block x.bytes).mono (by omega), by rw [writeA_safe HC.out]; exact hT.out.safe, hT.out.waits, hT.out.down⟩⟩
              case measure => simp [intOf]; omega
        · have tb : (x.block == blk) = false := by simp [hbb]
          have HNE := hid hbb
          clear hbb
          go_wp2_with fail
          refine (read_any w.heap.size ow A blk _ G1.out.head.disk HC.out.small ?_).mono ?_
          · have := HC.out.waits; omega
          rintro e w2 ⟨v2, rfl, hv2, hn2⟩
          obtain ⟨⟨p2, k2, rfl, _, _, _⟩, _⟩ := id hv2
          have ml2 := hn2.made.1
          have G2 := hid (G1.out.newer hn2)
          have HV2 := hid hv2
          have HN2 := hid hn2
          clear hv2 hn2

          go_wp2_with fail
          refine (write_any w.heap.size ow A x.block _ x.bytes _ G2.out.head.disk (RowAt.new HS.out (((New.refl wr).alloc _ _).trans HN2.out)) (fun h0 k hk => Nat.ne_of_lt (HOLD.out h0 k hk)) ?_ ?_ ?_).mono ?_
          · have := HC.out.falls; omega
          · have := HC.out.acts; omega
          · have := HC.out.waits; omega
          intro e w3 h3
          obtain ⟨ow3, rfl, g3, ht3⟩ := G2.out.moved h3
          have G3 := hid g3
          have ml3 : ∀ o, w3.cell? ⟨wr.heap.size, o, none⟩ = (#[Value.int .i64 x.kind, .int .i64 x.block, .int .i64 x.n, .slice sp x.bytes.size sc, .slice kp x.keep.length kc] : Array Value)[o]? := fun o => by
            rw [World.cell?_of_block (ht3.block wr.heap.size (by have := HN2.out.size; simp at this; omega) (fun hk => by have := hT.out.grp.head.disk.its_lt hk; omega))]
            exact ml2 o
          have HT3 := hid ht3
          clear h3 g3 ht3
          have HV3 := hid (HV2.out.turn HT3.out G2.out.head.disk.apart)
          clear ml2 G2 HV2
          go_wp2_with fail
          refine (read_any w.heap.size ow3 _ blk _ G3.out.head.disk (writeA_calm HC.out x.block x.bytes).small ?_).mono ?_
          · have := (writeA_calm HC.out x.block x.bytes).waits; omega
          rintro e w6 ⟨v6, rfl, hv6, hn6⟩
          rw [readB_write HC.out HNE.out] at hv6
          rw [readE_write HC.out]
          obtain ⟨⟨p6, k6, rfl, _, _, _⟩, _⟩ := id hv6
          have hlw : wr.heap.size < w3.heap.size := Nat.lt_of_lt_of_le (by have := HN2.out.size; simp at this; omega) HT3.out.size
          have ml6 : ∀ o, w6.cell? ⟨wr.heap.size, o, none⟩ = (#[Value.int .i64 x.kind, .int .i64 x.block, .int .i64 x.n, .slice sp x.bytes.size sc, .slice kp x.keep.length kc] : Array Value)[o]? := fun o => (hn6.cell _ _ hlw).trans (ml3 o)
          have kc6 := Bytes.convert (P := Try.prog) hv6.1 22 5 9 Try.underlying22 Try.underlying5 Try.underlying9
          have kc3 := Bytes.convert (P := Try.prog) (HV3.out.new hn6).1 22 5 9 Try.underlying22 Try.underlying5 Try.underlying9
          have G6 := hid (G3.out.newer hn6)
          clear G3 ml3 hv6 hn6 HV3 HT3
          have G3 := G6
          have ml3 := ml6
          clear G6 ml6
          by_cases hE : writeE A x.block x.bytes = 0
          · rw [hE]
            clear hE
            by_cases e3 : (IntKind.u64.wrap x.kind).tmod 4 = 0
            · have t3 : ((IntKind.u64.wrap x.kind).tmod 4 == 0) = true := by simp [e3]
              clear e3
              go_wp2_with fail
              refine (flush_any w.heap.size ow3 (writeA A x.block x.bytes) _ G3.out.head.disk ?_ ?_ ?_).mono ?_
              · have := (writeA_calm HC.out x.block x.bytes).falls; omega
              · have := (writeA_calm HC.out x.block x.bytes).acts; omega
              · have := (writeA_calm HC.out x.block x.bytes).waits; omega
              rw [(writeA_calm HC.out x.block x.bytes).act]
              intro e w4 h4
              obtain ⟨ow4, rfl, g4, _⟩ := G3.out.moved h4
              have G4 := hid g4
              have HF := hid ((writeA_calm HC.out x.block x.bytes).flush)
              clear h4 g4 G3 ml3
              go_wp2_with fail
              refine (copy_any w.heap.size ow4 _ _ G4.out.head.disk ?_).mono ?_
              · have := HF.out.waits; omega
              intro e w5 h5
              obtain ⟨c5, oc5, rfl, g5, _⟩ := G4.out.copied h5
              have G5 := hid (g5.rot.sub (List.Sublist.cons_cons _ (List.Sublist.cons _ (List.Sublist.refl _))))
              clear h5 g5 G4
              go_wp2
              go_roundw
              case rel =>
                have e := flushA_calm (writeA_calm HC.out x.block x.bytes)
                exact ⟨j + 1, c5, oc5, _, ow4, _, by omega, by go_num, rfl, hid ⟨G5.out, HF.out.mono (by omega), rfl, by rw [e], by rw [e]; exact (writeA_calm HC.out x.block x.bytes).down⟩⟩
              case measure => simp [intOf]; omega
            · have t3 : ((IntKind.u64.wrap x.kind).tmod 4 == 0) = false := by simp [e3]
              clear e3
              go_wp2
              go_roundw
              case rel => exact ⟨j + 1, c, oc, C, ow3, _, by omega, by go_num, rfl, hid ⟨G3.out, (writeA_calm HC.out x.block x.bytes).mono (by omega), by rw [writeA_safe HC.out]; exact hT.out.safe, hT.out.waits, hT.out.down⟩⟩
              case measure => simp [intOf]; omega
          · rw [wrong_two HC.out hE]
            clear hE
            by_cases e3 : (IntKind.u64.wrap x.kind).tmod 4 = 0
            · have t3 : ((IntKind.u64.wrap x.kind).tmod 4 == 0) = true := by simp [e3]
              clear e3
              go_wp2_with fail
              refine (flush_any w.heap.size ow3 (writeA A x.block x.bytes) _ G3.out.head.disk ?_ ?_ ?_).mono ?_
              · have := (writeA_calm HC.out x.block x.bytes).falls; omega
              · have := (writeA_calm HC.out x.block x.bytes).acts; omega
              · have := (writeA_calm HC.out x.block x.bytes).waits; omega
              rw [(writeA_calm HC.out x.block x.bytes).act]
              intro e w4 h4
              obtain ⟨ow4, rfl, g4, _⟩ := G3.out.moved h4
              have G4 := hid g4
              have HF := hid ((writeA_calm HC.out x.block x.bytes).flush)
              clear h4 g4 G3 ml3
              go_wp2_with fail
              refine (copy_any w.heap.size ow4 _ _ G4.out.head.disk ?_).mono ?_
              · have := HF.out.waits; omega
              intro e w5 h5
              obtain ⟨c5, oc5, rfl, g5, _⟩ := G4.out.copied h5
              have G5 := hid (g5.rot.sub (List.Sublist.cons_cons _ (List.Sublist.cons _ (List.Sublist.refl _))))
              clear h5 g5 G4
              go_wp2
              go_roundw
              case rel =>
                have e := flushA_calm (writeA_calm HC.out x.block x.bytes)
                exact ⟨j + 1, c5, oc5, _, ow4, _, by omega, by go_num, rfl, hid ⟨G5.out, HF.out.mono (by omega), rfl, by rw [e], by rw [e]; exact (writeA_calm HC.out x.block x.bytes).down⟩⟩
              case measure => simp [intOf]; omega
            · have t3 : ((IntKind.u64.wrap x.kind).tmod 4 == 0) = false := by simp [e3]
              clear e3
              go_wp2
              go_roundw
              case rel => exact ⟨j + 1, c, oc, C, ow3, _, by omega, by go_num, rfl, hid ⟨G3.out, (writeA_calm HC.out x.block x.bytes).mono (by omega), by rw [writeA_safe HC.out]; exact hT.out.safe, hT.out.waits, hT.out.down⟩⟩
              case measure => simp [intOf]; omega
      · obtain rfl : j = l.length := by omega
        have HC := hid hT.out.calm
        have hcw : A.waits.length ≤ 80 := by have := HC.out.waits; omega
        have G := hid hT.out.grp
        have HFS := hid (And.intro hT.out.safe (And.intro hT.out.waits hT.out.down))
        clear hT
        go_wp2_with fail
        refine (waiting_any w.heap.size ow A _ G.out.head.disk).mono ?_
        rintro e w2 ⟨rfl, rfl⟩
        obtain ⟨cs, hmk, hcs, hcf⟩ := make_bools wr A.waits.length (by omega)
        generalize hN : A.waits.length = N at *
        have HN := hid hN
        clear hN
        have hR0 : Raw (wr.alloc (.cells cs 4)) wr.heap.size 4 N (fun i => .bool (decide (i < 0))) := ⟨cs, World.alloc_heap_new wr _, hcs, fun i hi => by rw [hcf i hi]; rfl⟩
        have S3 : Hid (Raw (wr.alloc (.cells cs 4)) wr.heap.size 4 N (fun i => .bool (decide (i < 0))) ∧ Turn (· = wr.heap.size) (wr.alloc (.cells cs 4)) (wr.alloc (.cells cs 4))) := hid ⟨hR0, Turn.refl _ _⟩
        clear hcs hcf hR0
        go_wp2
        clear hmk
        obtain ⟨ws, rfl⟩ : ∃ ws : World, ws = wr := ⟨_, rfl⟩
        obtain ⟨wo, hwo⟩ : ∃ wo : World, wo = ws.alloc (.cells cs 4) := ⟨_, rfl⟩
        rw [← hwo] at S3
        have HWO := hid hwo
        generalize hgg : ws.heap.size = g at *
        have HGG := hid hgg
        rw [← hwo]
        clear hwo hgg
        go_loopw [16] (fun i wq => ∃ k : Nat, k ≤ N ∧ i = .int .i64 k ∧ Hid (Raw wq g 4 N (fun i => .bool (decide (i < k))) ∧ Turn (· = g) wo wq)) (fun i _ => N - (intOf i).toNat)
        case atStart => exact ⟨0, Nat.zero_le _, rfl, S3⟩
        case round =>
          clear S3
          obtain ⟨k, hk, rfl, hR⟩ := hrel
          by_cases hlt : k < N
          · have ck := hR.out.1.cell k hlt
            have zk := hR.out.1.frozen k
            have hgl := hR.out.1.lt
            go_wp2
            go_roundw
            case rel =>
              refine ⟨k + 1, by omega, by go_num, hid ⟨(hR.out.1.set k (.bool true)).same fun i hi => ?_, hR.out.2.setCell (p := ⟨g, k, none⟩) rfl _⟩⟩
              by_cases e : i = k
              · subst e; rw [upd_same]; simp
              · rw [upd_other _ _ e]; congr 1; simp; omega
            case measure => simp [intOf]; omega
          · obtain rfl : k = N := by omega
            have hgb : wr.heap[g]? ≠ none := by
              obtain ⟨x, e, _⟩ := hR.out.1
              rw [e]; simp
            obtain ⟨xg, hxg⟩ : ∃ x, wr.heap[g]? = some (.cells x 4 (0, 0)) := by
              obtain ⟨x, e, _⟩ := hR.out.1
              exact ⟨x, e⟩
            have hxo : ∃ x, wo.heap[g]? = some (.cells x 4 (0, 0)) := ⟨cs, by rw [HWO.out, ← HGG.out]; exact World.alloc_heap_new ws _⟩
            have hbl : Bools wr (.slice (some ⟨g, 0, none⟩) k k) (List.replicate k true) := hR.out.1.bools (Nat.le_refl _) (by unfold maxLen; omega) _ (by simp) (fun i hi => by simp at hi; simp [hi])
            have G0 : Group w wo [(w.heap.size, ow, A), (c, oc, C)] := by rw [HWO.out]; exact G.out.newer ((New.refl ws).alloc cs 4)
            have G1 := hid (G0.beside hR.out.2 (fun k' c' fr' t' hk' e' => by
              subst hk'
              obtain ⟨x, hx⟩ := hxo
              rw [hx] at e'
              injection e' with e'
              injection e' with _ e2 _
              subst e2
              exact ⟨by decide, by decide, by decide⟩) (fun k' hk' hs => by
              have := G.out.new.size
              have := HGG.out
              omega))
            have HB := hid hbl
            have HXG := hid hxg
            clear hbl G0 hxo hgb hR G hxg
            go_wp2_with fail
            refine (copy_any w.heap.size ow A _ G1.out.head.disk (by rw [HN.out]; omega)).mono ?_
            intro e w5 h5
            obtain ⟨k1, o1, rfl, g5, n5⟩ := G1.out.copied h5
            have G5 := hid g5.rot
            clear h5 g5 G1
            go_wp2_with fail
            refine (copy_any w.heap.size ow A _ G5.out.head.disk (by rw [HN.out]; omega)).mono ?_
            intro e w6 h6
            obtain ⟨k2, o2, rfl, g6, n6⟩ := G5.out.copied h6
            have G6 := hid g6.rot
            clear h6 g6 G5
            go_wp2_with fail
            refine (copy_any w.heap.size ow A _ G6.out.head.disk (by rw [HN.out]; omega)).mono ?_
            intro e w7 h7
            obtain ⟨k3, o3, rfl, g7, n7⟩ := G6.out.copied h7
            have G7 := hid g7.rot.drop.rot
            have HNW := hid ((n5.trans n6).trans n7)
            clear h7 g7 G6 n5 n6 n7
            go_wp2_with fail
            have hgx : w7.heap[g]? = some (.cells xg 4 (0, 0)) := by
              rw [HNW.out.block g (Array.getElem?_eq_some_iff.1 HXG.out).1]; exact HXG.out
            refine (crash_any k1 o1 A _ (List.replicate k true) 340 _ G7.out.head.disk HC.out.small (by rw [HC.out.falls]; decide) (by rw [HN.out]; omega) (RowAt.new HB.out HNW.out) (fun _ g' hg' e => ?_) (by decide)).mono ?_
            · simp only [Value.ownBlock, Option.some.injEq] at hg'
              subst hg' e
              obtain ⟨y, hy⟩ := G7.out.head.disk.base
              exact types_ne hgx hy (by decide)
            intro e w8 h8
            obtain ⟨o8, rfl, g8, _⟩ := G7.out.moved h8
            have G8 := hid g8.rot
            clear h8 g8 G7 hgx HXG HB
            go_wp2_with fail
            refine (crash_any k2 o2 A _ [] 0 _ G8.out.head.disk HC.out.small (by rw [HC.out.falls]; decide) (by rw [HN.out]; omega) ⟨none, 0, rfl, Nat.le_refl _, by decide, fun h => absurd h (by decide)⟩ (fun h => absurd h (by decide)) (by decide)).mono ?_
            intro e w9 h9
            obtain ⟨o9, rfl, g9, _⟩ := G8.out.moved h9
            have G9 := hid g9.rot
            clear h9 g9 G8
            go_wp2_with fail
            refine (flush_any k3 o3 A _ G9.out.head.disk (by rw [HC.out.falls]; decide) (by have := HC.out.acts; omega) (by rw [HN.out]; omega)).mono ?_
            rw [HC.out.act]
            intro e w10 h10
            obtain ⟨o10, rfl, g10, _⟩ := G9.out.moved h10
            have G10 := hid g10.rot.rot
            clear h10 g10 G9
            go_wp2_with fail
            refine (down_any k1 o8 _ _ G10.out.head.disk).mono ?_
            rintro e w11 ⟨rfl, rfl⟩
            rw [show (crashA A (List.replicate k true) 340).down = true from rfl]
            go_wp2_with fail
            refine (same_any k1 k3 o8 o10 _ _ _ G10.out.head.disk G10.out.drop.second.disk (Nat.zero_le _) (by rw [flushA_calm HC.out]; exact Nat.zero_le _)).mono ?_
            rintro e w12 ⟨x12, rfl, hx12, hn12⟩
            obtain rfl : x12 = false := by
              cases x12 with
              | false => rfl
              | true => exact absurd (hx12.1 rfl) (same_down HC.out _ _)
            have G12 := hid (G10.out.newer hn12)
            clear hx12 hn12 G10
            go_wp2_with fail
            refine (start_any k1 o8 _ _ G12.out.head.disk).mono ?_
            intro e w13 h13
            obtain ⟨rfl, g13, _⟩ := G12.out.back h13
            have G13 := hid g13.rot
            clear h13 g13 G12
            go_wp2_with fail
            refine (start_any k2 o9 _ _ G13.out.head.disk).mono ?_
            intro e w14 h14
            obtain ⟨rfl, g14, _⟩ := G13.out.back h14
            have G14 := hid g14.rot
            clear h14 g14 G13
            go_wp2_with fail
            refine (same_any k1 k3 o8 o10 (upA A (List.replicate k true) 340) _ _ G14.out.drop.second.disk G14.out.head.disk (Nat.zero_le _) (by rw [flushA_calm HC.out]; exact Nat.zero_le _)).mono ?_
            rintro e w15 ⟨x15, rfl, hx15, hn15⟩
            obtain rfl : x15 = true := hx15.2 (by rw [← HN.out]; exact same_kept HC.out)
            have G15 := hid (G14.out.newer hn15)
            clear hx15 hn15 G14
            go_wp2_with fail
            refine (same_any k2 c o9 oc (upA A [] 0) C _ G15.out.drop.drop.second.disk G15.out.second.disk (Nat.zero_le _) (by rw [HFS.out.2.1]; exact Nat.zero_le _)).mono ?_
            rintro e w16 ⟨x16, rfl, hx16, hn16⟩
            obtain rfl : x16 = true := hx16.2 (same_none HFS.out.1 HFS.out.2.1 HFS.out.2.2)
            have HN16 := hid (G15.out.new.trans hn16)
            clear hx16 hn16 G15
            go_wp2_with fail
            refine (awake_any _).mono ?_
            rintro e w17 ⟨rfl, hn⟩
            go_wp2
            go_ret
            exact ⟨rfl, HN16.out.trans hn⟩

end Go.Proofs.Ytbclgklpcbajfaa
