/- The walk of PoolFresh. -/
import Derived.Test.YtdccbceaajnajaaGreatG2
import Derived.Test.YtdccbceaajnajaaGreatS29
import Derived.Deep.QuietTactic
import Derived.BigQuiet
import Derived.IntWalk
namespace Go.Proofs.YtdccbceaajnajaaGreat
open Go.RowKit
set_option linter.unusedSimpArgs false
set_option linter.unusedVariables false

/-- What holds in front of the next call of the script. -/
structure Fresh (w wr : World) (x b tb pb rb rp N bm j : Nat) : Prop where
  all : ∃ ow ot os rw fo A T P l, Both w wr x b ow tb ot pb os rb rw rp fo A T P ∧ Fine N j A T P ∧ Sound A T P ∧ IMap wr bm l ∧ LastOk A P l ∧ l.length ≤ j
/-- The cells of the pair. -/
theorem x_cells {w0 w : World} {x b tb pb rb rp : Nat} {ow ot os rw fo : Option Nat} {A : ADisk} {T : ATape} {P : APool} (h : Both w0 w x b ow tb ot pb os rb rw rp fo A T P) :
    w.cell? ⟨x, 0, none⟩ = some (.pointer (some ⟨b, 0, none⟩)) ∧ w.cell? ⟨x, 1, none⟩ = some (.pointer (some ⟨tb, 0, none⟩)) ∧ w.cell? ⟨x, 2, none⟩ = some (.pointer (some ⟨pb, 0, none⟩)) :=
  ⟨cells_of h.pair 0, cells_of h.pair 1, cells_of h.pair 2⟩
theorem read_ok (b : Nat) (ow : Option Nat) (A : ADisk) (n : Nat) (w : World) (h : DiskAt w b ow A) (hs : Small A) (hb3 : A.waits.length ≤ 1000000000) (hd : A.down = false) (hn : n < 120) :
    Calls Tryz.prog 11 #[.pointer (some ⟨b, 0, none⟩), .int .i64 (n : Int)] w fun e w' => ∃ v, e = .returned (.tuple #[v, .int .i64 0]) ∧ Content w' v (vis A n) ∧ New w w' := by
  have h1 := read_any b ow A n w h hs hb3
  obtain ⟨h2, h3⟩ := read_vis hd hn
  rw [h2, h3] at h1
  exact h1
theorem vis_small {A : ADisk} (h : Small A) {n : Nat} (hn : n < 120) : (vis A n).size ≤ 340 := h.lay n (by omega)
/-- The map behind a call. -/
theorem last_but {A : ADisk} {T : ATape} {P : APool} {U : Used} {l : List (Int × Value)} {but : Option Nat} (h : LastOk A P l) (K : Keeps A T P U but) (hb : ∀ p ∈ l, ∀ t, but = some t → p.1 ≠ (t : Int)) : LastOk U.A U.P l := fun p hp => by
  obtain ⟨t, s, e1, e2, e3, e4, e5⟩ := h p hp
  refine ⟨t, s, e1, e2, e3, e4, K.view t s e2 (fun hx => hb p hp t hx e1) e5⟩
theorem filled_out {v u : Value} {s : ByteArray} {w' : World} (hb : Bytes w' v s) (h : (u = v ∧ 128 < s.size) ∨ (s.size ≤ 128 ∧ Content w' u (fillB s))) : ∃ p k c, u = .slice p k c ∧ Bytes w' (.slice p k c) (fillB s) := by
  have h2 : Bytes w' u (fillB s) := by
    rcases h with ⟨rfl, h⟩ | ⟨_, h⟩
    · unfold fillB
      rw [if_pos h]
      exact hb
    · exact h.1
  obtain ⟨p, c, e, h3⟩ := id h2
  exact ⟨p, _, c, e, e ▸ h2⟩
theorem fillB_size {s : ByteArray} (h : s.size ≤ 300) : (fillB s).size ≤ 1000 := by
  unfold fillB
  split
  · omega
  · rw [bytesOf_size, List.length_append, List.length_replicate]
    have : s.data.toList.length = s.size := by rw [← bytesOf_size, bytesOf_data]
    omega
theorem last_put {A : ADisk} {T : ATape} {P : APool} {U : Used} {l : List (Int × Value)} {m : Move} {t : Nat} (h : LastOk A P l) (K : Keeps A T P U (some t)) (ht : m.n = (t : Int)) (ht2 : t < 120) (hs : m.bytes.size ≤ 300) (hv : Views U.A U.P t (fillB m.bytes)) :
    LastOk U.A U.P (putL l m.n (.string (fillB m.bytes))) := fun p hp => by
  rcases putL_mem hp with rfl | ⟨h1, h2⟩
  · exact ⟨t, _, ht, ht2, rfl, fillB_size hs, hv⟩
  · obtain ⟨t', s, e1, e2, e3, e4, e5⟩ := h p h1
    refine ⟨t', s, e1, e2, e3, e4, K.view t' s e2 (fun hx => h2 ?_) e5⟩
    injection hx with hx
    rw [e1, ht, hx]
/-- What holds in front of the next page of the map. -/
structure Reading (w wr : World) (x b tb pb rp pc r bm N : Nat) (l : List (Int × Value)) (todo : List (Int × Value)) : Prop where
  all : ∃ ow ot A T os P oc C i, Twin w wr b ow tb ot A T pb os P pc oc C ∧ Fine N i A T P ∧ Fine 2 i A T C ∧ Sound A T P ∧ Sound A T C ∧ Clear P ∧ Clear C ∧ LastOk A P l ∧ LastOk A C l ∧ IRange wr r bm l todo ∧ i + todo.length ≤ 200 ∧
    wr.heap[x]? = some (.cells #[.pointer (some ⟨b, 0, none⟩), .pointer (some ⟨tb, 0, none⟩), .pointer (some ⟨pb, 0, none⟩), .pointer (some ⟨rp, 0, none⟩)] 43 (0, 0))
theorem fine_two {N i : Nat} {A : ADisk} {T : ATape} {P : APool} (F : Fine N i A T P) : Fine 2 i A T ⟨2, [], 0⟩ :=
  ⟨rfl, Nat.le_refl _, by decide, Nat.zero_le _, List.nodup_nil, fun p hp => (by cases hp), F.lim, F.recs, Nat.zero_le _⟩
theorem sound_two {A : ADisk} {T : ATape} {P : APool} (S : Sound A T P) : Sound A T ⟨2, [], 0⟩ :=
  ⟨S.quiet, S.forced, fun p hp => (by cases hp), S.disk, fun p hp => (by cases hp)⟩
/-- What lies on the disk of a page that all frames have clean. -/
theorem last_disk {A : ADisk} {T : ATape} {P : APool} {l : List (Int × Value)} (h : LastOk A P l) (S : Sound A T P) (hc : Clear P) : LastOk A ⟨2, [], 0⟩ l := fun p hp => by
  obtain ⟨t, s, e1, e2, e3, e4, e5⟩ := h p hp
  refine ⟨t, s, e1, e2, e3, e4, ⟨fun p hp => (by cases hp), fun _ => ?_⟩⟩
  by_cases hf : ∀ p ∈ P.frames, p.2.page ≠ t
  · exact e5.block hf
  · simp only [Classical.not_forall] at hf
    obtain ⟨q, hq, hqt⟩ := hf
    have hqt : q.2.page = t := Classical.not_not.1 hqt
    have h1 := S.clean q hq (hc q hq)
    rw [hqt] at h1
    rw [h1]
    exact e5.frame q hq hqt
theorem clear_dirty {P : APool} (h : Clear P) : dirtyOf P = [] := by
  apply List.eq_nil_iff_forall_not_mem.2
  intro n hn
  obtain ⟨p, hp, _, hd⟩ := mem_dirty.1 hn
  rw [h p hp] at hd
  cases hd
theorem pagesOf_length (P : APool) : (pagesOf P).length = P.frames.length := by simp [pagesOf]
theorem seven {a b c d e f g : Prop} (h1 : a ∧ b ∧ c) (h2 : d ∧ e ∧ f ∧ g) : a ∧ b ∧ c ∧ d ∧ e ∧ f ∧ g := ⟨h1.1, h1.2.1, h1.2.2, h2.1, h2.2.1, h2.2.2.1, h2.2.2.2⟩

set_option maxHeartbeats 8000000 in
set_option maxRecDepth 100000 in
theorem fresh_law (fr : Int) (v : Value) (l : List Move) (w : World) (hf0 : 0 ≤ fr) (hf1 : fr ≤ 255) (h : Moves w v l) :
    Calls Tryz.prog 3 #[.int .u8 fr, v] w fun e w' => e = .returned (.bool true) ∧ New w w' := by
  have H := hid h
  obtain ⟨gp, gc, rfl, g1, g2, g3⟩ := h
  have G3 := hid g3
  clear g3
  unfold maxLen at g2
  cases hf : fewB l with
  | false =>
    go_enter Tryz.func3, Tryz.ntmps3
    go_wp2_with fail
    refine (few_any _ l _ H.out).mono ?_
    rintro e w' ⟨rfl, rfl⟩
    rw [hf]
    go_wp2_with fail
    refine (pawake_any _).mono ?_
    rintro e w' ⟨rfl, hn⟩
    go_wp2
    go_ret
    exact ⟨rfl, hn⟩
  | true =>
    obtain ⟨hl, hb3⟩ := fewB_yes hf
    have HB3 := hid hb3
    clear hb3
    obtain ⟨N, hN, hN2, hN16⟩ : ∃ N : Nat, 2 + fr % 15 = (N : Int) ∧ 2 ≤ N ∧ N ≤ 16 := ⟨(2 + fr % 15).toNat, by omega, by omega, by omega⟩
    have HN := hid hN
    clear hN
    have HN2 := hid (And.intro hN2 hN16)
    clear hN2 hN16
    have hmm := @run_makeMap Tryz.prog
    go_enter Tryz.func3, Tryz.ntmps3
    go_wp2_with fail
    refine (few_any _ l _ H.out).mono ?_
    rintro e w' ⟨rfl, rfl⟩
    rw [hf]
    go_wp2_with fail
    rw [HN.out]
    refine (newPair_any N _ HN2.out.1 HN2.out.2).mono ?_
    rintro e w1 ⟨x, b, ow, tb, ot, pb, rb, rp, rfl, B1⟩
    have HBM : Hid (w.heap.size ≤ w1.heap.size) := hid B1.sys.log.new.size
    have G1 : Hid (Fresh w (w1.alloc (.map #[] 0)) x b tb pb rb rp N w1.heap.size 0) := hid ⟨⟨_, _, _, _, _, _, _, _, [], B1.newer (Below.alloc (New.refl w1) (Nat.le_refl _) _), fine_new N HN2.out.1 HN2.out.2, sound_new N, imap_made w1, (fun p hp => (by cases hp)), Nat.le_refl _⟩⟩
    clear B1
    go_wp2_with fail
    generalize w1.alloc (.map #[] 0) = w2 at *
    generalize w1.heap.size = bm at *
    go_loopw [8, 9, 10, 11, 12, 13, 14, 15, 16, 17] (fun i _ _ _ _ _ _ _ _ _ wr => ∃ j : Nat, j ≤ l.length ∧ i = .int .i64 j ∧ Hid (Fresh w wr x b tb pb rb rp N bm j)) (fun i _ _ _ _ _ _ _ _ _ _ => l.length - (intOf i).toNat)
    case atStart => exact ⟨0, Nat.zero_le _, rfl, G1⟩
    case round =>
      clear G1
      obtain ⟨j, hj, rfl, hG⟩ := hrel
      obtain ⟨ow, ot, os, rw, fo, A, T, P, lm, hB, hF, hS, hM, hLO, hlm⟩ := hG.out.all
      by_cases hlt : j < l.length
      · obtain ⟨b0, o0, rfl, hb0, hact⟩ := G3.out (by omega)
        obtain ⟨d0, d1, d2, ⟨u, d3, hbs⟩, hmn⟩ := hact j hlt
        have hms := HB3.out _ (List.getElem_mem hlt)
        clear hact
        generalize l[j] = m at *
        obtain ⟨q, cu, rfl, s1, s2, _⟩ := id hbs
        unfold maxLen at s2
        have hnw := hB.sys.log.new
        have c0 := (hnw.cell b0 _ hb0).trans d0
        have c1 := (hnw.cell b0 _ hb0).trans d1
        have c2 := (hnw.cell b0 _ hb0).trans d2
        have c3 := (hnw.cell b0 _ hb0).trans d3
        have HBS := hid hbs
        have HMS := hid hms
        have HMN := hid hmn
        have HB := hid hB
        have HF := hid hF
        have HS := hid hS
        have HM := hid hM
        have HLO := hid hLO
        clear d0 d1 d2 d3 hbs hms hmn hnw hB hF hG hS hM hLO
        by_cases h6 : (IntKind.u64.wrap m.kind).tmod 7 = 6
        · have t6 : ((IntKind.u64.wrap m.kind).tmod 7 == 6) = true := by rw [h6]; rfl
          clear h6
          go_wp2
          go_roundw
          case rel => exact ⟨j + 1, by omega, by go_num, hid ⟨⟨_, _, _, _, _, _, _, _, _, HB.out.newer ((New.refl wr).alloc _ _), HF.out.mono (by omega), HS.out, HM.out.keep (Below.block ((New.refl wr).alloc _ _) bm HM.out.lt), HLO.out, by omega⟩⟩⟩
          case measure => simp [intOf]; omega
        · have t6 : ((IntKind.u64.wrap m.kind).tmod 7 == 6) = false := by simpa using h6
          have H6 : Hid (kindOf m ≠ 6) := hid h6
          clear h6
          go_wp2_with fail
          have na := (New.refl wr).alloc #[.int .i64 m.kind, .int .i64 m.n, .int .i64 m.stamp, .slice q m.bytes.size cu] 31
          have HQB := hid (heap_alloc_new wr (.cells #[.int .i64 m.kind, .int .i64 m.n, .int .i64 m.stamp, .slice q m.bytes.size cu] 31))
          clear c0 c1 c2 c3
          have HLMW := hid hlm
          clear hlm
          generalize wr.alloc (.cells #[.int .i64 m.kind, .int .i64 m.n, .int .i64 m.stamp, .slice q m.bytes.size cu] 31) = w3 at *
          have B3 := hid (HB.out.newer na)
          have M3 := hid (HM.out.keep (Below.block na bm HM.out.lt))
          generalize wr.heap.size = q1 at *
          have HK0 : Hid ((IntKind.u64.wrap m.kind).tmod 7 = kindOf m) := hid rfl
          refine (does_any w x b ow tb ot pb os rb rw rp fo A T P N j m q cu w3 B3.out HF.out HS.out.quiet.up (by omega) HBS.out HMS.out HMN.out).mono ?_
          rintro e w4 ⟨k, ow2, ot2, os2, rw2, fo2, hk, rfl, b4, o4⟩
          have B4 := hid b4
          have Q4 := hid (o4.cells HQB.out (by simp [bothT, sysT, refT]))
          have M4 := hid (only_map M3.out o4)
          have W4 := hid (step_call_any (k := k) m HF.out HS.out.quiet.up B3.out.sys.pool.nodup hk (by omega))
          have CK := hid (call_keeps (k := k) (m := m) HF.out B3.out.sys.pool.nodup hk HS.out H6.out)
          clear b4 o4 hk na
          generalize callU m A T P k = U at *
          obtain ⟨mc0, mc1, mc2, mc3⟩ := move_cells (m := m) (p := q) (c := cu) Q4.out
          by_cases hs2 : U.e = 0 ∧ kindOf m = 2
          · obtain ⟨t, ht, ht2, KP, VW⟩ := (CK.out.resolve_right (fun h => h.1 hs2)).2
            have te : (U.e == 0) = true := by simp [hs2.1]
            have tk : ((IntKind.u64.wrap m.kind).tmod 7 == 2) = true := by rw [HK0.out, hs2.2]; rfl
            have KP := hid KP
            have VW := hid VW
            have HT := hid ht
            have HT2 := hid ht2
            clear hs2 ht ht2 CK
            go_wp2_with fail
            have B4d := hid (B4.out.newer (New.refl w4).drew)
            have Q4d := hid ((Below.block (New.refl w4).drew q1 (Array.getElem?_eq_some_iff.1 Q4.out).1).trans Q4.out)
            clear mc0 mc1 mc2 mc3
            obtain ⟨mc0, mc1, mc2, mc3⟩ := move_cells (m := m) (p := q) (c := cu) Q4d.out
            go_region_with (first | (go_at_call 10; refine (filled_any (.slice q m.bytes.size cu) m.bytes _ (HBS.out.new B4d.out.sys.log.new) (by have := HMS.out; omega)).mono ?_; rintro e w5 ⟨v5, rfl, n5, h5⟩; obtain ⟨p5, k5, c5, rfl, by5⟩ := filled_out (HBS.out.new (B4d.out.sys.log.new.trans n5)) h5; have kc5 := by5.convert (P := Tryz.prog) 29 5 9 Tryz.underlying29 Tryz.underlying5 Tryz.underlying9; have B5 := hid (B4d.out.newer n5); have Q5 := hid ((Below.block n5 q1 (Array.getElem?_eq_some_iff.1 Q4d.out).1).trans Q4d.out); have M5 := hid ((M4.out.keep (Below.block (New.refl w4).drew bm M4.out.lt)).keep (Below.block n5 bm M4.out.lt)); obtain ⟨o6, hput, m6⟩ := run_put Tryz.underlying28 Tryz.underlying3 M5.out m.n (.string (fillB m.bytes)); have M6 := hid m6; have B6 := hid (B5.out.beside (noCells_map M5.out) (set_turn w5 bm o6) (fun k hk e => by have := HBM.out; omega)); have Q6 := hid (((set_turn w5 bm o6).block q1 (Array.getElem?_eq_some_iff.1 Q5.out).1 (fun e => noCells_map M5.out q1 _ _ _ e Q5.out)).trans Q5.out); obtain ⟨mc0, mc1, mc2, mc3⟩ := move_cells (m := m) (p := q) (c := cu) Q5.out; clear n5 h5 by5 m6))
            all_goals
              have SD := hid KP.out.sound
              have LOK := hid (last_put HLO.out KP.out HT.out HT2.out HMS.out VW.out)
              have LEN : Hid ((putL lm m.n (.string (fillB m.bytes))).length ≤ j + 1) := hid (by have := putL_length lm m.n (.string (fillB m.bytes)); have := HLMW.out; omega)
              clear hput kc5
              have BL := B6
              have ML := M6
              generalize ChangeMaps.setBlock w5 bm o6 = wL at *
              have SML := hid W4.out.fine.lim.small
              have WTS : Hid (U.A.waits.length ≤ 1000000000) := hid (by have := W4.out.fine.lim.waits; omega)
              have UPD := hid SD.out.quiet.up
              as_aux_lemma =>
                go_wp2_with fail
                go_loopw [12, 13, 14, 15, 16, 17] (fun i _ _ _ _ _ wq => ∃ k : Nat, k ≤ 120 ∧ i = .int .i64 k ∧ Hid (New wL wq)) (fun i _ _ _ _ _ _ => 120 - (intOf i).toNat)
                case atStart => exact ⟨0, Nat.zero_le _, rfl, hid (New.refl wL)⟩
                case round =>
                  obtain ⟨k, hk, rfl, hnq⟩ := hrel
                  have BQ := hid (BL.out.newer hnq.out)
                  by_cases hlt : k < 120
                  · obtain ⟨xc0, xc1, xc2⟩ := x_cells BQ.out
                    go_wp2_with fail
                    refine (read_ok b ow2 U.A k _ BQ.out.sys.log.disk SML.out WTS.out UPD.out hlt).mono ?_
                    rintro e w7 ⟨v7, rfl, c7, n7⟩
                    obtain ⟨p7, k7, z7, rfl⟩ : ∃ p m k, v7 = .slice p m k := by obtain ⟨⟨p, c, e, _⟩, _⟩ := c7; exact ⟨_, _, _, e⟩
                    have C7 := hid c7
                    have N7 := hid (hnq.out.trans n7)
                    have B7 := hid (BQ.out.newer n7)
                    have SZ := hid (vis_small SML.out hlt)
                    have DK := hid (SD.out.disk k hlt)
                    clear c7 n7 xc0 xc1 xc2
                    obtain ⟨xc0, xc1, xc2⟩ := x_cells B7.out
                    generalize vis U.A k = vb at *
                    go_wp2_with fail
                    refine (refPageOf_any _ vb.data.toList _ (by rw [bytesOf_data]; exact C7.out.1) (by have := SZ.out; rw [← bytesOf_data vb, bytesOf_size] at this; omega)).mono ?_
                    rintro e w8 ⟨p8, k8, z8, st8, er8, rfl, n8, hyes, hno⟩
                    have N8 := hid (N7.out.trans n8)
                    have B8 := hid (B7.out.newer n8)
                    clear xc0 xc1 xc2 n8
                    obtain ⟨xc0, xc1, xc2⟩ := x_cells B8.out
                    cases hpe : pageE vb.data.toList with
                    | true =>
                      obtain ⟨rfl, rfl, -, -⟩ := hyes hpe
                      have hle := DK.out hpe
                      have t1 : decide ((U.T.forced : Int) < frontN vb.data.toList) = false := by simp; omega
                      clear hyes hno hpe
                      go_wp2_with fail
                      refine (forced_any tb ot2 b U.T _ B8.out.sys.log.tape).mono ?_
                      rintro e w9 ⟨rfl, rfl⟩
                      go_wp2
                      go_roundw
                      case rel => exact ⟨k + 1, by omega, by go_num, N8⟩
                      case measure => simp [intOf]; omega
                    | false =>
                      obtain ⟨rfl, rfl, e8⟩ := hno hpe
                      clear hyes hno hpe e8
                      go_wp2
                      go_roundw
                      case rel => exact ⟨k + 1, by omega, by go_num, N8⟩
                      case measure => simp [intOf]; omega
                  · obtain rfl : k = 120 := by omega
                    have MQ := hid (ML.out.keep (Below.block hnq.out bm ML.out.lt))
                    go_wp2
                    go_roundw
                    case rel => exact ⟨j + 1, by omega, by go_num, hid ⟨⟨_, _, _, _, _, _, _, _, (putL lm m.n (.string (fillB m.bytes))), BQ.out, W4.out.fine, SD.out, MQ.out, LOK.out, LEN.out⟩⟩⟩
                    case measure => simp [intOf]; omega
          · have KP := hid (CK.out.resolve_left (fun h => hs2 h.1)).2
            have SD := hid KP.out.sound
            have LOK := hid (last_but HLO.out KP.out (fun p hp t ht => by cases ht))
            have LEN : Hid (lm.length ≤ j + 1) := hid (by have := HLMW.out; omega)
            have BL := B4
            have ML := M4
            have HNS := hid hs2
            clear hs2 CK
            generalize w4 = wL at *
            have SML := hid W4.out.fine.lim.small
            have WTS : Hid (U.A.waits.length ≤ 1000000000) := hid (by have := W4.out.fine.lim.waits; omega)
            have UPD := hid SD.out.quiet.up
            by_cases e0 : U.e = 0
            · have te : (U.e == 0) = true := by simp [e0]
              have tk : ((IntKind.u64.wrap m.kind).tmod 7 == 2) = false := by rw [HK0.out]; simp; exact fun h => HNS.out ⟨e0, h⟩
              clear e0
              as_aux_lemma =>
                go_wp2_with fail
                go_loopw [12, 13, 14, 15, 16, 17] (fun i _ _ _ _ _ wq => ∃ k : Nat, k ≤ 120 ∧ i = .int .i64 k ∧ Hid (New wL wq)) (fun i _ _ _ _ _ _ => 120 - (intOf i).toNat)
                case atStart => exact ⟨0, Nat.zero_le _, rfl, hid (New.refl wL)⟩
                case round =>
                  obtain ⟨k, hk, rfl, hnq⟩ := hrel
                  have BQ := hid (BL.out.newer hnq.out)
                  by_cases hlt : k < 120
                  · obtain ⟨xc0, xc1, xc2⟩ := x_cells BQ.out
                    go_wp2_with fail
                    refine (read_ok b ow2 U.A k _ BQ.out.sys.log.disk SML.out WTS.out UPD.out hlt).mono ?_
                    rintro e w7 ⟨v7, rfl, c7, n7⟩
                    obtain ⟨p7, k7, z7, rfl⟩ : ∃ p m k, v7 = .slice p m k := by obtain ⟨⟨p, c, e, _⟩, _⟩ := c7; exact ⟨_, _, _, e⟩
                    have C7 := hid c7
                    have N7 := hid (hnq.out.trans n7)
                    have B7 := hid (BQ.out.newer n7)
                    have SZ := hid (vis_small SML.out hlt)
                    have DK := hid (SD.out.disk k hlt)
                    clear c7 n7 xc0 xc1 xc2
                    obtain ⟨xc0, xc1, xc2⟩ := x_cells B7.out
                    generalize vis U.A k = vb at *
                    go_wp2_with fail
                    refine (refPageOf_any _ vb.data.toList _ (by rw [bytesOf_data]; exact C7.out.1) (by have := SZ.out; rw [← bytesOf_data vb, bytesOf_size] at this; omega)).mono ?_
                    rintro e w8 ⟨p8, k8, z8, st8, er8, rfl, n8, hyes, hno⟩
                    have N8 := hid (N7.out.trans n8)
                    have B8 := hid (B7.out.newer n8)
                    clear xc0 xc1 xc2 n8
                    obtain ⟨xc0, xc1, xc2⟩ := x_cells B8.out
                    cases hpe : pageE vb.data.toList with
                    | true =>
                      obtain ⟨rfl, rfl, -, -⟩ := hyes hpe
                      have hle := DK.out hpe
                      have t1 : decide ((U.T.forced : Int) < frontN vb.data.toList) = false := by simp; omega
                      clear hyes hno hpe
                      go_wp2_with fail
                      refine (forced_any tb ot2 b U.T _ B8.out.sys.log.tape).mono ?_
                      rintro e w9 ⟨rfl, rfl⟩
                      go_wp2
                      go_roundw
                      case rel => exact ⟨k + 1, by omega, by go_num, N8⟩
                      case measure => simp [intOf]; omega
                    | false =>
                      obtain ⟨rfl, rfl, e8⟩ := hno hpe
                      clear hyes hno hpe e8
                      go_wp2
                      go_roundw
                      case rel => exact ⟨k + 1, by omega, by go_num, N8⟩
                      case measure => simp [intOf]; omega
                  · obtain rfl : k = 120 := by omega
                    have MQ := hid (ML.out.keep (Below.block hnq.out bm ML.out.lt))
                    go_wp2
                    go_roundw
                    case rel => exact ⟨j + 1, by omega, by go_num, hid ⟨⟨_, _, _, _, _, _, _, _, lm, BQ.out, W4.out.fine, SD.out, MQ.out, LOK.out, LEN.out⟩⟩⟩
                    case measure => simp [intOf]; omega
            · have te : (U.e == 0) = false := by simpa using e0
              clear e0
              as_aux_lemma =>
                go_wp2_with fail
                go_loopw [12, 13, 14, 15, 16, 17] (fun i _ _ _ _ _ wq => ∃ k : Nat, k ≤ 120 ∧ i = .int .i64 k ∧ Hid (New wL wq)) (fun i _ _ _ _ _ _ => 120 - (intOf i).toNat)
                case atStart => exact ⟨0, Nat.zero_le _, rfl, hid (New.refl wL)⟩
                case round =>
                  obtain ⟨k, hk, rfl, hnq⟩ := hrel
                  have BQ := hid (BL.out.newer hnq.out)
                  by_cases hlt : k < 120
                  · obtain ⟨xc0, xc1, xc2⟩ := x_cells BQ.out
                    go_wp2_with fail
                    refine (read_ok b ow2 U.A k _ BQ.out.sys.log.disk SML.out WTS.out UPD.out hlt).mono ?_
                    rintro e w7 ⟨v7, rfl, c7, n7⟩
                    obtain ⟨p7, k7, z7, rfl⟩ : ∃ p m k, v7 = .slice p m k := by obtain ⟨⟨p, c, e, _⟩, _⟩ := c7; exact ⟨_, _, _, e⟩
                    have C7 := hid c7
                    have N7 := hid (hnq.out.trans n7)
                    have B7 := hid (BQ.out.newer n7)
                    have SZ := hid (vis_small SML.out hlt)
                    have DK := hid (SD.out.disk k hlt)
                    clear c7 n7 xc0 xc1 xc2
                    obtain ⟨xc0, xc1, xc2⟩ := x_cells B7.out
                    generalize vis U.A k = vb at *
                    go_wp2_with fail
                    refine (refPageOf_any _ vb.data.toList _ (by rw [bytesOf_data]; exact C7.out.1) (by have := SZ.out; rw [← bytesOf_data vb, bytesOf_size] at this; omega)).mono ?_
                    rintro e w8 ⟨p8, k8, z8, st8, er8, rfl, n8, hyes, hno⟩
                    have N8 := hid (N7.out.trans n8)
                    have B8 := hid (B7.out.newer n8)
                    clear xc0 xc1 xc2 n8
                    obtain ⟨xc0, xc1, xc2⟩ := x_cells B8.out
                    cases hpe : pageE vb.data.toList with
                    | true =>
                      obtain ⟨rfl, rfl, -, -⟩ := hyes hpe
                      have hle := DK.out hpe
                      have t1 : decide ((U.T.forced : Int) < frontN vb.data.toList) = false := by simp; omega
                      clear hyes hno hpe
                      go_wp2_with fail
                      refine (forced_any tb ot2 b U.T _ B8.out.sys.log.tape).mono ?_
                      rintro e w9 ⟨rfl, rfl⟩
                      go_wp2
                      go_roundw
                      case rel => exact ⟨k + 1, by omega, by go_num, N8⟩
                      case measure => simp [intOf]; omega
                    | false =>
                      obtain ⟨rfl, rfl, e8⟩ := hno hpe
                      clear hyes hno hpe e8
                      go_wp2
                      go_roundw
                      case rel => exact ⟨k + 1, by omega, by go_num, N8⟩
                      case measure => simp [intOf]; omega
                  · obtain rfl : k = 120 := by omega
                    have MQ := hid (ML.out.keep (Below.block hnq.out bm ML.out.lt))
                    go_wp2
                    go_roundw
                    case rel => exact ⟨j + 1, by omega, by go_num, hid ⟨⟨_, _, _, _, _, _, _, _, lm, BQ.out, W4.out.fine, SD.out, MQ.out, LOK.out, LEN.out⟩⟩⟩
                    case measure => simp [intOf]; omega
      · obtain rfl : j = l.length := by omega
        have HB := hid hB
        have HF := hid hF
        have HS := hid hS
        have HM := hid hM
        have HLO := hid hLO
        have HLMW := hid hlm
        have CK := hid (clean_keeps HF.out HB.out.sys.pool.nodup HS.out)
        have WC := hid (step_clean HF.out HS.out.quiet.up HB.out.sys.pool.nodup).fine
        have HL16 : Hid (P.frames.length ≤ 16) := hid (Nat.le_trans HF.out.len HF.out.most)
        have HZ : Hid (P.size ≠ 0) := hid (by rw [HF.out.size]; have := HN2.out.1; omega)
        clear hB hF hS hM hLO hlm hG hlt
        obtain ⟨xc0, xc1, xc2⟩ := x_cells HB.out
        go_wp2_with fail
        refine (clean_any w b ow tb ot pb os A T P (l.length * 40) _ HB.out.sys HL16.out HZ.out HF.out.ok HF.out.lim (by omega)).mono ?_
        rintro e w3 ⟨ow3, rfl, S3, O3⟩
        have S3 := hid S3
        have X3 := hid (O3.cells HB.out.pair (by simp [sysT]))
        have M3 := hid (only_map HM.out O3)
        clear O3 xc0 xc1 xc2
        generalize cleanU A T P = U at *
        have e0 := CK.out.1
        have q0 : (U.e == 0) = true := by simp [e0]
        have q1 : (U.e != 0) = false := by simp [e0]
        clear e0
        have SD := hid CK.out.2.1.sound
        have CL : Hid (Clear U.P) := hid CK.out.2.2
        have LO1 := hid (last_but HLO.out CK.out.2.1 (fun p hp t ht => by cases ht))
        have LO2 := hid (last_disk LO1.out SD.out CL.out)
        have HZ3 : Hid (U.P.size ≠ 0) := hid (by rw [WC.out.size]; have := HN2.out.1; omega)
        have HL3 : Hid (U.P.frames.length ≤ 100000) := hid (by have := WC.out.len; have := HN2.out.2; omega)
        have WTS : Hid (U.A.waits.length ≤ 1000000000) := hid (by have := WC.out.lim.waits; omega)
        have xc2 := cells_of X3.out 2
        go_wp2_with fail
        refine (dirty_any pb os b tb U.P _ S3.out.pool HZ3.out HL3.out).mono ?_
        rintro e w4 ⟨v4, rfl, i4, n4⟩
        rw [clear_dirty CL.out] at i4
        obtain ⟨p4, c4, rfl, -⟩ := ints_own i4
        have S4 := hid (S3.out.newer n4)
        have X4 := hid ((Below.block n4 x (Array.getElem?_eq_some_iff.1 X3.out).1).trans X3.out)
        have M4 := hid (M3.out.keep (Below.block n4 bm M3.out.lt))
        clear i4 n4 xc2
        go_wp2_with fail
        have X4d := hid ((Below.block (New.refl w4).drew x (Array.getElem?_eq_some_iff.1 X4.out).1).trans X4.out)
        have S4d := hid (S4.out.newer (New.refl w4).drew)
        have hS := And.intro (cells_of X4d.out 0) (cells_of X4d.out 1)
        go_region_held3 (fun w' : World => w'.cell? ⟨x, 0, none⟩ = some (.pointer (some ⟨b, 0, none⟩)) ∧ w'.cell? ⟨x, 1, none⟩ = some (.pointer (some ⟨tb, 0, none⟩))) (exact hS)
          (first
            | (go_at_call 16; refine (pnew_any b ow3 U.A tb 2 _ S4d.out.log.disk WTS.out).mono ?_; rintro e w5 ⟨n5, hy5, -⟩; obtain ⟨pc, hpc, rfl, hp5⟩ := hy5 (by decide); have N5 := hid n5; have P5 := hid hp5; have HPC := hid hpc; have X5 := hid ((Below.block n5 x (Array.getElem?_eq_some_iff.1 X4d.out).1).trans X4d.out); have hS := And.intro (cells_of X5.out 0) (cells_of X5.out 1); clear n5 hy5 hp5 hpc))
        clear hS
        have S5 := hid (S4d.out.newer N5.out)
        have M5 := hid ((M4.out.keep (Below.block (New.refl w4).drew bm M4.out.lt)).keep (Below.block N5.out bm M4.out.lt))
        have TW : Hid (Twin w w5 b ow3 tb ot U.A U.T pb os U.P pc none ⟨2, [], 0⟩) := hid (twin_new S4d.out S5.out P5.out HPC.out)
        go_wp2_with (at_range; refine wpList_range rfl _ 28 rfl 3 9 Tryz.underlying28 bm lm rfl M5.out ?_; intro o6 hrg)
        go_frame
        have HRR : Hid (w.heap.size ≤ w5.heap.size) := hid TW.out.sys.log.new.size
        have HI0 : Hid (Reading w (w5.alloc o6) x b tb pb rp pc w5.heap.size bm N lm lm) := hid ⟨⟨ow3, ot, U.A, U.T, os, U.P, none, ⟨2, [], 0⟩, l.length + 1, TW.out.newer (Below.alloc (New.refl w5) (Nat.le_refl _) o6), WC.out, fine_two WC.out, SD.out, sound_two SD.out, CL.out, (fun p hp => (by cases hp)), LO1.out, LO2.out, hrg, by have := HLMW.out; omega, (Below.block (Below.alloc (New.refl w5) (Nat.le_refl _) o6) x (Array.getElem?_eq_some_iff.1 X5.out).1).trans X5.out⟩⟩
        clear hrg
        generalize w5.alloc o6 = w6 at *
        generalize w5.heap.size = r at *
        go_loopw [20, 21, 22, 23, 24, 25, 26, 27] (fun _ _ _ _ _ _ _ _ wr => ∃ todo, Hid (Reading w wr x b tb pb rp pc r bm N lm todo)) (fun _ _ _ _ _ _ _ _ wr => wr.rangeLeft bm r)
        case atStart => exact ⟨_, HI0⟩
        case round =>
          clear HI0
          obtain ⟨todo, hR⟩ := hrel
          obtain ⟨ow7, ot7, A7, T7, os7, P7, oc7, C7, i, tw, f1, f2, s1, s2, k1, k2, l1, l2, rg, hi, hx⟩ := hR.out.all
          have TW7 := hid tw
          have F1 := hid f1
          have F2 := hid f2
          have S1 := hid s1
          have S2 := hid s2
          have K1 := hid k1
          have K2 := hid k2
          have L1 := hid l1
          have L2 := hid l2
          have RG := hid rg
          have HI := hid hi
          have HX := hid hx
          have HM0 := hid rg.left_eq
          clear tw f1 f2 s1 s2 k1 k2 l1 l2 rg hi hx hR
          go_wp2_with (at_next; refine wpList_next rfl _ rfl r bm lm todo rfl RG.out ?_ ?_)
          · intro h0
            have HF7 : Hid ((pagesOf P7).length ≤ N) := hid (by rw [pagesOf_length]; exact F1.out.len)
            have HL7 : Hid (P7.frames.length ≤ 100000) := hid (by have := F1.out.len; have := F1.out.most; omega)
            have HZ7 : Hid (P7.size ≠ 0) := hid (by rw [F1.out.size]; have := F1.out.two; omega)
            have xc2 := cells_of HX.out 2
            have hN := HN.out
            clear h0
            go_wp2_with fail
            refine (frames_any pb os7 b tb P7 _ TW7.out.sys.pool HZ7.out HL7.out).mono ?_
            rintro e w9 ⟨v9, rfl, i9, n9⟩
            obtain ⟨p9, c9, rfl, -⟩ := i9
            have NW := hid (TW7.out.sys.log.new.trans n9)
            generalize (pagesOf P7).length = z at *
            have hz := HF7.out
            have q9 : decide (z ≤ N) = true := by simpa using hz
            clear n9 xc2 hz
            go_wp2_with fail
            refine (pawake_any _).mono ?_
            rintro e w' ⟨rfl, hn⟩
            go_wp2
            go_ret
            exact ⟨rfl, NW.out.trans hn⟩
          · intro n v w1 o' hmem hw1 hrg1 hen
            obtain ⟨t, z, ht, ht2, rfl, hsz, hv1⟩ := L1.out _ (RG.out.sub _ hmem)
            obtain ⟨t', z', ht', ht2', hz', -, hv2⟩ := L2.out _ (RG.out.sub _ hmem)
            obtain rfl : n = (t : Int) := ht
            obtain rfl : t' = t := by have : (t : Int) = (t' : Int) := ht'; omega
            obtain rfl : z = z' := by injection hz'
            have HT1 : Hid (Turn (fun k => k = bm ∨ k = r) wr (ChangeMaps.setBlock w1 r o')) := hid (by
              have h1 : Turn (fun k => k = bm ∨ k = r) wr w1 := by
                rcases hw1 with rfl | rfl
                · exact Turn.refl _ _
                · exact Turn.of_new (New.refl wr).drew
              exact h1.trans ((set_turn w1 r o').mono fun k _ hk => .inr hk))
            have HLT := hid (delL_length hmem)
            have HT2 := hid ht2
            have HV1 := hid hv1
            have HV2 := hid hv2
            have TW1 := hid (TW7.out.beside (noCells_range RG.out) HT1.out (fun k hk e => by have h1 := HBM.out; have h2 := HRR.out; rcases e with e | e <;> omega))
            have X1 := hid ((HT1.out.block x (Array.getElem?_eq_some_iff.1 HX.out).1 (fun e => noCells_range RG.out x _ _ _ e HX.out)).trans HX.out)
            have RG1 := hid hrg1
            have HI1 : Hid (i ≤ 2000) := hid (by have := HI.out; omega)
            have HSZ := hid hsz
            clear hmem hw1 hrg1 ht' ht2' hz' ht2 hv1 hv2 hsz
            generalize ChangeMaps.setBlock w1 r o' = wa at *
            have xc2 := cells_of X1.out 2
            go_wp2_with fail
            refine (twin_page w b ow7 tb ot7 A7 T7 pb os7 P7 pc oc7 C7 N i t' z _ TW1.out F1.out S1.out K1.out HI1.out HT2.out HV1.out).mono ?_
            rintro e w8 ⟨p8, c8, st8, ow8, os8, P8, rfl, ct8, tw8, f8, sd8, cl8, vw8, t8⟩
            have CT8 := hid ct8
            have TW8 := hid tw8
            have F8 := hid f8
            have SD8 := hid sd8
            have CL8 := hid cl8
            have VW8 := hid (L1.out.clear vw8)
            have RG8 := hid (range_turn RG1.out TW1.out.sys t8)
            have X8 := hid (typed_stays TW1.out.sys t8 X1.out (by simp [sysT]))
            clear ct8 tw8 f8 sd8 cl8 vw8 t8 xc2 hen
            go_wp2_with fail
            refine (twin_page w b ow8 tb ot7 A7 T7 pc oc7 C7 pb os8 P8 2 i t' z _ TW8.out.swap F2.out S2.out K2.out HI1.out HT2.out HV2.out).mono ?_
            rintro e w9 ⟨p9, c9, st9, ow9, oc9, C9, rfl, ct9, tw9, f9, sd9, cl9, vw9, t9⟩
            have TW9 := hid tw9.swap
            have F9 := hid f9
            have SD9 := hid sd9
            have CL9 := hid cl9
            have VW9 := hid (L2.out.clear vw9)
            have RG9 := hid (range_turn RG8.out TW8.out.swap.sys t9)
            have X9 := hid (typed_stays TW8.out.swap.sys t9 X8.out (by simp [sysT]))
            have kc8 := (CT8.out.turn t9 (apart_alls TW8.out.swap.sys)).1.convert (P := Tryz.prog) 29 5 9 Tryz.underlying29 Tryz.underlying5 Tryz.underlying9
            have kc9 := ct9.1.convert (P := Tryz.prog) 29 5 9 Tryz.underlying29 Tryz.underlying5 Tryz.underlying9
            have HM9 := hid RG9.out.left_eq
            clear ct9 tw9 f9 sd9 cl9 vw9 t9
            go_wp2
            go_roundw
            case rel => exact ⟨_, hid ⟨⟨ow9, ot7, A7, T7, os8, P8, oc9, C9, i + 1, TW9.out, F8.out, F9.out, SD8.out, SD9.out, CL8.out, CL9.out, VW8.out, VW9.out, RG9.out, by have := HI.out; have := HLT.out; omega, X9.out⟩⟩⟩
            case measure => rw [HM9.out, HM0.out]; exact HLT.out
end Go.Proofs.YtdccbceaajnajaaGreat
