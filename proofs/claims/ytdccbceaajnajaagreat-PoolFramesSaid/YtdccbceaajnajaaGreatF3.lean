/- The walk of PoolFrames, call by call. -/
import Derived.Test.YtdccbceaajnajaaGreatF2
import Derived.Deep.QuietTactic
import Derived.BigQuiet
import Derived.IntWalk
namespace Go.Proofs.YtdccbceaajnajaaGreat
open Go.RowKit
set_option linter.unusedSimpArgs false
set_option linter.unusedVariables false

theorem pagesOf_length (P : APool) : (pagesOf P).length = P.frames.length := by simp [pagesOf]
theorem pages_nodup {P : APool} (h : (P.frames.map fun p => p.2.page).Nodup) : (pagesOf P).Nodup := by
  have := nodup_map' h (fun n : Nat => (n : Int)) (fun a b h => by omega)
  rw [List.map_map] at this
  exact this
theorem pages_range {P : APool} (h : ∀ p ∈ P.frames, FrameOk p.2) : ∀ n ∈ pagesOf P, 0 ≤ n ∧ n < 120 := fun n hn => by
  obtain ⟨p, hp, rfl⟩ := List.mem_map.1 hn
  have := (h p hp).page
  exact ⟨by omega, by show (p.2.page : Int) < 120; omega⟩
theorem dirty_length {P : APool} : (dirtyOf P).length ≤ P.frames.length := by
  unfold dirtyOf sortI
  rw [List.length_mergeSort]
  unfold dirtyL
  rw [List.length_map]
  exact List.length_filter_le _ _
theorem nodup_take {l : List Int} (h : l.Nodup) {k : Nat} (hk : k < l.length) : l[k] ∉ l.take k := fun hm => by
  obtain ⟨i, hi, e⟩ := List.mem_iff_getElem.1 hm
  rw [List.length_take] at hi
  rw [List.getElem_take] at e
  have := (List.getElem_inj h).1 e
  omega
theorem in_no (v : Value) (l : List Int) (n : Int) (w : World) (h : Ints w v l) (hn : n ∉ l) : Calls Tryz.prog 19 #[v, .int .i64 n] w fun e w' => e = .returned (.bool false) ∧ w = w' := by
  have := in_any v l n w h
  rw [decide_eq_false hn] at this
  exact this
theorem in_yes (v : Value) (l : List Int) (n : Int) (w : World) (h : Ints w v l) (hn : n ∈ l) : Calls Tryz.prog 19 #[v, .int .i64 n] w fun e w' => e = .returned (.bool true) ∧ w = w' := by
  have := in_any v l n w h
  rw [decide_eq_true hn] at this
  exact this
theorem pair_cells {w0 w : World} {x b tb pb rb rp q : Nat} {ow ot os rw fo : Option Nat} {A : ADisk} {T : ATape} {P : APool} {v : Value} (h : Both w0 w x b ow tb ot pb os rb rw rp fo A T P) (hq : w.cell? ⟨q, 1, none⟩ = some v) :
    w.cell? ⟨x, 2, none⟩ = some (.pointer (some ⟨pb, 0, none⟩)) ∧ w.cell? ⟨q, 1, none⟩ = some v := ⟨cells_of h.pair 2, hq⟩
set_option maxHeartbeats 8000000 in
set_option maxRecDepth 100000 in
theorem frames_law (fr : Int) (v : Value) (l : List Move) (w : World) (hf0 : 0 ≤ fr) (hf1 : fr ≤ 255) (h : Moves w v l) :
    Calls Tryz.prog 4 #[.int .u8 fr, v] w fun e w' => e = .returned (.bool true) ∧ New w w' := by
  have H := hid h
  obtain ⟨gp, gc, rfl, g1, g2, g3⟩ := h
  have G3 := hid g3
  clear g3
  unfold maxLen at g2
  cases hf : fewB l with
  | false =>
    go_enter Tryz.func4, Tryz.ntmps4
    go_wp2_with fail
    refine (few_any _ l _ H.out).mono ?_
    rintro e w' ⟨rfl, rfl⟩
    rw [hf]
    go_wp2_with fail
    refine (pawake_any _).mono ?_
    rintro e w' ⟨rfl, hn⟩
    go_wp2
    go_ret
    exact ⟨rfl, hn⟩
  | true =>
    obtain ⟨hl, hb3⟩ := fewB_yes hf
    have HB3 := hid hb3
    clear hb3
    obtain ⟨N, hN, hN2, hN16⟩ : ∃ N : Nat, 2 + fr % 15 = (N : Int) ∧ 2 ≤ N ∧ N ≤ 16 := ⟨(2 + fr % 15).toNat, by omega, by omega, by omega⟩
    have HN := hid hN
    clear hN
    have HN2 := hid (And.intro hN2 hN16)
    clear hN2 hN16
    go_enter Tryz.func4, Tryz.ntmps4
    go_wp2_with fail
    refine (few_any _ l _ H.out).mono ?_
    rintro e w' ⟨rfl, rfl⟩
    rw [hf]
    go_wp2_with fail
    rw [HN.out]
    refine (newPair_any N _ HN2.out.1 HN2.out.2).mono ?_
    rintro e w1 ⟨x, b, ow, tb, ot, pb, rb, rp, rfl, B1⟩
    have G1 : Hid (Calmly w w1 x b tb pb rb rp N 0) := hid ⟨⟨_, _, _, _, _, _, _, _, B1, fine_new N HN2.out.1 HN2.out.2, quiet_new⟩⟩
    clear B1
    go_wp2_with fail
    go_loopw [7, 8, 9, 10, 11, 12, 13, 14, 15, 16, 17, 18, 19] (fun i _ _ _ _ _ _ _ _ _ _ _ _ wr => ∃ j : Nat, j ≤ l.length ∧ i = .int .i64 j ∧ Hid (Calmly w wr x b tb pb rb rp N j)) (fun i _ _ _ _ _ _ _ _ _ _ _ _ _ => l.length - (intOf i).toNat)
    case atStart => exact ⟨0, Nat.zero_le _, rfl, G1⟩
    case round =>
      clear G1
      obtain ⟨j, hj, rfl, hG⟩ := hrel
      obtain ⟨ow, ot, os, rw, fo, A, T, P, hB, hF, hQ⟩ := hG.out.both
      by_cases hlt : j < l.length
      · obtain ⟨b0, o0, rfl, hb0, hact⟩ := G3.out (by omega)
        obtain ⟨d0, d1, d2, ⟨u, d3, hbs⟩, hmn⟩ := hact j hlt
        have hms := HB3.out _ (List.getElem_mem hlt)
        clear hact
        generalize l[j] = m at *
        obtain ⟨q, cu, rfl, s1, s2, _⟩ := id hbs
        unfold maxLen at s2
        have hnw := hB.sys.log.new
        have c0 := (hnw.cell b0 _ hb0).trans d0
        have c1 := (hnw.cell b0 _ hb0).trans d1
        have c2 := (hnw.cell b0 _ hb0).trans d2
        have c3 := (hnw.cell b0 _ hb0).trans d3
        have HBS := hid hbs
        have HMS := hid hms
        have HMN := hid hmn
        have HB := hid hB
        have HF := hid hF
        have HQ := hid hQ
        obtain ⟨K, hK⟩ : ∃ K, K = (IntKind.u64.wrap m.kind).tmod 7 := ⟨_, rfl⟩
        have HKK : Hid (K = kindOf m) := hid hK
        clear d0 d1 d2 d3 hbs hms hmn hnw hB hF hG hQ
        by_cases h6 : K = 6
        · have t6 : ((IntKind.u64.wrap m.kind).tmod 7 == 6) = true := by rw [← hK, h6]; rfl
          clear hK h6
          go_wp2
          go_roundw
          case rel => exact ⟨j + 1, by omega, by go_num, hid ⟨⟨_, _, _, _, _, _, _, _, HB.out.newer ((New.refl wr).alloc _ _), HF.out.mono (by omega), HQ.out⟩⟩⟩
          case measure => simp [intOf]; omega
        · have t6 : ((IntKind.u64.wrap m.kind).tmod 7 == 6) = false := by rw [← hK]; simpa using h6
          have H6 : Hid (kindOf m ≠ 6) := hid (by rw [← HKK.out]; exact h6)
          clear hK h6
          go_wp2_with fail
          have na := (New.refl wr).alloc #[.int .i64 m.kind, .int .i64 m.n, .int .i64 m.stamp, .slice q m.bytes.size cu] 31
          have HQB := hid (heap_alloc_new wr (.cells #[.int .i64 m.kind, .int .i64 m.n, .int .i64 m.stamp, .slice q m.bytes.size cu] 31))
          have HZ : Hid (P.size ≠ 0) := hid (by rw [HF.out.size]; have := HN2.out.1; omega)
          have HL2 : Hid (P.frames.length ≤ 100000) := hid (by have := HF.out.len; have := HN2.out.2; omega)
          have HRD : Hid (P.reads ≤ 1000) := hid (by have := HF.out.reads; omega)
          have HK2 : Hid ((IntKind.u64.wrap m.kind).tmod 7 = kindOf m) := hid rfl
          clear c0 c1 c2 c3 HKK
          generalize wr.alloc (.cells #[.int .i64 m.kind, .int .i64 m.n, .int .i64 m.stamp, .slice q m.bytes.size cu] 31) = w1 at *
          have B1 := hid (HB.out.newer na)
          generalize wr.heap.size = q1 at *
          generalize (IntKind.u64.wrap m.kind).tmod 7 = K at *
          have Bd := hid (B1.out.newer (New.refl w1).drew)
          have Qd := hid ((Below.block (New.refl w1).drew q1 (Array.getElem?_eq_some_iff.1 HQB.out).1).trans HQB.out)
          have hS := pair_cells Bd.out (cells_of Qd.out 1)
          go_region_held3 (fun w' : World => w'.cell? ⟨x, 2, none⟩ = some (.pointer (some ⟨pb, 0, none⟩)) ∧ w'.cell? ⟨q1, 1, none⟩ = some (.int .i64 m.n)) (exact hS)
            (first
              | (go_at_call 18; refine (frames_any pb os b tb P _ Bd.out.sys.pool HZ.out HL2.out).mono ?_; rintro e w2 ⟨v2, rfl, i2, n2⟩; have I2 := hid i2; have B2 := hid (Bd.out.newer n2); have Q2 := hid ((Below.block n2 q1 (Array.getElem?_eq_some_iff.1 Qd.out).1).trans Qd.out); have hS := pair_cells B2.out (cells_of Q2.out 1); clear i2 n2)
              | (go_at_call 19; refine (in_any v2 (pagesOf P) m.n _ I2.out).mono ?_; rintro e w3 ⟨rfl, rfl⟩))
          clear hS na
          obtain ⟨mc0, mc1, mc2, mc3⟩ := move_cells (m := m) (p := q) (c := cu) Q2.out
          have hx2 := (pair_cells B2.out mc1).1
          go_wp2_with fail
          refine (reads_any pb os b tb P _ B2.out.sys.pool HZ.out).mono ?_
          rintro e w3 ⟨rfl, rfl⟩
          go_wp2_with fail
          refine (does_any w x b ow tb ot pb os rb rw rp fo A T P N j m q cu w2 B2.out HF.out HQ.out.up (by omega) HBS.out HMS.out HMN.out).mono ?_
          rintro e w4 ⟨k, ow2, ot2, os2, rw2, fo2, hk, rfl, b4, o4⟩
          have B4 := hid b4
          have Q4 := hid (o4.cells Q2.out (by simp [bothT, sysT, refT]))
          have W4 := hid (step_call_any (k := k) m HF.out HQ.out.up B2.out.sys.pool.nodup hk (by omega))
          have TL := hid (call_tells (k := k) (m := m) HF.out HQ.out.up B2.out.sys.pool.nodup hk)
          have QT := hid (Quiet.call (T := T) (P := P) (m := m) (k := k) HQ.out H6.out)
          clear b4 o4 hk mc0 mc1 mc2 mc3 hx2
          generalize callU m A T P k = U at *
          obtain ⟨mc0, mc1, mc2, mc3⟩ := move_cells (m := m) (p := q) (c := cu) Q4.out
          have hx2 := (pair_cells B4.out mc1).1
          clear mc0 mc1 mc2 mc3
          have HZ4 : Hid (U.P.size ≠ 0) := hid (by rw [W4.out.fine.size]; have := HN2.out.1; omega)
          have HL4 : Hid (U.P.frames.length ≤ 100000) := hid (by have := W4.out.fine.len; have := HN2.out.2; omega)
          have HLEN : Hid ((pagesOf U.P).length ≤ N) := hid (by rw [pagesOf_length]; exact W4.out.fine.len)
          have HNDP := hid (pages_nodup W4.out.fine.pages)
          have HRNG := hid (pages_range (P := U.P) W4.out.fine.ok)
          have HDS := hid (dirty_sorted W4.out.fine.pages)
          have HDL := hid (dirty_length (P := U.P))
          have HDM := hid (fun n (h : n ∈ dirtyOf U.P) => dirty_sub h)
          go_wp2_with fail
          refine (frames_any pb os2 b tb U.P _ B4.out.sys.pool HZ4.out HL4.out).mono ?_
          rintro e w5 ⟨v5, rfl, i5, n5⟩
          have B5 := hid (B4.out.newer n5)
          have Q5 := hid ((Below.block n5 q1 (Array.getElem?_eq_some_iff.1 Q4.out).1).trans Q4.out)
          have I5 := hid i5
          obtain ⟨p5, c5, rfl, l5, m5, x5⟩ := i5
          unfold maxLen at m5
          have X5 := hid x5
          clear x5 n5 hx2
          have hN := HN.out
          generalize hLL : pagesOf U.P = L at *
          have HLL := hid hLL
          clear hLL
          have hle := HLEN.out
          have t16 : decide (N < L.length) = false := by simp; omega
          have hN16 := HN2.out.2
          go_wp2
          go_loopw [15] (fun i wq => ∃ k : Nat, k ≤ L.length ∧ i = .int .i64 k ∧ Hid (New w5 wq)) (fun i _ => L.length - (intOf i).toNat)
          case atStart => exact ⟨0, Nat.zero_le _, rfl, hid (New.refl w5)⟩
          case round =>
            obtain ⟨k, hk, rfl, hn6⟩ := hrel
            by_cases hlt : k < L.length
            · have I6 := hid (I5.out.new hn6.out)
              obtain ⟨bL, oL, rfl, hcL⟩ := Ints.cell I6.out hlt
              have y1 := hcL k hlt
              have IT := hid (Ints.take I6.out (by omega : k ≤ L.length))
              have HNO := hid (nodup_take HNDP.out hlt)
              obtain ⟨r0, r1⟩ := HRNG.out _ (List.getElem_mem hlt)
              generalize L[k] = r at *
              clear hcL
              have hkc : k ≤ c5 := by omega
              have z0 : decide (r < 0) = false := by simp; omega
              have z1 : decide (120 ≤ r) = false := by simp; omega
              go_wp2_with fail
              go_quiet ((go_at_call 19; exact quiet_left (in_no _ _ r _ (IT.out.new ((New.refl _).drewN _)) HNO.out)))
              go_wp2
              go_roundw
              case rel => exact ⟨k + 1, by omega, by go_num, hid (hn6.out.drewN _)⟩
              case measure => simp [intOf]; omega
            · obtain rfl : k = L.length := by omega
              have HNK : Hid (L.length ≤ L.length) := hid hk
              clear hk hlt
              have B6 := hid (B5.out.newer hn6.out)
              have Q6 := hid ((Below.block hn6.out q1 (Array.getElem?_eq_some_iff.1 Q5.out).1).trans Q5.out)
              have I6 := hid (I5.out.new hn6.out)
              have hx2 := (pair_cells B6.out (cells_of Q6.out 1)).1
              clear hn6
              go_wp2_with fail
              refine (dirty_any pb os2 b tb U.P _ B6.out.sys.pool HZ4.out HL4.out).mono ?_
              rintro e w7 ⟨v7, rfl, i7, n7⟩
              have B7 := hid (B6.out.newer n7)
              have Q7 := hid ((Below.block n7 q1 (Array.getElem?_eq_some_iff.1 Q6.out).1).trans Q6.out)
              have I5' := hid (I6.out.new n7)
              have i7 := ints_own i7
              have I7 := hid i7
              obtain ⟨p7, c7, rfl, l7, m7, x7⟩ := i7
              unfold maxLen at m7
              clear x7 n7 hx2
              generalize hDD : dirtyOf U.P = D at *
              have HDD := hid hDD
              clear hDD
              go_wp2
              go_loopw [17] (fun i wq => ∃ k : Nat, k ≤ D.length ∧ i = .int .i64 k ∧ Hid (New w7 wq)) (fun i _ => D.length - (intOf i).toNat)
              case atStart => exact ⟨0, Nat.zero_le _, rfl, hid (New.refl w7)⟩
              case round =>
                obtain ⟨k, hk, rfl, hn8⟩ := hrel
                by_cases hlt : k < D.length
                · have I8 := hid (I7.out.new hn8.out)
                  have IL := hid (I5'.out.new hn8.out)
                  obtain ⟨bD, oD, rfl, hcD⟩ := Ints.cell I8.out hlt
                  have y1 := hcD k hlt
                  have HYES := hid (HDM.out _ (List.getElem_mem hlt))
                  cases k with
                  | zero =>
                    rw [Nat.add_zero] at y1
                    generalize D[0] = r at *
                    clear hcD
                    go_wp2_with fail
                    go_quiet ((go_at_call 19; exact quiet_left (in_yes _ _ r _ (IL.out.new ((New.refl _).drewN _)) HYES.out)))
                    go_wp2
                    go_roundw
                    case rel => exact ⟨1, by omega, by go_num, hid (hn8.out.drewN _)⟩
                    case measure => simp [intOf]; omega
                  | succ k =>
                    have y0 := hcD k (by omega)
                    have hlt2 := List.pairwise_iff_getElem.1 HDS.out k (k + 1) (by omega) hlt (by omega)
                    generalize D[k + 1] = r at *
                    generalize D[k] = r2 at *
                    clear hcD
                    have z0 : decide (r ≤ r2) = false := by simp; omega
                    have hw0 : IntKind.i64.wrap ((k : Int) + 1 - 1) = (k : Int) := by rw [Int.add_sub_cancel]; exact IntWalk.i64_in _ (by omega)
                    have hw1 : ((k + 1 : Nat) : Int) = (k : Int) + 1 := by omega
                    go_wp2_with fail
                    go_quiet ((go_at_call 19; exact quiet_left (in_yes _ _ r _ (IL.out.new ((New.refl _).drewN _)) HYES.out)))
                    clear hw0 hw1
                    go_wp2
                    go_roundw
                    case rel => exact ⟨k + 2, by omega, by go_num, hid (hn8.out.drewN _)⟩
                    case measure => simp [intOf]; omega
                · obtain rfl : k = D.length := by omega
                  have HNK : Hid (D.length ≤ D.length) := hid hk
                  clear hk hlt
                  have B9 := hid (B7.out.newer hn8.out)
                  have Q9 := hid ((Below.block hn8.out q1 (Array.getElem?_eq_some_iff.1 Q7.out).1).trans Q7.out)
                  have I9 := hid (I7.out.new hn8.out)
                  have I5'' := hid (I5'.out.new hn8.out)
                  obtain ⟨hx2, hm2⟩ := pair_cells B9.out (cells_of Q9.out 1)
                  clear hn8
                  by_cases e0 : U.e = 0
                  · have te : (U.e == 0) = true := by simp [e0]
                    by_cases k1 : K = 1
                    · subst k1
                      have hu : usedM m U = true := by unfold usedM; rw [e0, ← HK2.out]; rfl
                      clear e0
                      obtain ⟨l9, x9, e9, e9'⟩ := TL.out.last hu
                      have hL9 : L = l9.map (fun p => (p.2.page : Int)) ++ [m.n] := by rw [← HLL.out, ← e9']; unfold pagesOf; rw [e9, List.map_append]; rfl
                      obtain ⟨z, hz⟩ : ∃ z, L.length = z + 1 := ⟨l9.length, by rw [hL9]; simp⟩
                      have hLz : L[z]'(by omega) = m.n := by
                        have hzl : z = (l9.map (fun p => (p.2.page : Int))).length := by have := congrArg List.length hL9; simp at this ⊢; omega
                        subst hzl
                        simp [hL9]
                      obtain ⟨bL, oL, rfl, hcL⟩ := Ints.cell I5''.out (show z < L.length by omega)
                      have yz := hcL z (by omega)
                      rw [hLz] at yz
                      clear hcL hLz hL9 e9 e9'
                      generalize hlen : L.length = n9 at *
                      have hzl : z < n9 := by omega
                      have hz0 : ((n9 : Int) == 0) = false := by simp; omega
                      have hz1 : (n9 == 0) = false := by simp; omega
                      have hzw : IntKind.i64.wrap ((n9 : Int) - 1) = (z : Int) := by rw [hz, Int.natCast_succ, Int.add_sub_cancel]; exact IntWalk.i64_in _ (by omega)
                      have HLEN9 := hid hlen
                      clear hz hlen
                      by_cases hhad : m.n ∈ pagesOf P
                      · have th : decide (m.n ∈ pagesOf P) = true := decide_eq_true hhad
                        have hr : U.P.reads = P.reads := by rw [TL.out.reads, if_neg (fun h => h.2 hhad), Nat.add_zero]
                        clear hhad hu
                        as_aux_lemma =>
                          clear HK2 TL HDM HDS HDL HNDP HRNG
                          have hw1 : IntKind.i64.wrap ((P.reads : Int)) = (P.reads : Int) := IntWalk.i64_in _ (by have := HRD.out; omega)
                          have HRE : ∀ k, Calls Tryz.prog 20 #[.pointer (some ⟨pb, 0, none⟩)] (wr.drewN k) fun e w' => e = .returned (.int .i64 ((P.reads : Int))) ∧ wr.drewN k = w' := fun k => by
                            have := reads_any pb os2 b tb U.P (wr.drewN k) (B9.out.newer ((New.refl wr).drewN k)).sys.pool HZ4.out
                            rw [hr] at this
                            exact this
                          have HRE := hid HRE
                          clear hr
                          go_wp2_with fail
                          go_quiet (((go_at_call 20; exact quiet_left (HRE.out _))))
                          clear hw1
                          go_wp2
                          go_roundw
                          case rel => exact ⟨j + 1, by omega, by go_num, hid ⟨⟨_, _, _, _, _, _, _, _, B9.out.newer ((New.refl _).drewN _), W4.out.fine, QT.out⟩⟩⟩
                          case measure => simp [intOf]; omega
                      · have th : decide (m.n ∈ pagesOf P) = false := decide_eq_false hhad
                        have hr : ((U.P.reads : Nat) : Int) = (P.reads : Int) + 1 := by rw [TL.out.reads, if_pos ⟨hu, hhad⟩]; rfl
                        clear hhad hu
                        as_aux_lemma =>
                          clear HK2 TL HDM HDS HDL HNDP HRNG
                          have hw1 : IntKind.i64.wrap ((P.reads : Int) + 1) = (P.reads : Int) + 1 := IntWalk.i64_in _ (by have := HRD.out; omega)
                          have HRE : ∀ k, Calls Tryz.prog 20 #[.pointer (some ⟨pb, 0, none⟩)] (wr.drewN k) fun e w' => e = .returned (.int .i64 ((P.reads : Int) + 1)) ∧ wr.drewN k = w' := fun k => by
                            have := reads_any pb os2 b tb U.P (wr.drewN k) (B9.out.newer ((New.refl wr).drewN k)).sys.pool HZ4.out
                            rw [hr] at this
                            exact this
                          have HRE := hid HRE
                          clear hr
                          go_wp2_with fail
                          go_quiet (((go_at_call 20; exact quiet_left (HRE.out _))))
                          clear hw1
                          go_wp2
                          go_roundw
                          case rel => exact ⟨j + 1, by omega, by go_num, hid ⟨⟨_, _, _, _, _, _, _, _, B9.out.newer ((New.refl _).drewN _), W4.out.fine, QT.out⟩⟩⟩
                          case measure => simp [intOf]; omega
                    · by_cases k2 : K = 2
                      · subst k2
                        have hu : usedM m U = true := by unfold usedM; rw [e0, ← HK2.out]; rfl
                        clear e0 k1
                        obtain ⟨l9, x9, e9, e9'⟩ := TL.out.last hu
                        have hL9 : L = l9.map (fun p => (p.2.page : Int)) ++ [m.n] := by rw [← HLL.out, ← e9']; unfold pagesOf; rw [e9, List.map_append]; rfl
                        obtain ⟨z, hz⟩ : ∃ z, L.length = z + 1 := ⟨l9.length, by rw [hL9]; simp⟩
                        have hLz : L[z]'(by omega) = m.n := by
                          have hzl : z = (l9.map (fun p => (p.2.page : Int))).length := by have := congrArg List.length hL9; simp at this ⊢; omega
                          subst hzl
                          simp [hL9]
                        obtain ⟨bL, oL, rfl, hcL⟩ := Ints.cell I5''.out (show z < L.length by omega)
                        have yz := hcL z (by omega)
                        rw [hLz] at yz
                        clear hcL hLz hL9 e9 e9'
                        generalize hlen : L.length = n9 at *
                        have HMD := hid (TL.out.dirt hu (by rw [← HK2.out]; try rfl))
                        rw [HDD.out] at HMD
                        have hzl : z < n9 := by omega
                        have hz0 : ((n9 : Int) == 0) = false := by simp; omega
                        have hz1 : (n9 == 0) = false := by simp; omega
                        have hzw : IntKind.i64.wrap ((n9 : Int) - 1) = (z : Int) := by rw [hz, Int.natCast_succ, Int.add_sub_cancel]; exact IntWalk.i64_in _ (by omega)
                        have HLEN9 := hid hlen
                        clear hz hlen
                        by_cases hhad : m.n ∈ pagesOf P
                        · have th : decide (m.n ∈ pagesOf P) = true := decide_eq_true hhad
                          have hr : U.P.reads = P.reads := by rw [TL.out.reads, if_neg (fun h => h.2 hhad), Nat.add_zero]
                          clear hhad hu
                          as_aux_lemma =>
                            clear HK2 TL HDM HDS HDL HNDP HRNG
                            have hw1 : IntKind.i64.wrap ((P.reads : Int)) = (P.reads : Int) := IntWalk.i64_in _ (by have := HRD.out; omega)
                            have HRE : ∀ k, Calls Tryz.prog 20 #[.pointer (some ⟨pb, 0, none⟩)] (wr.drewN k) fun e w' => e = .returned (.int .i64 ((P.reads : Int))) ∧ wr.drewN k = w' := fun k => by
                              have := reads_any pb os2 b tb U.P (wr.drewN k) (B9.out.newer ((New.refl wr).drewN k)).sys.pool HZ4.out
                              rw [hr] at this
                              exact this
                            have HRE := hid HRE
                            clear hr
                            go_wp2_with fail
                            go_quiet ((first | (go_at_call 20; exact quiet_left (HRE.out _)) | (go_at_call 19; exact quiet_left (in_yes _ _ m.n _ (I9.out.new ((New.refl _).drewN _)) HMD.out))))
                            clear hw1
                            go_wp2
                            go_roundw
                            case rel => exact ⟨j + 1, by omega, by go_num, hid ⟨⟨_, _, _, _, _, _, _, _, B9.out.newer ((New.refl _).drewN _), W4.out.fine, QT.out⟩⟩⟩
                            case measure => simp [intOf]; omega
                        · have th : decide (m.n ∈ pagesOf P) = false := decide_eq_false hhad
                          have hr : ((U.P.reads : Nat) : Int) = (P.reads : Int) + 1 := by rw [TL.out.reads, if_pos ⟨hu, hhad⟩]; rfl
                          clear hhad hu
                          as_aux_lemma =>
                            clear HK2 TL HDM HDS HDL HNDP HRNG
                            have hw1 : IntKind.i64.wrap ((P.reads : Int) + 1) = (P.reads : Int) + 1 := IntWalk.i64_in _ (by have := HRD.out; omega)
                            have HRE : ∀ k, Calls Tryz.prog 20 #[.pointer (some ⟨pb, 0, none⟩)] (wr.drewN k) fun e w' => e = .returned (.int .i64 ((P.reads : Int) + 1)) ∧ wr.drewN k = w' := fun k => by
                              have := reads_any pb os2 b tb U.P (wr.drewN k) (B9.out.newer ((New.refl wr).drewN k)).sys.pool HZ4.out
                              rw [hr] at this
                              exact this
                            have HRE := hid HRE
                            clear hr
                            go_wp2_with fail
                            go_quiet ((first | (go_at_call 20; exact quiet_left (HRE.out _)) | (go_at_call 19; exact quiet_left (in_yes _ _ m.n _ (I9.out.new ((New.refl _).drewN _)) HMD.out))))
                            clear hw1
                            go_wp2
                            go_roundw
                            case rel => exact ⟨j + 1, by omega, by go_num, hid ⟨⟨_, _, _, _, _, _, _, _, B9.out.newer ((New.refl _).drewN _), W4.out.fine, QT.out⟩⟩⟩
                            case measure => simp [intOf]; omega
                      · have t1 : (K == 1) = false := by simpa using k1
                        have t2 : (K == 2) = false := by simpa using k2
                        have hu : usedM m U = false := by unfold usedM; rw [← HK2.out]; simp [k1, k2]
                        clear e0 k1 k2
                        have hr : U.P.reads = P.reads := by rw [TL.out.reads, hu, if_neg (fun h => by have := h.1; cases this), Nat.add_zero]
                        as_aux_lemma =>
                          clear HK2 TL HDM HDS HDL HNDP HRNG
                          have hw1 : IntKind.i64.wrap ((P.reads : Int)) = (P.reads : Int) := IntWalk.i64_in _ (by have := HRD.out; omega)
                          have HRE : ∀ k, Calls Tryz.prog 20 #[.pointer (some ⟨pb, 0, none⟩)] (wr.drewN k) fun e w' => e = .returned (.int .i64 ((P.reads : Int))) ∧ wr.drewN k = w' := fun k => by
                            have := reads_any pb os2 b tb U.P (wr.drewN k) (B9.out.newer ((New.refl wr).drewN k)).sys.pool HZ4.out
                            rw [hr] at this
                            exact this
                          have HRE := hid HRE
                          clear hr
                          go_wp2_with fail
                          go_quiet (((go_at_call 20; exact quiet_left (HRE.out _))))
                          clear hw1
                          go_wp2
                          go_roundw
                          case rel => exact ⟨j + 1, by omega, by go_num, hid ⟨⟨_, _, _, _, _, _, _, _, B9.out.newer ((New.refl _).drewN _), W4.out.fine, QT.out⟩⟩⟩
                          case measure => simp [intOf]; omega
                  · have te : (U.e == 0) = false := by simpa using e0
                    have hu : usedM m U = false := by unfold usedM; simp [e0]
                    clear e0
                    by_cases k2 : K = 2
                    · subst k2
                      have hr : U.P.reads = P.reads := by rw [TL.out.reads, hu, if_neg (fun h => by have := h.1; cases this), Nat.add_zero]
                      as_aux_lemma =>
                        clear HK2 TL HDM HDS HDL HNDP HRNG
                        have hw1 : IntKind.i64.wrap ((P.reads : Int)) = (P.reads : Int) := IntWalk.i64_in _ (by have := HRD.out; omega)
                        have HRE : ∀ k, Calls Tryz.prog 20 #[.pointer (some ⟨pb, 0, none⟩)] (wr.drewN k) fun e w' => e = .returned (.int .i64 ((P.reads : Int))) ∧ wr.drewN k = w' := fun k => by
                          have := reads_any pb os2 b tb U.P (wr.drewN k) (B9.out.newer ((New.refl wr).drewN k)).sys.pool HZ4.out
                          rw [hr] at this
                          exact this
                        have HRE := hid HRE
                        clear hr
                        go_wp2_with fail
                        go_quiet (((go_at_call 20; exact quiet_left (HRE.out _))))
                        clear hw1
                        go_wp2
                        go_roundw
                        case rel => exact ⟨j + 1, by omega, by go_num, hid ⟨⟨_, _, _, _, _, _, _, _, B9.out.newer ((New.refl _).drewN _), W4.out.fine, QT.out⟩⟩⟩
                        case measure => simp [intOf]; omega
                    · have t2 : (K == 2) = false := by simpa using k2
                      clear k2
                      have hr : U.P.reads = P.reads := by rw [TL.out.reads, hu, if_neg (fun h => by have := h.1; cases this), Nat.add_zero]
                      as_aux_lemma =>
                        clear HK2 TL HDM HDS HDL HNDP HRNG
                        have hw1 : IntKind.i64.wrap ((P.reads : Int)) = (P.reads : Int) := IntWalk.i64_in _ (by have := HRD.out; omega)
                        have HRE : ∀ k, Calls Tryz.prog 20 #[.pointer (some ⟨pb, 0, none⟩)] (wr.drewN k) fun e w' => e = .returned (.int .i64 ((P.reads : Int))) ∧ wr.drewN k = w' := fun k => by
                          have := reads_any pb os2 b tb U.P (wr.drewN k) (B9.out.newer ((New.refl wr).drewN k)).sys.pool HZ4.out
                          rw [hr] at this
                          exact this
                        have HRE := hid HRE
                        clear hr
                        go_wp2_with fail
                        go_quiet (((go_at_call 20; exact quiet_left (HRE.out _))))
                        clear hw1
                        go_wp2
                        go_roundw
                        case rel => exact ⟨j + 1, by omega, by go_num, hid ⟨⟨_, _, _, _, _, _, _, _, B9.out.newer ((New.refl _).drewN _), W4.out.fine, QT.out⟩⟩⟩
                        case measure => simp [intOf]; omega
      · obtain rfl : j = l.length := by omega
        have HNW := hid hB.sys.log.new
        clear hB hF hQ hG
        go_wp2_with fail
        refine (pawake_any _).mono ?_
        rintro e w' ⟨rfl, hn⟩
        go_wp2
        go_ret
        exact ⟨rfl, HNW.out.trans hn⟩
end Go.Proofs.YtdccbceaajnajaaGreat
