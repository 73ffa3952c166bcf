/- Restart, walked. -/
import Derived.Test.YtmchbciofdokfaaW20
import Derived.Test.YtmchbciofdokfaaW25
import Derived.Deep.CutRange
import Derived.Test.YtmchbciofdokfaaW17L
import Derived.BigRegion
import Derived.Deep.RegionHeld3
namespace Go.Proofs.Ytmchbciofdokfaa
open Go.RowKit
open Go.ChangeMaps (setBlock)
set_option linter.unusedSimpArgs false
set_option linter.unusedVariables false

theorem own_zero {w : World} {base : Nat} {e : TypeId} {sz : Nat} {v : Value} {n : Nat} {xs : List Value} (h : w.ownsRow base e sz v n xs) : w.ownsRow 0 e sz v n xs := by
  refine ⟨h.1, ?_⟩
  rcases h.2 with h | ⟨g, cap, cur, h1, h2, h3⟩
  · exact .inl h
  · exact .inr ⟨g, cap, cur, h1, Nat.zero_le _, h3⟩
theorem own_ge {w : World} {base : Nat} {e : TypeId} {sz : Nat} {v : Value} {n : Nat} {xs : List Value} (h : w.ownsRow base e sz v n xs) {k : Nat} (hk : v.ownBlock = some k) : base ≤ k := by
  obtain ⟨c, _, hb⟩ := own_cells h hk
  exact hb
theorem nodup_len : ∀ {l m : List Int}, l.Nodup → l ⊆ m → l.length ≤ m.length
  | [], m, _, _ => Nat.zero_le _
  | a :: l, m, h, hs => by
    have ha : a ∈ m := hs (by simp)
    rw [List.nodup_cons] at h
    have := nodup_len (l := l) (m := m.erase a) h.2 (fun x hx => (List.mem_erase_of_ne (fun e : x = a => h.1 (by rw [← e]; exact hx))).2 (hs (by simp [hx])))
    rw [List.length_erase_of_mem ha] at this
    have := List.length_pos_of_mem ha
    rw [List.length_cons]
    omega
theorem todo0_is (W : PW) (o : List Opn) : keepO (fun o => !o.ready.toList.isEmpty) o = (todo0 W o).open_ := by
  unfold keepO todo0
  apply List.filter_congr
  intro x _
  have h1 : x.ready.toList.isEmpty = decide (x.ready = ByteArray.empty) := by
    rw [Bool.eq_iff_iff, List.isEmpty_iff, decide_eq_true_eq, toList_nil]
    constructor
    · intro h
      apply ByteArray.ext
      exact Array.eq_empty_of_size_eq_zero h
    · intro h
      rw [h]
      rfl
  show (!!x.ready.toList.isEmpty) = _
  rw [h1, Bool.not_not]
theorem opens_len {w0 w : World} {wb : Nat} {S : WSh} {W : PW} (h : WorldAt w0 w wb S W) {o : List Opn} (ho : IsOpens W.unit o) : o.length ≤ S.lu.length := by
  have h1 : (o.map (·.unit)).Nodup := ho.1.imp fun h => by omega
  have h2 : (o.map (·.unit)) ⊆ S.lu.map (·.1) := fun n hn => by
    obtain ⟨x, hx, rfl⟩ := List.mem_map.1 hn
    have hl := ((ho.2 x).1 hx).1
    apply Classical.byContradiction
    intro hno
    have := h.units.none x.unit (fun y hy e => hno (e ▸ List.mem_map_of_mem hy))
    rw [this] at hl
    cases hl.1
  have := nodup_len h1 h2
  simpa using this
/-- What holds at the head of the great loop. -/
structure Going (l : List Rec) (w wr : World) (wb tb ob : Nat) (W : PW) (o : List Opn) : Prop where
  ex : ∃ tv ov T O S f, RestAt w wr wb tb ob S (withLeft W f) tv ov T O ∧ Steps l (todo0 W o) O ⟨T, f⟩ ∧ (∀ x ∈ T, x.next ≠ 0) ∧ (∀ x ∈ S.lu, 0 ≤ x.1 ∧ x.1 ≤ 1000000)
def nx (T : List Opn) (j : Nat) : Int := ((T[j]?).map (·.next)).getD 0
theorem nx_at {T : List Opn} {j : Nat} (h : j < T.length) : nx T j = T[j].next := by simp [nx, h]
/-- The greatest so far, the first of them. -/
structure Picked (T : List Opn) (k a : Nat) : Prop where
  le : a ≤ k
  lo : ∀ j, j < k → j < a → nx T j < nx T a
  hi : ∀ j, j < k → a ≤ j → nx T j ≤ nx T a
theorem Picked.up {T : List Opn} {k a : Nat} (h : Picked T k a) (hx : nx T a < nx T k) : Picked T (k + 1) k := by
  refine ⟨by omega, fun j hj hk => ?_, fun j hj hk => ?_⟩
  · rcases Nat.lt_or_ge j a with h' | h'
    · have := h.lo j hk h'
      omega
    · have := h.hi j hk h'
      omega
  · have : j = k := by omega
    rw [this]
    omega
theorem Picked.stay {T : List Opn} {k a : Nat} (h : Picked T k a) (hx : ¬ nx T a < nx T k) : Picked T (k + 1) a := by
  refine ⟨by have := h.le; omega, fun j hj hk => h.lo j (by have := h.le; omega) hk, fun j hj hk => ?_⟩
  rcases Nat.lt_or_ge j k with h' | h'
  · exact h.hi j h' hk
  · have : j = k := by omega
    rw [this]
    omega
theorem unit_of {w0 w : World} {wb : Nat} {S : WSh} {W : PW} (h : WorldAt w0 w wb S W) {n : Int} (hn : (W.unit n).left ≠ []) : ∃ b v, (n, b, v) ∈ S.lu := by
  apply Classical.byContradiction
  intro hno
  have := h.units.none n (fun x hx e => hno ⟨x.2.1, x.2.2, by rw [← e]; exact hx⟩)
  rw [this] at hn
  exact hn rfl
theorem mem_tot {T : List Opn} (f : Int → List Nat) {u : Opn} (h : u ∈ T) : (f u.unit).length ≤ tot ⟨T, f⟩ := by
  unfold tot
  simp only
  induction T with
  | nil => cases h
  | cons a T ih =>
    rw [List.map_cons, List.sum_cons]
    rcases List.mem_cons.1 h with rfl | h
    · omega
    · have := ih h
      omega
theorem unit_look {w0 w : World} {wb : Nat} {S : WSh} {W : PW} (h : WorldAt w0 w wb S W) {n : Int} {b : Nat} {v : Value} (hx : (n, b, v) ∈ S.lu) : (Instr.lookup 62 (.map (some S.un)) (.int .i64 n) false).run Try.prog w = .ok (.pointer (some ⟨b, 0, none⟩)) w := by
  rw [run_look (t := 62) (k := 3) (e := 67) Try.underlying62 Try.underlying3 (Try.zeroValue67 w) h.units.map n, look_some h.units.map.nodup (List.mem_map_of_mem (f := fun x : Int × Nat × Value => (x.1, Value.pointer (some ⟨x.2.1, 0, none⟩))) hx)]
  rfl
/-- The last change of a unit is taken away. -/
theorem RestAt.popUnit {w0 w w' : World} {wb tb ob : Nat} {S : WSh} {W : PW} {f : Int → List Nat} {tv ov : Value} {T : List Opn} {O : List Rec} (h : RestAt w0 w wb tb ob S (withLeft W f) tv ov T O) {n : Int} {b : Nat} {v v' : Value} (hx : (n, b, v) ∈ S.lu) (ht : Turn (· = b) w w')
    (hb : w.heap[b]? = some (.cells (unitCells ⟨(W.unit n).st, f n, (W.unit n).text, (W.unit n).seen⟩ v) 66 (0, 0))) (hb' : w'.heap[b]? = some (.cells (unitCells ⟨(W.unit n).st, (f n).dropLast, (W.unit n).text, (W.unit n).seen⟩ v') 66 (0, 0)))
    (hrow : w'.ownsRow 0 3 1 v' (f n).dropLast.length (natVals (f n).dropLast)) (hv : v'.ownBlock = v.ownBlock) : RestAt w0 w' wb tb ob { S with lu := setU S.lu n b v' } (withLeft W (popL f n)) tv ov T O := by
  have hw := h.at_.setUnit hx (u' := ⟨(W.unit n).st, (f n).dropLast, (W.unit n).text, (W.unit n).seen⟩) ht (fun k hk => .inl hk) hb' hrow (fun k hk => .inl (hv ▸ hk))
  have e : (fun m : Int => if m = n then (⟨(W.unit n).st, (f n).dropLast, (W.unit n).text, (W.unit n).seen⟩ : AU) else (withLeft W f).unit m) = fun m => ⟨(W.unit m).st, popL f n m, (W.unit m).text, (W.unit m).seen⟩ := by
    funext m
    unfold popL
    by_cases hm : m = n
    · subst hm
      simp
    · simp only [if_neg hm]
      rfl
  rw [e] at hw
  have ap : Apart (· = b) w := fun k c fr hk e => by
    rw [hk] at e
    exact absurd (kind_cells e hb).2 (by decide)
  obtain ⟨xs, h1, h2⟩ := h.orow
  refine ⟨hw, block_turn h.tcell ht (fun e => typed_ne h.tcell hb (by decide) e), own_turn h.trow ht (fun k hk e => ?_), h.tnew, block_turn h.ocell ht (fun e => typed_ne h.ocell hb (by decide) e), ⟨xs, own_turn h1 ht (fun k hk e => ?_), h2.imp fun r b a u k => k.turn ht ap⟩, h.onew, h.tb0, h.ob0⟩
  · obtain ⟨c, hc, _⟩ := own_cells h.trow hk
    exact typed_ne hc hb (by decide) e
  · obtain ⟨c, hc, _⟩ := own_cells h1 hk
    exact typed_ne hc hb (by decide) e
theorem undo_step {l : List Rec} {T : List Opn} {f : Int → List Nat} {m : Nat} {u : Opn} (hm : m < T.length) (hs : T = T.take m ++ u :: T.drop (m + 1)) (hnz : ∀ x ∈ T, x.next ≠ 0) (hp : Picked T T.length m) (hu : T[m] = u) :
    Step l ⟨T, f⟩ (undoRec l f u) ⟨T.set m ⟨u.unit, (lastN (f u.unit).dropLast : Int), u.ready⟩, popL f u.unit⟩ := by
  have hk : nx T m = u.next := by rw [nx_at hm, hu]
  have key := Step.undo (l := l) (T1 := T.take m) (T2 := T.drop (m + 1)) (o := u) (f := f) (by rw [← hs]; exact hnz) (fun x hx => by
    obtain ⟨j, hj, rfl⟩ := List.mem_iff_getElem.1 hx
    rw [List.length_take] at hj
    have := hp.lo j (by omega) (by omega)
    rw [hk, nx_at (by omega)] at this
    rw [List.getElem_take]
    exact this) (fun x hx => by
    obtain ⟨j, hj, rfl⟩ := List.mem_iff_getElem.1 hx
    rw [List.length_drop] at hj
    have := hp.hi (m + 1 + j) (by omega) (by omega)
    rw [hk, nx_at (by omega)] at this
    rw [List.getElem_drop]
    exact this)
  rw [← hs] at key
  have e : T.set m ⟨u.unit, (lastN (f u.unit).dropLast : Int), u.ready⟩ = T.take m ++ ⟨u.unit, (lastN (f u.unit).dropLast : Int), u.ready⟩ :: T.drop (m + 1) := by
    rw [List.set_eq_take_append_cons_drop, if_pos hm]
  rw [e]
  exact key
/-- How long the row is that a cell holds. -/
def lenAt (w : World) (b : Nat) : Nat := match w.cell? ⟨b, 0, none⟩ with | some (.slice _ n _) => n | _ => 0
theorem RestAt.len {w0 w : World} {wb tb ob : Nat} {S : WSh} {W : PW} {tv ov : Value} {T : List Opn} {O : List Rec} (h : RestAt w0 w wb tb ob S W tv ov T O) : lenAt w ob = O.length := by
  obtain ⟨xs, h1, _⟩ := h.orow
  obtain ⟨p, c, rfl⟩ := own_len h1
  unfold lenAt
  rw [cells_of h.ocell 0]
  rfl
set_option maxRecDepth 100000 in
set_option maxHeartbeats 64000000 in
theorem restart_any (v : Value) (l : List Rec) (w : World) (h : Recs w v l) (hl : l.length ≤ 500) : Calls Try.prog 11 #[v] w (RestartIs l w) := by
  have H := hid h
  have HL := hid hl
  have HL2 : Hid (l.length ≤ 1000) := hid (by omega)
  clear h
  go_enter Try.func11, Try.ntmps11
  go_wp2_with fail
  refine (of_any _ l _ H.out HL2.out).mono ?_
  rintro e w1 (⟨hn, rfl, n1⟩ | ⟨W, wb, S, hs, rfl, hw, h1, h2⟩)
  · have HX : Hid (RestartIs l w (.returned (.tuple #[.slice none 0 0, .int .i64 50])) w1) := hid (.inl ⟨hn, rfl, n1⟩)
    clear hn n1
    go_wp2
    go_ret2
    exact HX.out
  have HW := hid hw
  have HS := hid hs
  have HG := hid (good hs)
  have HSA := hid (good_sane HG.out HL2.out)
  have HLU : Hid (S.lu.length ≤ 10000) := hid (by omega)
  have HLU2 : Hid (S.lu.length ≤ l.length) := hid h1
  have HK := hid h2
  clear hs hw h1 h2
  go_wp2_with fail
  refine (open_any _ wb S W _ HW.out HSA.out HK.out HLU.out HG.out.unseen).mono ?_
  rintro e w2 ⟨v2, o, rfl, ho, hrow, hn⟩
  have HO := hid ho
  have HROW := hid hrow
  have H2 := hid (HW.out.newer hn)
  have HOL : Hid (o.length ≤ l.length) := hid (Nat.le_trans (opens_len HW.out ho) HLU2.out)
  clear ho hrow hn
  go_wp2_with fail
  refine (del_opn35 _ looks35 v2 o w2 (own_zero HROW.out) (by have := HOL.out; have := HL.out; omega)).mono ?_
  rintro e w3 ⟨p3, c3, rfl, hrow3, hblk3, ht3⟩
  have HT0 := hid (todo0_is W o)
  rw [HT0.out] at hrow3 hblk3 ⊢
  have HTN : Hid (∀ k, (Value.slice p3 (todo0 W o).open_.length c3).ownBlock = some k → w.heap.size ≤ k) := hid (fun k hk => by
    have := own_ge HROW.out (hblk3 ▸ hk)
    have := HW.out.new.size
    omega)
  have H3 : Hid (WorldAt w w3 wb S W) := hid (H2.out.besides ht3 (fun k hk => by
    obtain ⟨c, hc, hb⟩ := own_cells HROW.out hk
    refine ⟨by have := HW.out.new.size; omega, fun e => ?_, c, 47, (0, 0), hc, by decide⟩
    obtain ⟨xs', hr1, _⟩ := H2.out.recs
    obtain ⟨c', hc', _⟩ := own_cells hr1 e
    exact typed_ne hc' hc (by decide) rfl))
  have HR3 := hid hrow3
  have HBD : Hid ((todo0 W o).open_.length ≤ 500) := hid (Nat.le_trans (List.length_filter_le _ _) (Nat.le_trans HOL.out HL.out))
  have HOK0 := hid (todo0_ok HG.out HO.out)
  have HTOT : Hid (tot (todo0 W o) ≤ 1000000) := hid (by
    have := tot_bound HOK0.out HBD.out (fun m => Nat.le_trans (good_lefts HG.out m) HL.out)
    omega)
  have HTO2 : Hid (tot (todo0 W o) ≤ 250500) := hid (tot_bound HOK0.out HBD.out (fun m => Nat.le_trans (good_lefts HG.out m) HL.out))
  clear hrow3 hblk3 ht3
  have HS0 : Hid (Steps l (todo0 W o) [] ⟨(todo0 W o).open_, fun n => (W.unit n).left⟩) := hid .nil
  have HSL5 : Hid (∀ t O, Steps l (todo0 W o) O t → t.open_.length ≤ 500) := hid (fun t O h => Nat.le_trans (steps_len h) HBD.out)
  generalize (todo0 W o).open_ = T0 at *
  have N4 := hid (Below.alloc (Below.alloc (New.refl w3) (Nat.le_refl _) (.cells #[.slice p3 T0.length c3] 34)) (by simp) (.cells #[.slice none 0 0] 22))
  have R4 : Hid (RestAt w ((w3.alloc (.cells #[.slice p3 T0.length c3] 34)).alloc (.cells #[.slice none 0 0] 22)) wb w3.heap.size (w3.heap.size + 1) S (withLeft W fun n => (W.unit n).left) (.slice p3 T0.length c3) (.slice none 0 0) T0 []) := hid (by
    have s3 := H3.out.new.size
    refine ⟨H3.out.newer N4.out, ?_, own_old HR3.out N4.out, HTN.out, ?_, ⟨[], World.ownsRow_nil _ _ _ _, RecCells.nil _⟩, fun k hk => (by cases hk), by omega, by omega⟩
    · exact (Below.block (Below.alloc (New.refl _) (Nat.le_refl _) _) w3.heap.size (by simp)).trans (alloc_block w3 _)
    · have := alloc_block (w3.alloc (.cells #[.slice p3 T0.length c3] 34)) (.cells #[.slice none 0 0] 22)
      simpa using this)
  go_wp2_with fail
  refine (end_any w _ wb w3.heap.size (w3.heap.size + 1) S _ _ _ T0 [] R4.out (by have := HBD.out; omega) (by simp)).mono ?_
  rintro e w5 ⟨rfl, tv5, ov5, h5⟩
  have HGO : Hid (Going l w w5 wb w3.heap.size (w3.heap.size + 1) W o) := hid ⟨tv5, ov5, restO T0, [] ++ oversOf T0, S, _, h5, HS0.out.trans (overs_steps l _ T0 [] (fun x hx => by cases hx)), fun x hx => by
    have := (List.mem_filter.1 hx).2
    simpa [zeroO] using this, HK.out⟩
  clear h5 R4 N4 HR3 HTN H3 H2 HROW HS0
  generalize w3.heap.size + 1 = ob at *
  generalize w3.heap.size = tb at *
  go_wp2_with fail
  go_loopw [8] (fun _ wr => Hid (Going l w wr wb tb ob W o)) (fun _ wr => 2000000 - lenAt wr ob)
  case atStart => exact HGO
  case round =>
    clear HGO
    rename World => wo
    have hG := hrel
    obtain ⟨tv, ov, T, O, S6, f, hr, hst, hnz, hkk⟩ := hG.out.ex
    have HR := hid hr
    have HST := hid hst
    have HNZ := hid hnz
    have HKK := hid hkk
    have HOKS := hid (steps_ok HOK0.out hst)
    have HLEN := hid hr.len
    clear hr hst hnz hkk hG hrel
    have hTb : T.length ≤ 1000000 := by
      have h1 := len_tot ⟨T, f⟩
      have h2 := HOKS.out.2
      have h3 := HTOT.out
      simp only at h1
      omega
    obtain ⟨pt, ct, rfl⟩ := own_len HR.out.trow
    obtain ⟨xs, ho1, ho2⟩ := HR.out.orow
    obtain ⟨po, co, rfl⟩ := own_len ho1
    have HO1 := hid ho1
    have HO2 := hid ho2
    clear ho1 ho2
    have tc : wo.cell? ⟨tb, 0, none⟩ = some (.slice pt T.length ct) := cells_of HR.out.tcell 0
    have oc : wo.cell? ⟨ob, 0, none⟩ = some (.slice po O.length co) := cells_of HR.out.ocell 0
    by_cases hz : T = []
    · have HX : Hid (RestartIs l w (.returned (.tuple #[.slice po O.length co, .int .i64 0])) wo) := hid (.inr ⟨W, o, O, ⟨T, f⟩, _, HS.out, HO.out, HST.out, hz, rfl, Recs.row HO1.out (HO2.out.imp fun r b a u k => k.rec_), HR.out.at_.new⟩)
      subst hz
      go_wp2
      go_ret2
      exact HX.out
    have hpos : 0 < T.length := List.length_pos_iff.2 hz
    have tpos : decide (0 < T.length) = true := by simpa using hpos
    clear hz
    go_wp2_with fail
    go_loopw [8, 9, 10, 30] (fun a _ _ i wq => ∃ k m : Nat, k ≤ T.length ∧ m < T.length ∧ i = .int .i64 k ∧ a = .int .i64 m ∧ New wo wq ∧ Hid (Picked T k m)) (fun _ _ _ i _ => T.length - (intOf i).toNat)
    case atStart => exact ⟨0, 0, Nat.zero_le _, hpos, rfl, rfl, New.refl _, hid ⟨Nat.le_refl _, fun j h => absurd h (Nat.not_lt_zero _), fun j h => absurd h (Nat.not_lt_zero _)⟩⟩
    case round =>
      obtain ⟨k, m, hk, hm, rfl, rfl, hn, hP⟩ := hrel
      obtain ⟨g, cap, cur, e, -⟩ := own_form HR.out.trow hpos
      injection e with e1 e8 e9
      subst e1 e9
      clear e8
      have hlen := opnVals_len T
      by_cases hlt : k < T.length
      · obtain ⟨x0, x1, x2⟩ := opnVals_at T k hlt
        obtain ⟨-, y1, -⟩ := opnVals_at T m hm
        have ho := own_old HR.out.trow hn
        have d0 := (own_cell ho (k * 3) (by omega)).trans x0
        have d1 := (own_cell ho (k * 3 + 1) (by omega)).trans x1
        have d2 := (own_cell ho (k * 3 + 2) (by omega)).trans x2
        have f1 := (own_cell ho (m * 3 + 1) (by omega)).trans y1
        have tcq := (hn.cell tb 0 (Array.getElem?_eq_some_iff.1 HR.out.tcell).1).trans tc
        have hgl := World.block_lt_of_cell? wr _ d0
        have htl : tb < wr.heap.size := Nat.lt_of_lt_of_le (Array.getElem?_eq_some_iff.1 HR.out.tcell).1 hn.size
        have HN := hid (hn.trans ((Below.alloc (New.refl wr) (Nat.le_refl _) (.cells #[.int .i64 T[k].unit, .int .i64 T[k].next, .string T[k].ready] 47))))
        have hml : (m : Int) < (T.length : Int) := by omega
        have hm0 : (0 : Int) ≤ (m : Int) := by omega
        have HLT := hid hlt
        have HM := hid hm
        have HUP := hid hP.out.up
        have HSTAY := hid hP.out.stay
        have e1 := nx_at hlt
        have e2 := nx_at hm
        rw [e1, e2] at HUP HSTAY
        clear ho x0 x1 x2 y1 e1 e2 hlen hP
        generalize T[k] = x at *
        generalize T[m].next = y at *
        by_cases hc : y < x.next
        · have tcm : decide (y < x.next) = true := by simpa using hc
          have HC := hid (HUP.out hc)
          clear hc
          go_wp2_with fail
          go_quiet (fail)
          go_wp2
          go_roundw
          case rel => exact ⟨k + 1, k, HLT.out, HLT.out, by go_num, rfl, HN.out.drewN _, HC⟩
          case measure => have := HLT.out; simp [intOf]; omega
        · have tcm : decide (y < x.next) = false := by simpa using hc
          have HC := hid (HSTAY.out hc)
          clear hc
          go_wp2_with fail
          go_quiet (fail)
          go_wp2
          go_roundw
          case rel => exact ⟨k + 1, m, HLT.out, HM.out, by go_num, rfl, HN.out.drewN _, HC⟩
          case measure => have := HLT.out; simp [intOf]; omega
      · obtain rfl : k = T.length := by omega
        have HP := hid hP.out
        have R1 := hid (HR.out.newer hn)
        clear hP hn hlen tc oc hk hlt tpos
        rename World => w6
        have tc : w6.cell? ⟨tb, 0, none⟩ = some (.slice (some ⟨g, 0, none⟩) T.length ct) := cells_of R1.out.tcell 0
        have hml : (m : Int) < (T.length : Int) := by omega
        have hm0 : (0 : Int) ≤ (m : Int) := by omega
        -- the unit that is undone
        have HOM : Hid (TodoOk l.length ⟨T, f⟩) := hid HOKS.out.1
        obtain ⟨u, hu⟩ : ∃ u, T[m] = u := ⟨_, rfl⟩
        have HTM : Hid (∀ h : m < T.length, T[m]'h = u) := hid (fun _ => hu)
        have HML : Hid (m < T.length) := hid hm
        have HT5 : Hid (T.length ≤ 500) := hid (HSL5.out _ _ HST.out)
        have HUM : Hid (u ∈ T) := hid (hu ▸ List.getElem_mem hm)
        have HNM : Hid (u.next = (lastN (f u.unit) : Int)) := hid (HOM.out.next u HUM.out)
        have HNN : Hid (u.next ≠ 0) := hid (HNZ.out u HUM.out)
        have HSPL : Hid (T = T.take m ++ u :: T.drop (m + 1)) := hid (by rw [← hu, List.getElem_cons_drop, List.take_append_drop])
        obtain ⟨x0, x1, x2⟩ := opnVals_at T m hm
        rw [hu] at x0 x1 x2
        have hlen := opnVals_len T
        have d0 := (own_cell R1.out.trow (m * 3) (by omega)).trans x0
        have d1 := (own_cell R1.out.trow (m * 3 + 1) (by omega)).trans x1
        obtain ⟨la, hla⟩ : ∃ la, lastN (f u.unit) = la := ⟨_, rfl⟩
        rw [HNM.out, hla] at d1
        have HLA : Hid (u.next = (la : Int)) := hid (by rw [HNM.out, hla])
        have hne : f u.unit ≠ [] := fun e => HNN.out (by rw [HNM.out, e]; rfl)
        have HNE := hid hne
        have HLM : Hid (lastN (f u.unit) = la) := hid hla
        have HK1 : Hid (1 ≤ la ∧ la ≤ W.recs.length) := hid (by
          have := HOM.out.pos u.unit _ (lastN_mem hne)
          rw [hla] at this
          rw [HG.out.recs]
          exact this)
        obtain ⟨gr, gc, bv', av', uv', hrv2, hra, hrc⟩ := rec_at R1.out.at_ (W := withLeft W f) HK1.out.1 HK1.out.2
        change RecAt w (recN W.recs la) bv' av' uv' at hra
        change S6.rv = .slice (some ⟨gr, 0, none⟩) W.recs.length gc at hrv2
        change ∀ j, j < 10 → w6.cell? ⟨gr, (la - 1) * 10 + j, none⟩ = (recCells (recN W.recs la) bv' av' uv')[j]? at hrc
        obtain ⟨⟨bp', bc', rfl, d7, d8, d9⟩, ⟨ap', ac', rfl, f7, f8, f9⟩, ⟨up', uc', rfl, g7, g8, g9⟩⟩ := id hra
        have HRA := hid hra
        obtain ⟨i, hi⟩ : ∃ i, la = i + 1 := ⟨la - 1, by have := HK1.out.1; omega⟩
        rw [show la - 1 = i by omega] at hrc
        obtain ⟨y20, y21, y22, y23, y24, y25, y26, y27, y28, y29⟩ := rec_ten hrc
        have c50 : w6.cell? ⟨wb, 0, none⟩ = some (.slice (some ⟨gr, 0, none⟩) W.recs.length gc) := by rw [← hrv2]; exact R1.out.at_.cells.1
        have hrl : W.recs.length ≤ 1000 := HSA.out.len
        have hlw : IntKind.i64.wrap ((la : Int) - 1) = (i : Int) := by rw [hi, Int.natCast_succ, Int.add_sub_cancel]; exact IntWalk.i64_in _ (by have := HK1.out.2; omega)
        have hil : i < W.recs.length := by have := HK1.out.2; omega
        have hgr : gr < w6.heap.size := World.block_lt_of_cell? w6 _ y20
        have hwbl : wb < w6.heap.size := (Array.getElem?_eq_some_iff.1 R1.out.at_.base).1
        have hgl := World.block_lt_of_cell? w6 _ d0
        have htl : tb < w6.heap.size := (Array.getElem?_eq_some_iff.1 R1.out.tcell).1
        have HRV2 := hid hrv2
        clear x0 x1 x2 hlen hla hne hi hrc hrv2 hra d9 f9 g9 hu
        go_wp2_with fail
        go_region
        have N7 := hid (Below.alloc (New.refl w6) (Nat.le_refl _) (.cells (recCells (recN W.recs la) (.slice bp' (recN W.recs la).before.size bc') (.slice ap' (recN W.recs la).after.size ac') (.slice up' (recN W.recs la).units.length uc')) 36)).drew
        have C7 : Hid ((w6.alloc (.cells (recCells (recN W.recs la) (.slice bp' (recN W.recs la).before.size bc') (.slice ap' (recN W.recs la).after.size ac') (.slice up' (recN W.recs la).units.length uc')) 36)).drew.heap[w6.heap.size]? = some (.cells (recCells (recN W.recs la) (.slice bp' (recN W.recs la).before.size bc') (.slice ap' (recN W.recs la).after.size ac') (.slice up' (recN W.recs la).units.length uc')) 36 (0, 0))) := hid (alloc_block w6 _)
        have R7 := hid (R1.out.newer N7.out)
        have d07 := ((bcell N7.out).1 g (m * 3) hgl).trans d0
        have d17 := ((bcell N7.out).1 g (m * 3 + 1) hgl).trans d1
        clear N7 y20 y21 y22 y23 y24 y25 y26 y27 y28 y29 c50 hlw hil hgr hwbl htl d0 d1 hgl tc
        generalize (w6.alloc (.cells (recCells (recN W.recs la) (.slice bp' (recN W.recs la).before.size bc') (.slice ap' (recN W.recs la).after.size ac') (.slice up' (recN W.recs la).units.length uc')) 36)).drew = w7 at *
        generalize w6.heap.size = cq at *
        obtain ⟨b, vL, hx⟩ := unit_of R7.out.at_ (n := u.unit) HNE.out
        have HX := hid hx
        obtain ⟨hb1, hb2⟩ := R7.out.at_.units.unit _ hx
        change w7.heap[b]? = some (.cells (unitCells ⟨(W.unit u.unit).st, f u.unit, (W.unit u.unit).text, (W.unit u.unit).seen⟩ vL) 66 (0, 0)) at hb1
        change w7.ownsRow 0 3 1 vL (f u.unit).length (natVals (f u.unit)) at hb2
        obtain ⟨z, hz⟩ : ∃ z, (f u.unit).length = z := ⟨_, rfl⟩
        obtain ⟨zl, hzl⟩ : ∃ zl, z = zl + 1 := ⟨z - 1, by have := List.length_pos_iff.2 HNE.out; omega⟩
        rw [hz] at hb2
        obtain ⟨gl, lcc, e0, yl, hpop, hcap, hmx⟩ := left_last hb2 hz hzl
        subst e0
        have HZ := hid hz
        have HZ5 : Hid (z ≤ 1000000) := hid (by
          have h1 := mem_tot f HUM.out
          have h2 := HOKS.out.2
          have h3 := HTOT.out
          omega)
        have HB1 := hid hb1
        have HPOP := hid hpop
        have HZL := hid hzl
        have lk := unit_look (R7.out.newer (New.refl w7).drew).at_ hx
        obtain ⟨-, -, -, m3, -⟩ := (R7.out.newer (New.refl w7).drew).at_.cells
        have uc1 : w7.cell? ⟨b, 1, none⟩ = some (.slice (some ⟨gl, 0, none⟩) z lcc) := cells_of hb1 1
        clear hb1 hb2 hpop hzl hx yl hz
        go_wp2_with fail
        go_region
        have R8 := hid (R7.out.newer (New.refl w7).drew)
        have C8 : Hid (w7.drew.heap[cq]? = _) := hid C7.out
        have B8 : Hid (w7.drew.heap[b]? = _) := hid HB1.out
        have P8 : Hid (w7.drew.ownsRow 0 3 1 (.slice (some ⟨gl, 0, none⟩) zl lcc) zl (natVals (f u.unit).dropLast)) := hid (own_old HPOP.out (New.refl w7).drew)
        have e07 : w7.drew.cell? ⟨g, m * 3, none⟩ = some (.int .i64 u.unit) := d07
        have e17 : w7.drew.cell? ⟨g, m * 3 + 1, none⟩ = some (.int .i64 (la : Int)) := d17
        clear d07 d17 lk m3 uc1 C7 HB1 HPOP R7
        generalize w7.drew = w8 at *
        have lk := unit_look (R8.out.newer (New.refl w8).drew).at_ HX.out
        obtain ⟨-, -, -, m3, -⟩ := (R8.out.newer (New.refl w8).drew).at_.cells
        have uc1 : w8.cell? ⟨b, 1, none⟩ = some (.slice (some ⟨gl, 0, none⟩) z lcc) := cells_of B8.out 1
        have uf1 : w8.frozen? ⟨b, 1, none⟩ = false := frozen_of B8.out 1
        have hblt : b < w8.heap.size := (Array.getElem?_eq_some_iff.1 B8.out).1
        have hzw : IntKind.i64.wrap ((z : Int) - 1) = (zl : Int) := by rw [HZL.out, Int.natCast_succ, Int.add_sub_cancel]; exact IntWalk.i64_in _ (by have := HZL.out; have := HZ5.out; omega)
        have hzc : (zl : Int) ≤ (lcc : Int) := by have := HZL.out; omega
        have hz0 : (0 : Int) ≤ (zl : Int) := by omega
        have hbg : b ≠ g := by
          obtain ⟨c, hc, _⟩ := own_cells R8.out.trow (k := g) rfl
          exact typed_ne B8.out hc (by decide)
        go_wp2_with fail
        go_region
        have t9 : Turn (· = b) w8 (w8.setCell ⟨b, 1, none⟩ (.slice (some ⟨gl, 0, none⟩) zl lcc)).drew := (turn_cell w8 b 1 _).drew
        have b9 : (w8.setCell ⟨b, 1, none⟩ (.slice (some ⟨gl, 0, none⟩) zl lcc)).drew.heap[b]? = some (.cells (unitCells ⟨(W.unit u.unit).st, (f u.unit).dropLast, (W.unit u.unit).text, (W.unit u.unit).seen⟩ (.slice (some ⟨gl, 0, none⟩) zl lcc)) 66 (0, 0)) := by
          have e1 := heap_setCell_same w8 b 1 _ 66 (.slice (some ⟨gl, 0, none⟩) zl lcc) B8.out
          show (w8.setCell ⟨b, 1, none⟩ (.slice (some ⟨gl, 0, none⟩) zl lcc)).heap[b]? = _
          rw [e1]
          rfl
        have HDL : Hid ((f u.unit).dropLast.length = zl) := hid (by rw [List.length_dropLast, HZ.out, HZL.out]; rfl)
        have HGB : Hid (gl ≠ b) := hid (fun e => by
          obtain ⟨c, hc, _⟩ := own_cells P8.out (k := gl) rfl
          exact typed_ne hc B8.out (by decide) e)
        have P9 := hid (own_turn P8.out t9 (fun k hk e => by
          simp [Value.ownBlock] at hk
          exact HGB.out (hk.trans e)))
        have R9 := hid (R8.out.popUnit HX.out t9 B8.out b9 (by rw [HDL.out]; exact P9.out) rfl)
        have C9 := hid (block_turn C8.out t9 (fun e => typed_ne C8.out B8.out (by decide) e))
        have e09 := (World.cell?_of_block (a := ⟨g, m * 3, none⟩) (t9.block g (World.block_lt_of_cell? w8 _ e07) (fun e => hbg e.symm))).trans e07
        have e19 := (World.cell?_of_block (a := ⟨g, m * 3 + 1, none⟩) (t9.block g (World.block_lt_of_cell? w8 _ e07) (fun e => hbg e.symm))).trans e17
        clear t9 b9 lk m3 uc1 uf1 hblt hzw hzc hz0 e07 e17 hbg R8 C8 B8 P8
        generalize (w8.setCell ⟨b, 1, none⟩ (.slice (some ⟨gl, 0, none⟩) zl lcc)).drew = w9 at *
        have HBS : Hid ((recN W.recs la).before.size ≤ 128) := hid (by
          rw [HG.out.recs]
          exact left_before HG.out (n := u.unit) (steps_sub HST.out u.unit la (by rw [← HLM.out]; exact lastN_mem HNE.out)))
        have hS : w9.drew.cell? ⟨g, m * 3, none⟩ = some (.int .i64 u.unit) ∧ w9.drew.cell? ⟨g, m * 3 + 1, none⟩ = some (.int .i64 (la : Int)) ∧ w9.drew.cell? ⟨cq, 2, none⟩ = some (.int .i64 (recN W.recs la).page) ∧ w9.drew.cell? ⟨cq, 3, none⟩ = some (.int .i64 (recN W.recs la).at_) ∧ w9.drew.cell? ⟨cq, 4, none⟩ = some (.slice bp' (recN W.recs la).before.size bc') :=
          ⟨e09, e19, cells_of (w := w9) C9.out 2, cells_of (w := w9) C9.out 3, cells_of (w := w9) C9.out 4⟩
        have hgl := World.block_lt_of_cell? w9 _ e09
        have hcl := (Array.getElem?_eq_some_iff.1 C9.out).1
        have HN9 := hid R9.out.at_.new
        clear e09 e19
        obtain ⟨S9, R9, HX9, HK9⟩ : ∃ S9, Hid (RestAt w w9 wb tb ob S9 (withLeft W (popL f u.unit)) (.slice (some ⟨g, 0, none⟩) T.length ct) (.slice po O.length co) T O) ∧ Hid ((u.unit, b, .slice (some ⟨gl, 0, none⟩) zl lcc) ∈ S9.lu) ∧ Hid (∀ x ∈ S9.lu, 0 ≤ x.1 ∧ x.1 ≤ 1000000) := ⟨_, R9, hid (setU_in HX.out), hid (fun x hx => by
          rcases setU_mem hx with rfl | ⟨h1, _⟩
          · show 0 ≤ u.unit ∧ u.unit ≤ 1000000
            exact HKK.out _ HX.out
          · exact HKK.out _ h1)⟩
        have NZ : Hid (New w9 (w9.alloc (.cells #[.int .i64 0, .int .i64 0, .int .i64 0, .int .i64 0, .slice none 0 0, .slice none 0 0, .int .i64 0, .int .i64 0, .string ⟨#[]⟩, .slice none 0 0] 36)).drew) := hid (Below.alloc (New.refl w9) (Nat.le_refl _) (.cells #[.int .i64 0, .int .i64 0, .int .i64 0, .int .i64 0, .slice none 0 0, .slice none 0 0, .int .i64 0, .int .i64 0, .string ⟨#[]⟩, .slice none 0 0] 36)).drew
        have HBS2 : Hid ((recN W.recs la).before.size ≤ 140737488351232) := hid (by have := HBS.out; omega)
        have HBA : Hid (Bytes w9.drew (.slice bp' (recN W.recs la).before.size bc') (recN W.recs la).before) := hid (HRA.out.before.new (HN9.out.trans (New.refl w9).drew))
        have HBB : Hid (Bytes (w9.alloc (.cells #[.int .i64 0, .int .i64 0, .int .i64 0, .int .i64 0, .slice none 0 0, .slice none 0 0, .int .i64 0, .int .i64 0, .string ⟨#[]⟩, .slice none 0 0] 36)).drew (.slice bp' (recN W.recs la).before.size bc') (recN W.recs la).before) := hid (HRA.out.before.new (HN9.out.trans NZ.out))
        have hSz : (w9.alloc (.cells #[.int .i64 0, .int .i64 0, .int .i64 0, .int .i64 0, .slice none 0 0, .slice none 0 0, .int .i64 0, .int .i64 0, .string ⟨#[]⟩, .slice none 0 0] 36)).drew.cell? ⟨g, m * 3, none⟩ = some (.int .i64 u.unit) ∧ (w9.alloc (.cells #[.int .i64 0, .int .i64 0, .int .i64 0, .int .i64 0, .slice none 0 0, .slice none 0 0, .int .i64 0, .int .i64 0, .string ⟨#[]⟩, .slice none 0 0] 36)).drew.cell? ⟨g, m * 3 + 1, none⟩ = some (.int .i64 (la : Int)) ∧ (w9.alloc (.cells #[.int .i64 0, .int .i64 0, .int .i64 0, .int .i64 0, .slice none 0 0, .slice none 0 0, .int .i64 0, .int .i64 0, .string ⟨#[]⟩, .slice none 0 0] 36)).drew.cell? ⟨cq, 2, none⟩ = some (.int .i64 (recN W.recs la).page) ∧ (w9.alloc (.cells #[.int .i64 0, .int .i64 0, .int .i64 0, .int .i64 0, .slice none 0 0, .slice none 0 0, .int .i64 0, .int .i64 0, .string ⟨#[]⟩, .slice none 0 0] 36)).drew.cell? ⟨cq, 3, none⟩ = some (.int .i64 (recN W.recs la).at_) ∧ (w9.alloc (.cells #[.int .i64 0, .int .i64 0, .int .i64 0, .int .i64 0, .slice none 0 0, .slice none 0 0, .int .i64 0, .int .i64 0, .string ⟨#[]⟩, .slice none 0 0] 36)).drew.cell? ⟨cq, 4, none⟩ = some (.slice bp' (recN W.recs la).before.size bc') := ⟨((bcell NZ.out).1 _ _ hgl).trans hS.1, ((bcell NZ.out).1 _ _ hgl).trans hS.2.1, ((bcell NZ.out).1 _ _ hcl).trans hS.2.2.1, ((bcell NZ.out).1 _ _ hcl).trans hS.2.2.2.1, ((bcell NZ.out).1 _ _ hcl).trans hS.2.2.2.2⟩
        go_upto_region 21 with (fail)
        go_cut [14] from 25 to 124 (fun s14 wx => ∃ rb pa ca, s14 = .pointer (some ⟨rb, 0, none⟩) ∧ Hid (RestAt w wx wb tb ob S9 (withLeft W (popL f u.unit)) (.slice (some ⟨g, 0, none⟩) T.length ct) (.slice po O.length co) T O) ∧ Hid (wx.heap[rb]? = some (.cells (recCells ⟨2, u.unit, (recN W.recs la).page, (recN W.recs la).at_, ByteArray.empty, (recN W.recs la).before, (la : Int), 0, ⟨#[]⟩, []⟩ (.slice none 0 0) (.slice pa (recN W.recs la).before.size ca) (.slice none 0 0)) 36 (0, 0))) ∧ Hid (Content wx (.slice pa (recN W.recs la).before.size ca) (recN W.recs la).before) ∧ Hid (w.heap.size ≤ rb ∧ S9.rv.ownBlock ≠ some rb ∧ (Value.slice po O.length co).ownBlock ≠ some rb))
        case first =>
          go_region_held3 (fun w' : World => w'.cell? ⟨g, m * 3, none⟩ = some (.int .i64 u.unit) ∧ w'.cell? ⟨g, m * 3 + 1, none⟩ = some (.int .i64 (la : Int)) ∧ w'.cell? ⟨cq, 2, none⟩ = some (.int .i64 (recN W.recs la).page) ∧ w'.cell? ⟨cq, 3, none⟩ = some (.int .i64 (recN W.recs la).at_) ∧ w'.cell? ⟨cq, 4, none⟩ = some (.slice bp' (recN W.recs la).before.size bc')) (first | with_reducible exact hS | with_reducible exact hS2 | with_reducible exact hSz | go_keep)
            (first
              | (go_at_call 38; (with_reducible refine (cloneBytes_any _ (recN W.recs la).before w9.drew HBA.out HBS2.out).mono ?_); rintro e w10 ⟨pa, ca, rfl, hca, hn10⟩; have HCA := hid hca; have HN10 : Hid (New w9 w10) := hid ((New.refl w9).drew.trans hn10); have hS2 : w10.cell? ⟨g, m * 3, none⟩ = some (.int .i64 u.unit) ∧ w10.cell? ⟨g, m * 3 + 1, none⟩ = some (.int .i64 (la : Int)) ∧ w10.cell? ⟨cq, 2, none⟩ = some (.int .i64 (recN W.recs la).page) ∧ w10.cell? ⟨cq, 3, none⟩ = some (.int .i64 (recN W.recs la).at_) ∧ w10.cell? ⟨cq, 4, none⟩ = some (.slice bp' (recN W.recs la).before.size bc') := ⟨((bcell hn10).1 _ _ hgl).trans hS.1, ((bcell hn10).1 _ _ hgl).trans hS.2.1, ((bcell hn10).1 _ _ hcl).trans hS.2.2.1, ((bcell hn10).1 _ _ hcl).trans hS.2.2.2.1, ((bcell hn10).1 _ _ hcl).trans hS.2.2.2.2⟩; have hn1 := World.new_ne w10 _ hS2.1; have hn2 := World.new_ne w10 _ hS2.2.2.1; clear hca hn10)
              | (go_at_call 38; (with_reducible refine (cloneBytes_any _ (recN W.recs la).before (w9.alloc (.cells #[.int .i64 0, .int .i64 0, .int .i64 0, .int .i64 0, .slice none 0 0, .slice none 0 0, .int .i64 0, .int .i64 0, .string ⟨#[]⟩, .slice none 0 0] 36)).drew HBB.out HBS2.out).mono ?_); rintro e w10 ⟨pa, ca, rfl, hca, hn10⟩; have HCA := hid hca; have HN10 : Hid (New w9 w10) := hid (NZ.out.trans hn10); have hS2 : w10.cell? ⟨g, m * 3, none⟩ = some (.int .i64 u.unit) ∧ w10.cell? ⟨g, m * 3 + 1, none⟩ = some (.int .i64 (la : Int)) ∧ w10.cell? ⟨cq, 2, none⟩ = some (.int .i64 (recN W.recs la).page) ∧ w10.cell? ⟨cq, 3, none⟩ = some (.int .i64 (recN W.recs la).at_) ∧ w10.cell? ⟨cq, 4, none⟩ = some (.slice bp' (recN W.recs la).before.size bc') := ⟨((bcell HN10.out).1 _ _ hgl).trans hS.1, ((bcell HN10.out).1 _ _ hgl).trans hS.2.1, ((bcell HN10.out).1 _ _ hcl).trans hS.2.2.1, ((bcell HN10.out).1 _ _ hcl).trans hS.2.2.2.1, ((bcell HN10.out).1 _ _ hcl).trans hS.2.2.2.2⟩; have hm1 := cells_of ((Below.block hn10 w9.heap.size (by simp)).trans (alloc_block w9 (.cells #[.int .i64 0, .int .i64 0, .int .i64 0, .int .i64 0, .slice none 0 0, .slice none 0 0, .int .i64 0, .int .i64 0, .string ⟨#[]⟩, .slice none 0 0] 36))); have hm2 := frozen_of ((Below.block hn10 w9.heap.size (by simp)).trans (alloc_block w9 (.cells #[.int .i64 0, .int .i64 0, .int .i64 0, .int .i64 0, .slice none 0 0, .slice none 0 0, .int .i64 0, .int .i64 0, .string ⟨#[]⟩, .slice none 0 0] 36))); have HMB := hid ((Below.block hn10 w9.heap.size (by simp)).trans (alloc_block w9 (.cells #[.int .i64 0, .int .i64 0, .int .i64 0, .int .i64 0, .slice none 0 0, .slice none 0 0, .int .i64 0, .int .i64 0, .string ⟨#[]⟩, .slice none 0 0] 36))); have hn1 := World.new_ne w9 _ hS.1; have hn2 := World.new_ne w9 _ hS.2.2.1; clear hca hn10))
          · go_wp2_with fail
            go_meet
            case rel =>
              have R11 := hid ((R9.out.newer HN10.out).newer (Below.alloc (New.refl w10) (Nat.le_refl _) (.cells (recCells ⟨2, u.unit, (recN W.recs la).page, (recN W.recs la).at_, ByteArray.empty, (recN W.recs la).before, (la : Int), 0, ⟨#[]⟩, []⟩ (.slice none 0 0) (.slice pa (recN W.recs la).before.size ca) (.slice none 0 0)) 36)))
              exact ⟨w10.heap.size, pa, ca, rfl, R11, hid (alloc_block w10 _), hid (HCA.out.new (Below.alloc (New.refl w10) (Nat.le_refl _) _)), hid ⟨Nat.le_trans R9.out.at_.new.size HN10.out.size, fun e => by
                have h1 := rv_lt R9.out.at_ e
                have h2 := HN10.out.size
                omega, fun e => by
                obtain ⟨xs', o1, _⟩ := R9.out.orow
                obtain ⟨c', hc', _⟩ := own_cells o1 e
                have h1 := (Array.getElem?_eq_some_iff.1 hc').1
                have h2 := HN10.out.size
                omega⟩⟩
          · go_wp2_with fail
            go_meet
            case rel =>
              obtain ⟨hten, tten⟩ := ten_sets HMB.out rfl (.int .i64 2) (.int .i64 u.unit) (.int .i64 (recN W.recs la).page) (.int .i64 (recN W.recs la).at_) (.slice none 0 0) (.slice pa (recN W.recs la).before.size ca) (.int .i64 (la : Int)) (.int .i64 0) (.string ⟨#[]⟩) (.slice none 0 0)
              have A11 : Hid (w.heap.size ≤ w9.heap.size ∧ S9.rv.ownBlock ≠ some w9.heap.size ∧ (Value.slice po O.length co).ownBlock ≠ some w9.heap.size) := hid ⟨R9.out.at_.new.size, fun e => by
                have h1 := rv_lt R9.out.at_ e
                omega, fun e => by
                obtain ⟨xs', o1, _⟩ := R9.out.orow
                obtain ⟨c', hc', _⟩ := own_cells o1 e
                have h1 := (Array.getElem?_eq_some_iff.1 hc').1
                omega⟩
              have R11 := hid ((R9.out.newer HN10.out).aside tten A11.out.1 HMB.out A11.out.2.1 A11.out.2.2)
              exact ⟨w9.heap.size, pa, ca, rfl, R11, hid hten, hid (HCA.out.turn tten (fun j c fr hj e => by
                rw [hj] at e
                exact absurd (kind_cells e HMB.out).2 (by decide))), A11⟩
        case rest =>
          obtain ⟨rb, pa, ca, rfl, R11, B11, K11, A11⟩ := hcut
          have HL11 : Hid (wc.ownsRow 0 3 1 (.slice (some ⟨gl, 0, none⟩) zl lcc) zl (natVals (f u.unit).dropLast)) := hid (by
            have h := (R11.out.at_.units.unit _ HX9.out).2
            change wc.ownsRow 0 3 1 (.slice (some ⟨gl, 0, none⟩) zl lcc) (popL f u.unit u.unit).length (natVals (popL f u.unit u.unit)) at h
            have e : popL f u.unit u.unit = (f u.unit).dropLast := by simp [popL]
            rw [e, HDL.out] at h
            exact h)
          obtain ⟨ly, hly⟩ : ∃ ly, lastN (f u.unit).dropLast = ly := ⟨_, rfl⟩
          have HLY : Hid ((lastN (f u.unit).dropLast : Int) = (ly : Int)) := hid (by rw [hly])
          have HLN := hid hly
          clear hly hS NZ HBA HBB hSz
          go_upto_if 106 with (fail)
          go_cut [] from 25 to 124 (fun wx => Hid (RestAt w wx wb tb ob S9 (withLeft W (popL f u.unit)) (.slice (some ⟨g, 0, none⟩) T.length ct) (.slice po O.length co) T O) ∧ Hid (wx.heap[rb]? = some (.cells (recCells ⟨2, u.unit, (recN W.recs la).page, (recN W.recs la).at_, ByteArray.empty, (recN W.recs la).before, (la : Int), (ly : Int), ⟨#[]⟩, []⟩ (.slice none 0 0) (.slice pa (recN W.recs la).before.size ca) (.slice none 0 0)) 36 (0, 0))) ∧ Hid (Content wx (.slice pa (recN W.recs la).before.size ca) (recN W.recs la).before))
          case first =>
            by_cases hzp : zl = 0
            · have e0 : ly = 0 := by rw [← HLN.out, List.eq_nil_of_length_eq_zero (HDL.out.trans hzp)]; rfl
              subst e0
              subst hzp
              go_wp2
              go_meet
              case rel => exact ⟨R11, B11, K11⟩
            · obtain ⟨yl, hyl⟩ : ∃ yl, zl = yl + 1 := ⟨zl - 1, by omega⟩
              obtain ⟨g2, lc2, e0, yy, -, -, -⟩ := left_last HL11.out HDL.out hyl
              injection e0 with e01 e02 e03
              injection e01 with e01
              injection e01 with e01 e04 e05
              subst e01 e03
              rw [HLN.out] at yy
              have hzp0 : decide (0 < zl) = true := by simp; omega
              have hyl2 : yl < zl := by omega
              have hyw : IntKind.i64.wrap ((zl : Int) - 1) = (yl : Int) := by rw [hyl, Int.natCast_succ, Int.add_sub_cancel]; exact IntWalk.i64_in _ (by have := HZL.out; have := HZ5.out; omega)
              have zc7 : wc.cell? ⟨rb, 7, none⟩ = some (.int .i64 0) := cells_of B11.out 7
              have zf7 := frozen_of B11.out 7
              have zl7 := (Array.getElem?_eq_some_iff.1 B11.out).1
              have t12 := turn_cell wc rb 7 (.int .i64 (ly : Int))
              have R12 := hid (R11.out.aside t12 A11.out.1 B11.out A11.out.2.1 A11.out.2.2)
              have B12 : Hid ((wc.setCell ⟨rb, 7, none⟩ (.int .i64 (ly : Int))).heap[rb]? = some (.cells (recCells ⟨2, u.unit, (recN W.recs la).page, (recN W.recs la).at_, ByteArray.empty, (recN W.recs la).before, (la : Int), (ly : Int), ⟨#[]⟩, []⟩ (.slice none 0 0) (.slice pa (recN W.recs la).before.size ca) (.slice none 0 0)) 36 (0, 0))) := hid (heap_setCell_same wc rb 7 _ 36 (.int .i64 (ly : Int)) B11.out)
              have K12 := hid (K11.out.turn t12 (fun j c fr hj e => by
                rw [hj] at e
                exact absurd (kind_cells e B11.out).2 (by decide)))
              clear e02 e04 e05 hyl hzp t12
              go_wp2
              go_meet
              case rel => exact ⟨R12, B12, K12⟩
          case rest =>
            obtain ⟨R11, B11, K11⟩ := hcut
            have R12 := R11
            have B12 := B11
            have K12 := K11
            have R13 := hid (R12.out.setNext HML.out (ly : Int))
            rw [HTM.out HML.out] at R13
            obtain ⟨cgs, hcg, _⟩ := own_cells R12.out.trow (k := g) rfl
            have t13 := turn_cell wc g (m * 3 + 1) (.int .i64 (ly : Int))
            have B13 := hid (block_turn B12.out t13 (fun e => typed_ne B12.out hcg (by decide) e))
            have K13 := hid (K12.out.turn t13 (fun j c fr hj e => by
              rw [hj] at e
              exact absurd (kind_cells e hcg).2 (by decide)))
            obtain ⟨xs3, o31, o32⟩ := R13.out.orow
            have O31 := hid o31
            have O32 := hid o32
            have N13 := hid (Below.alloc (New.refl (wc.setCell ⟨g, m * 3 + 1, none⟩ (.int .i64 (ly : Int)))) (Nat.le_refl _) (.cells (recCells ⟨2, u.unit, (recN W.recs la).page, (recN W.recs la).at_, ByteArray.empty, (recN W.recs la).before, (la : Int), (ly : Int), ⟨#[]⟩, []⟩ (.slice none 0 0) (.slice pa (recN W.recs la).before.size ca) (.slice none 0 0)) 36))
            have hsz : (wc.setCell ⟨g, m * 3 + 1, none⟩ (.int .i64 (ly : Int))).heap.size = wc.heap.size := by simp
            have HB3 : Hid (((wc.setCell ⟨g, m * 3 + 1, none⟩ (.int .i64 (ly : Int))).alloc (.cells (recCells ⟨2, u.unit, (recN W.recs la).page, (recN W.recs la).at_, ByteArray.empty, (recN W.recs la).before, (la : Int), (ly : Int), ⟨#[]⟩, []⟩ (.slice none 0 0) (.slice pa (recN W.recs la).before.size ca) (.slice none 0 0)) 36)).heap[wc.heap.size]? = some (.cells (recCells ⟨2, u.unit, (recN W.recs la).page, (recN W.recs la).at_, ByteArray.empty, (recN W.recs la).before, (la : Int), (ly : Int), ⟨#[]⟩, []⟩ (.slice none 0 0) (.slice pa (recN W.recs la).before.size ca) (.slice none 0 0)) 36 (0, 0))) := hid (by
              have h := alloc_block (wc.setCell ⟨g, m * 3 + 1, none⟩ (.int .i64 (ly : Int))) (.cells (recCells ⟨2, u.unit, (recN W.recs la).page, (recN W.recs la).at_, ByteArray.empty, (recN W.recs la).before, (la : Int), (ly : Int), ⟨#[]⟩, []⟩ (.slice none 0 0) (.slice pa (recN W.recs la).before.size ca) (.slice none 0 0)) 36)
              rw [hsz] at h
              exact h)
            have HOL3 : Hid (O.length ≤ 1000000) := hid (by
              have h2 := HOKS.out.2
              have h3 := HTOT.out
              omega)
            have oc13 : (wc.setCell ⟨g, m * 3 + 1, none⟩ (.int .i64 (ly : Int))).cell? ⟨ob, 0, none⟩ = some (.slice po O.length co) := cells_of R13.out.ocell 0
            have oz13 : (wc.setCell ⟨g, m * 3 + 1, none⟩ (.int .i64 (ly : Int))).frozen? ⟨ob, 0, none⟩ = false := frozen_of R13.out.ocell 0
            have hob13 : ob < (wc.setCell ⟨g, m * 3 + 1, none⟩ (.int .i64 (ly : Int))).heap.size := (Array.getElem?_eq_some_iff.1 R13.out.ocell).1
            have E13 := hid (((bcell N13.out).1 ob 0 hob13).trans oc13)
            have Z13 := hid (((bcell N13.out).2 ob 0 hob13).trans oz13)
            have L13 := hid (Nat.lt_of_lt_of_le hob13 N13.out.size)
            have HOB13 : Hid ((Value.slice po O.length co).ownBlock ≠ some ob) := hid (fun e => by
              obtain ⟨c, hc, _⟩ := own_cells O31.out e
              exact typed_ne hc R13.out.ocell (by decide) rfl)
            clear t13 o31 o32 oc13 oz13 hob13
            obtain ⟨z0, z1, z2, z3, z4, z5, z6, z7, z8, z9⟩ := rec_box B11.out
            have zf := frozen_of B11.out 7
            have hlenT := opnVals_len T
            obtain ⟨-, x1, -⟩ := opnVals_at T m HML.out
            have gd1 := (own_cell R11.out.trow (m * 3 + 1) (by have := HML.out; omega)).trans x1
            have gz1 : wc.frozen? ⟨g, m * 3 + 1, none⟩ = false := by
              obtain ⟨c, hc, _⟩ := own_cells R11.out.trow (k := g) rfl
              exact frozen_of hc _
            have oc11 : wc.cell? ⟨ob, 0, none⟩ = some (.slice po O.length co) := cells_of R11.out.ocell 0
            have hrbg : rb ≠ g := by
              obtain ⟨c, hc, _⟩ := own_cells R11.out.trow (k := g) rfl
              exact typed_ne B11.out hc (by decide)
            have hgrb : g ≠ rb := fun e => hrbg e.symm
            have hrbo : rb ≠ ob := typed_ne B11.out R11.out.ocell (by decide)
            have horb : ob ≠ rb := fun e => hrbo e.symm
            have hgo : g ≠ ob := by
              obtain ⟨c, hc, _⟩ := own_cells R11.out.trow (k := g) rfl
              exact typed_ne hc R11.out.ocell (by decide)
            have hog : ob ≠ g := fun e => hgo e.symm
            have hrl11 := (Array.getElem?_eq_some_iff.1 B11.out).1
            have hgl11 := World.block_lt_of_cell? wc _ gd1
            have hol11 := (Array.getElem?_eq_some_iff.1 R11.out.ocell).1
            have HSZ := hid hsz
            clear hlenT x1 hcg hsz
            go_wp2_with (at_builtin; refine app_rec rfl _ _ rfl (.slice po O.length co) O.length xs3 rfl 0 (own_old O31.out N13.out) (Nat.zero_le _) wc.heap.size ⟨2, u.unit, (recN W.recs la).page, (recN W.recs la).at_, ByteArray.empty, (recN W.recs la).before, (la : Int), (ly : Int), ⟨#[]⟩, []⟩ none pa none 0 0 _ ca 0 0 rfl (cells_of HB3.out) HOL3.out ?_)
            intro v9 w14 own9 grow9 blk9
            obtain ⟨p9, k9, rfl⟩ := own_len own9
            have c9 := (grow9.cell_far ⟨ob, 0, none⟩ L13.out (fun e => HOB13.out e.symm)).trans E13.out
            have zz9 := (grow9.frozen_far ⟨ob, 0, none⟩ L13.out (fun e => HOB13.out e.symm)).trans Z13.out
            have OUT : OutAt ((wc.setCell ⟨g, m * 3 + 1, none⟩ (.int .i64 (ly : Int))).alloc (.cells (recCells ⟨2, u.unit, (recN W.recs la).page, (recN W.recs la).at_, ByteArray.empty, (recN W.recs la).before, (la : Int), (ly : Int), ⟨#[]⟩, []⟩ (.slice none 0 0) (.slice pa (recN W.recs la).before.size ca) (.slice none 0 0)) 36)) ⟨2, u.unit, (recN W.recs la).page, (recN W.recs la).at_, ByteArray.empty, (recN W.recs la).before, (la : Int), (ly : Int), ⟨#[]⟩, []⟩ (.slice none 0 0) (.slice pa (recN W.recs la).before.size ca) (.slice none 0 0) := ⟨⟨rfl, rfl⟩, ⟨rfl, rfl⟩, K13.out.new N13.out⟩
            have R14 := hid (R13.out.outEnd N13.out OUT O31.out O32.out own9 grow9 (by rw [World.size_alloc, HSZ.out]; exact blk9))
            clear own9 grow9 blk9 OUT z0 z1 z2 z3 z4 z5 z6 z7 z8 z9 zf gd1 gz1 oc11 hrl11 hgl11 hol11
            go_wp2_with fail
            generalize (w14.setCell ⟨ob, 0, none⟩ (.slice p9 (O.length + 1) k9)) = w14b at *
            refine (end_any w w14b wb tb ob _ _ _ _ (T.set m ⟨u.unit, (ly : Int), u.ready⟩) (O ++ [⟨2, u.unit, (recN W.recs la).page, (recN W.recs la).at_, ByteArray.empty, (recN W.recs la).before, (la : Int), (ly : Int), ⟨#[]⟩, []⟩]) R14.out (by rw [List.length_set]; have := HT5.out; omega) (by rw [List.length_append, List.length_singleton]; have h2 := HOKS.out.2; have h3 := HTO2.out; omega)).mono ?_
            rintro e w15 ⟨rfl, tv15, ov15, h15⟩
            have HUR : Hid (undoRec l f u = ⟨2, u.unit, (recN W.recs la).page, (recN W.recs la).at_, ByteArray.empty, (recN W.recs la).before, (la : Int), (ly : Int), ⟨#[]⟩, []⟩) := hid (by
              unfold undoRec
              rw [HLA.out, HLY.out, HG.out.recs, Int.toNat_natCast]
              rfl)
            have st1 := undo_step HML.out HSPL.out HNZ.out HP.out (HTM.out HML.out) (l := l) (f := f)
            rw [HUR.out, HLY.out] at st1
            have HGO : Hid (Going l w w15 wb tb ob W o) := hid ⟨tv15, ov15, _, _, _, popL f u.unit, h15, (Steps.snoc HST.out st1).trans (overs_steps l _ _ [] (fun x hx => by cases hx)), fun x hx => by
              have := (List.mem_filter.1 hx).2
              simpa [zeroO] using this, HK9.out⟩
            have HLEN15 := hid h15.len
            clear st1 h15
            go_wp2
            go_roundw
            case rel => exact HGO
            case measure =>
              rw [HLEN15.out, HLEN.out]
              simp only [List.length_append, List.length_singleton]
              have h2 := HOKS.out.2
              have h3 := HTOT.out
              omega
end Go.Proofs.Ytmchbciofdokfaa
