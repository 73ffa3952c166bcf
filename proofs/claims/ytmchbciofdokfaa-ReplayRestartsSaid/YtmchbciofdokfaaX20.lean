/- The specification's Committed, progenyref01.SameInts. The specification's next: which record restart appends next. What restart appends on the specification's side, in plain words. The specification's restart: what a step needs, and what add leaves as it is. The specification's Restart. ReplayRestarts: the walk of the law. -/
import Derived.Test.YtmchbciofdokfaaX10
import Derived.Test.YtmchbciofdokfaaW42
namespace Go.Proofs.Ytmchbciofdokfaa
open Go.RowKit
set_option linter.unusedSimpArgs false
set_option linter.unusedVariables false

theorem winsOf_take {l : List Rec} {k : Nat} (hk : k < l.length) : winsOf (l.take (k + 1)) = winsOf (l.take k) ++ (if l[k].kind = 3 then [l[k].unit] else []) := by
  rw [List.take_succ_eq_append_getElem hk]
  unfold winsOf
  rw [List.filter_append, List.map_append]
  by_cases h : l[k].kind = 3 <;> simp [h]
theorem winsOf_len (l : List Rec) : (winsOf l).length ≤ l.length := by
  unfold winsOf
  rw [List.length_map]
  exact List.length_filter_le _ _
structure WColl (w wr : World) (v : Value) (l : List Int) : Prop where
  row : wr.ownsRow w.heap.size 3 1 v l.length (l.map (Value.int .i64))
  new : New w wr
theorem WColl.nil (w : World) : WColl w w (.slice none 0 0) [] := ⟨World.ownsRow_nil _ _ _ _, New.refl w⟩
set_option maxRecDepth 100000 in
set_option maxHeartbeats 4000000 in
theorem rcommitted_any (v : Value) (l : List Rec) (w : World) (h : Recs w v l) (hl : l.length ≤ 1000) : Calls Try.prog 14 #[v] w (CommittedIs l w) := by
  obtain ⟨p, c, rfl, hc, hm⟩ := h.form
  have H := hid h
  have HL := hid hl
  unfold maxLen at hm
  clear h
  go_enter Try.func14, Try.ntmps14
  go_wp2_with fail
  refine (rsound_any _ l _ H.out HL.out).mono ?_
  rintro e w1 ⟨rfl, hn⟩
  have HN := hid hn
  clear hn
  obtain ⟨B, hB⟩ : ∃ B, (walkW l).isSome = B := ⟨_, rfl⟩
  rw [hB]
  have HB := hid hB
  clear hB
  cases B
  · have HX : Hid (CommittedIs l w (.returned (.tuple #[.slice none 0 0, .int .i64 50])) w1) := hid (.inl ⟨by simpa using HB.out, rfl, HN.out⟩)
    go_wp2
    go_ret2
    exact HX.out
  obtain ⟨W, hW⟩ := Option.isSome_iff_exists.1 HB.out
  have HW := hid hW
  clear hW
  go_wp2_with fail
  go_loopw [4, 5] (fun o i wr => ∃ k : Nat, k ≤ l.length ∧ i = .int .i64 k ∧ Hid (WColl w1 wr o (winsOf (l.take k)))) (fun _ i _ => l.length - (intOf i).toNat)
  case atStart => exact ⟨0, Nat.zero_le _, rfl, hid (WColl.nil w1)⟩
  case round =>
    obtain ⟨k, hk, rfl, hC⟩ := hrel
    have HC := hid hC.out
    clear hC
    obtain ⟨po, co, rfl⟩ := own_len HC.out.row
    by_cases hlt : k < l.length
    · obtain ⟨b, o, p1, c1, p2, c2, p3, c3, rfl, hb, hra, hcells⟩ := recs_facts H.out (HN.out.trans HC.out.new) hlt
      obtain ⟨y20, y21, y22, y23, y24, y25, y26, y27, y28, y29⟩ := rec_ten (hcells _ (New.refl _))
      have HT := hid (winsOf_take hlt)
      have HML : Hid ((winsOf (l.take k)).length ≤ 1000) := hid (by
        have := winsOf_len (l.take k)
        rw [List.length_take] at this
        have := HL.out
        omega)
      clear hra hcells y22 y23 y24 y25 y26 y27 y28 y29
      generalize l[k] = r at *
      generalize winsOf (l.take k) = O at *
      by_cases h3 : r.kind = 3
      · have q3 : (r.kind == 3) = true := by simpa using h3
        have HT2 : Hid (winsOf (l.take (k + 1)) = O ++ [r.unit]) := hid (by rw [HT.out, if_pos h3])
        have NX := hid ((New.refl wr).alloc #[.int .i64 r.unit] 3)
        clear h3
        go_wp2_with (at_builtin; refine app_num rfl _ _ rfl (.slice po O.length co) O.length _ rfl w1.heap.size (own_old HC.out.row NX.out) (Nat.le_trans HC.out.new.size NX.out.size) wr.heap.size r.unit rfl (cell_made _ _ _ _) (by have := HML.out; omega) ?_)
        intro v9 w9 own9 grow9 blk9
        obtain ⟨p9, c9, rfl⟩ := own_len own9
        have HC9 : Hid (WColl w1 w9 (.slice p9 (O.length + 1) c9) (O ++ [r.unit])) := hid ⟨by rw [List.length_append, List.map_append]; exact own9, (HC.out.new.trans NX.out).grown grow9 (Nat.le_trans HC.out.new.size NX.out.size) (fun j hj => by obtain ⟨c, _, h⟩ := own_cells HC.out.row hj; exact h)⟩
        clear own9 grow9 blk9
        go_wp2
        go_roundw
        case rel => exact ⟨k + 1, by omega, by go_num, hid (by rw [HT2.out]; exact HC9.out)⟩
        case measure => simp [intOf]; omega
      · have q3 : (r.kind == 3) = false := by simpa using h3
        have HT2 : Hid (winsOf (l.take (k + 1)) = O) := hid (by rw [HT.out, if_neg h3, List.append_nil])
        clear h3
        go_wp2
        go_roundw
        case rel => exact ⟨k + 1, by omega, by go_num, hid (by rw [HT2.out]; exact HC.out)⟩
        case measure => simp [intOf]; omega
    · obtain rfl : k = l.length := by omega
      have HX : Hid (CommittedIs l w (.returned (.tuple #[.slice po (winsOf (l.take l.length)).length co, .int .i64 0])) _) := hid (.inr ⟨W, _, HW.out, rfl, by
        have := HC.out.row
        rw [List.take_length] at this ⊢
        exact RowAt.owned (own_zero this), HN.out.trans HC.out.new⟩)
      go_wp2
      go_ret2
      exact HX.out

/-- A list of whole numbers that lies in memory. -/
def Ints (w : World) (v : Value) (l : List Int) : Prop := RowAt w v l.length (l.map (Value.int .i64))
theorem Ints.new {w w' : World} {v : Value} {l : List Int} (h : Ints w v l) (hn : New w w') : Ints w' v l := RowAt.new h hn
theorem Ints.at {w : World} {b o : Nat} {l : List Int} (hc : ∀ i, i < (l.map (Value.int .i64)).length → w.cell? ⟨b, o + i, none⟩ = some ((l.map (Value.int .i64)).getD i undef)) {i : Nat} (hi : i < l.length) : w.cell? ⟨b, o + i, none⟩ = some (.int .i64 l[i]) := by
  rw [hc i (by simpa using hi)]
  simp [List.getD_eq_getElem?_getD, hi]
set_option maxRecDepth 100000 in
set_option maxHeartbeats 4000000 in
theorem sameInts_any (u v : Value) (l m : List Int) (w : World) (h1 : Ints w u l) (h2 : Ints w v m) : Calls Try.prog 16 #[u, v] w fun e w' => e = .returned (.bool (decide (l = m))) ∧ New w w' := by
  obtain ⟨p, c, rfl, g1, g2, x1⟩ := h1
  obtain ⟨q, d, rfl, g3, g4, x2⟩ := h2
  unfold maxLen at g2 g4
  have X1 := hid x1
  have X2 := hid x2
  clear x1 x2
  by_cases hlen : l.length = m.length
  · have HL := hid hlen
    have q1 : ((l.length : Int) == (m.length : Int)) = true := by simp; omega
    have q2 : ((l.length : Int) != (m.length : Int)) = false := by simp; omega
    clear hlen
    go_enter Try.func16, Try.ntmps16
    go_wp2
    clear q1 q2
    go_loopw [5] (fun i wr => ∃ k : Nat, k ≤ l.length ∧ i = .int .i64 k ∧ Hid (l.take k = m.take k ∧ New w wr)) (fun i _ => l.length - (intOf i).toNat)
    case atStart => exact ⟨0, Nat.zero_le _, rfl, hid ⟨rfl, New.refl w⟩⟩
    case round =>
      obtain ⟨k, hk, rfl, hyp⟩ := hrel
      by_cases hlt : k < l.length
      · have hlt2 : k < m.length := by have := HL.out; omega
        obtain ⟨b1, o1, rfl, hb1, hc1⟩ := X1.out (by omega)
        obtain ⟨b2, o2, rfl, hb2, hc2⟩ := X2.out (by omega)
        have y1 := Ints.at hc1 hlt
        have y2 := Ints.at hc2 hlt2
        have HTL := hid (show l.take (k + 1) = l.take k ++ [l[k]] from (List.take_append_getElem hlt).symm)
        have HTM := hid (show m.take (k + 1) = m.take k ++ [m[k]] from (List.take_append_getElem hlt2).symm)
        have HNE : Hid (l[k] ≠ m[k] → l ≠ m) := hid (fun h e => h (by subst e; rfl))
        obtain ⟨r, er⟩ : ∃ r, r = l[k] := ⟨_, rfl⟩
        obtain ⟨s, es⟩ : ∃ s, s = m[k] := ⟨_, rfl⟩
        rw [← er] at y1 HTL HNE
        rw [← es] at y2 HTM HNE
        clear er es hc1 hc2
        have HN := hid hyp.out.2
        have z1 : ∀ P : After wr, P.w.cell? ⟨b1, o1 + k, none⟩ = some (.int .i64 r) := fun P => by rw [(HN.out.trans P.new).cell _ _ hb1]; exact y1
        have z2 : ∀ P : After wr, P.w.cell? ⟨b2, o2 + k, none⟩ = some (.int .i64 s) := fun P => by rw [(HN.out.trans P.new).cell _ _ hb2]; exact y2
        clear y1 y2
        by_cases hrs : r = s
        · have q3 : (r == s) = true := by simpa using hrs
          have q4 : (r != s) = false := by simpa using hrs
          have HRS := hid hrs
          clear hrs
          go_wp2_with fail
          refine wp_region_new (by kernel_rfl) (by kernel_rfl) ?_
          repeat (go_big_quiet_step (fail))
          refine wpQuiet_nil ?_
          rintro _ ⟨P, rfl⟩
          clear z1 z2
          have HP := hid (HN.out.trans P.new)
          go_wp2
          go_roundw
          case rel => exact ⟨k + 1, by omega, by go_num, hid ⟨by rw [HTL.out, HTM.out, hyp.out.1, HRS.out], HP.out⟩⟩
          case measure => simp [intOf]; omega
        · have q3 : (r == s) = false := by simpa using hrs
          have q4 : (r != s) = true := by simpa using hrs
          have HRS := hid hrs
          clear hrs
          go_wp2_with fail
          refine wp_region_new (by kernel_rfl) (by kernel_rfl) ?_
          repeat (go_big_quiet_step (fail))
          refine wpQuiet_nil ?_
          rintro _ ⟨P, rfl⟩
          clear z1 z2
          have HP := hid (HN.out.trans P.new)
          go_wp2
          go_ret
          exact ⟨by rw [decide_eq_false (HNE.out HRS.out)]; rfl, HP.out⟩
      · obtain rfl : k = l.length := by omega
        have HY := hid hyp
        clear hyp
        go_wp2
        go_ret
        have e := HY.out.out.1
        rw [List.take_length, List.take_of_length_le (by have := HL.out; omega)] at e
        exact ⟨by rw [decide_eq_true e]; rfl, HY.out.out.2⟩
  · have q1 : ((l.length : Int) == (m.length : Int)) = false := by simp; omega
    have q2 : ((l.length : Int) != (m.length : Int)) = true := by simp; omega
    have q3 : (l.length == m.length) = false := by simpa using hlen
    have q4 : (l.length != m.length) = true := by simpa using hlen
    have HL := hid hlen
    clear hlen
    go_enter Try.func16, Try.ntmps16
    go_wp2
    go_ret
    exact ⟨by rw [decide_eq_false (fun e => HL.out (by rw [e]))]; rfl, New.refl w⟩
end Go.Proofs.Ytmchbciofdokfaa

namespace Go.Proofs.Ytmchbciofdokfaa
open Go.RowKit
set_option linter.unusedSimpArgs false
set_option linter.unusedVariables false

def opnT (o : List Opn) : List Opn := o.filter fun x => decide (x.ready = ByteArray.empty)
theorem opnT_take {o : List Opn} {k : Nat} (hk : k < o.length) : opnT (o.take (k + 1)) = opnT (o.take k) ++ (if o[k].ready = ByteArray.empty then [o[k]] else []) := by
  rw [List.take_succ_eq_append_getElem hk]
  unfold opnT
  rw [List.filter_append]
  by_cases h : o[k].ready = ByteArray.empty <;> simp [h]
theorem opnT_split {o : List Opn} {k : Nat} (hk : k < o.length) (hr : o[k].ready = ByteArray.empty) : opnT o = opnT (o.take k) ++ o[k] :: opnT (o.drop (k + 1)) := by
  have h := opnT_take hk
  rw [if_pos hr] at h
  have e : opnT o = opnT (o.take (k + 1)) ++ opnT (o.drop (k + 1)) := by
    unfold opnT
    rw [← List.filter_append, List.take_append_drop]
  rw [e, h, List.append_assoc, List.singleton_append]
theorem empty_is (b : ByteArray) : b.toList.isEmpty = decide (b = ByteArray.empty) := by
  rw [Bool.eq_iff_iff, List.isEmpty_iff, decide_eq_true_eq, toList_nil]
  constructor
  · intro h
    simpa using h
  · rintro rfl
    rfl
/-- The best unit so far. -/
structure BestAt (o : List Opn) (k : Nat) (b : Int) : Prop where
  nz : ∀ x ∈ opnT (o.take k), x.next ≠ 0
  best : (b = -1 ∧ opnT (o.take k) = []) ∨ ∃ (j : Nat) (hj : j < o.length) (T1 T2 : List Opn), b = (j : Int) ∧ opnT (o.take k) = T1 ++ o[j] :: T2 ∧ (∀ x ∈ T1, x.next < o[j].next) ∧ ∀ x ∈ T2, x.next ≤ o[j].next
theorem BestAt.nil (o : List Opn) : BestAt o 0 (-1) := ⟨fun x hx => by simp [opnT] at hx, .inl ⟨rfl, by simp [opnT]⟩⟩
variable {o : List Opn} {k : Nat} {b : Int}
theorem BestAt.skip (h : BestAt o k b) (hk : k < o.length) (hr : o[k].ready ≠ ByteArray.empty) : BestAt o (k + 1) b := by
  have e := opnT_take hk
  rw [if_neg hr, List.append_nil] at e
  obtain ⟨h1, h2⟩ := h
  exact ⟨by rw [e]; exact h1, by rw [e]; exact h2⟩
theorem BestAt.nz_one (h : BestAt o k b) (hk : k < o.length) (hr : o[k].ready = ByteArray.empty) (hz : o[k].next ≠ 0) : ∀ x ∈ opnT (o.take (k + 1)), x.next ≠ 0 := by
  have e := opnT_take hk
  rw [if_pos hr] at e
  rw [e]
  intro x hx
  rcases List.mem_append.1 hx with hx | hx
  · exact h.nz x hx
  · simp at hx
    rw [hx]
    exact hz
theorem BestAt.none_ (h : BestAt o k (-1)) : opnT (o.take k) = [] := by
  rcases h.best with ⟨-, h⟩ | ⟨j, hj, T1, T2, e, -⟩
  · exact h
  · omega
theorem BestAt.some_ {j : Nat} (h : BestAt o k (j : Int)) (hj : j < o.length) : ∃ T1 T2, opnT (o.take k) = T1 ++ o[j] :: T2 ∧ (∀ x ∈ T1, x.next < o[j].next) ∧ ∀ x ∈ T2, x.next ≤ o[j].next := by
  rcases h.best with ⟨h, -⟩ | ⟨j', hj', T1, T2, e, h⟩
  · omega
  · obtain rfl : j = j' := by omega
    exact ⟨T1, T2, h⟩
theorem BestAt.lt {j : Nat} (h : BestAt o k (j : Int)) : j < o.length := by
  rcases h.best with ⟨h, -⟩ | ⟨j', hj', T1, T2, e, h⟩
  · omega
  · omega
theorem BestAt.neg (h : BestAt o k b) : b = -1 ∨ ∃ j : Nat, b = (j : Int) ∧ j < o.length := by
  rcases h.best with ⟨h, -⟩ | ⟨j', hj', T1, T2, e, h⟩
  · exact .inl h
  · exact .inr ⟨j', e, hj'⟩
theorem BestAt.first (h : BestAt o k (-1)) (hk : k < o.length) (hr : o[k].ready = ByteArray.empty) (hz : o[k].next ≠ 0) : BestAt o (k + 1) (k : Int) := by
  refine ⟨h.nz_one hk hr hz, .inr ⟨k, hk, [], [], rfl, ?_, fun x hx => (by cases hx), fun x hx => (by cases hx)⟩⟩
  rw [opnT_take hk, if_pos hr, h.none_]
theorem BestAt.more {j : Nat} (h : BestAt o k (j : Int)) (hj : j < o.length) (hk : k < o.length) (hr : o[k].ready = ByteArray.empty) (hz : o[k].next ≠ 0) (hgt : o[j].next < o[k].next) : BestAt o (k + 1) (k : Int) := by
  obtain ⟨T1, T2, e, h1, h2⟩ := h.some_ hj
  refine ⟨h.nz_one hk hr hz, .inr ⟨k, hk, T1 ++ o[j] :: T2, [], rfl, ?_, fun x hx => ?_, fun x hx => (by cases hx)⟩⟩
  · rw [opnT_take hk, if_pos hr, e]
  · rcases List.mem_append.1 hx with hx | hx
    · have := h1 x hx; omega
    · rcases List.mem_cons.1 hx with rfl | hx
      · exact hgt
      · have := h2 x hx; omega
theorem BestAt.less {j : Nat} (h : BestAt o k (j : Int)) (hj : j < o.length) (hk : k < o.length) (hr : o[k].ready = ByteArray.empty) (hz : o[k].next ≠ 0) (hle : ¬ o[j].next < o[k].next) : BestAt o (k + 1) (j : Int) := by
  obtain ⟨T1, T2, e, h1, h2⟩ := h.some_ hj
  refine ⟨h.nz_one hk hr hz, .inr ⟨j, hj, T1, T2 ++ [o[k]], rfl, ?_, h1, fun x hx => ?_⟩⟩
  · rw [opnT_take hk, if_pos hr, e]
    simp
  · rcases List.mem_append.1 hx with hx | hx
    · exact h2 x hx
    · simp at hx
      rw [hx]
      omega

def recZ : Rec := ⟨0, 0, 0, 0, ByteArray.empty, ByteArray.empty, 0, 0, ByteArray.empty, []⟩
/-- What next returns. -/
def NextIs (W : PW) (w : World) (e : Ending) (w' : World) : Prop := ∃ o, IsOpens W.unit o ∧ New w w' ∧
  ((opnT o = [] ∧ e = .returned (.tuple #[.agg (recCells recZ (.slice none 0 0) (.slice none 0 0) (.slice none 0 0)), .bool false])) ∨
   (∃ T1 u T2, opnT o = T1 ++ u :: T2 ∧ (∀ x ∈ T1, x.next ≠ 0) ∧ u.next = 0 ∧ e = .returned (.tuple #[.agg (recCells (overRec u.unit) (.slice none 0 0) (.slice none 0 0) (.slice none 0 0)), .bool true])) ∨
   (∃ T1 u T2 q c, opnT o = T1 ++ u :: T2 ∧ (∀ x ∈ T1 ++ u :: T2, x.next ≠ 0) ∧ (∀ x ∈ T1, x.next < u.next) ∧ (∀ x ∈ T2, x.next ≤ u.next) ∧
     e = .returned (.tuple #[.agg (recCells (undoW W u.unit) (.slice none 0 0) (.slice q (undoW W u.unit).after.size c) (.slice none 0 0)), .bool true]) ∧ Content w' (.slice q (undoW W u.unit).after.size c) (undoW W u.unit).after))
theorem results_cell_row_tmp {fn : Func} {p u : Tmp} {ty : TypeId} (h : fn.results = #[.cell p ty, .tmp u]) (tmps : Array Value) (w : World) (g : Nat) (t : TypeId) (cs : Array Value) (fr : Nat × Nat) (fs : Array Field)
    (hp : tmps.getD p undef = .pointer (some ⟨g, 0, none⟩)) (hg : w.heap[g]? = some (.cells cs t fr))
    (hu : Try.prog.underlying ty = some (.struct fs)) (hi : (Try.prog.info? ty).map (·.size) = some cs.size) :
    (results fn tmps).run Try.prog w = .ok (.tuple #[.agg cs, tmps.getD u undef]) w := by
  rw [results_cell_tmp h, hp]
  simp [asAddr, run_loadVar_row w g t ty cs fr (.struct fs) hg hu rfl hi]
theorem live_left {W : PW} {o : List Opn} (h : IsOpens W.unit o) {x : Opn} (hx : x ∈ o) : Live (W.unit x.unit) ∧ x.next = (lastN (W.unit x.unit).left : Int) := by
  obtain ⟨h1, h2⟩ := (h.2 x).1 hx
  exact ⟨h1, by rw [h2]; rfl⟩
/-- What the specification's restart needs of the world. -/
structure WInv (l : List Rec) (W : PW) : Prop where
  recs : ∃ O, W.recs = l ++ O
  len : W.recs.length ≤ 20000
  left : ∀ n, ∀ k ∈ (W.unit n).left, 1 ≤ k ∧ k ≤ l.length ∧ (recN l k).kind = 1 ∧ (recN l k).before.size ≤ 1000 ∧ placeB (recN l k) = true ∧ (recN l k).before.size = (recN l k).after.size
  st : ∀ n, 0 ≤ (W.unit n).st ∧ (W.unit n).st ≤ 3
  lefts : ∀ n, (W.unit n).left.length ≤ 1000
  page : ∀ p, (W.page p).size = 128
theorem recN_app (l O : List Rec) {k : Nat} (h1 : 1 ≤ k) (h2 : k ≤ l.length) : recN (l ++ O) k = recN l k := by
  unfold recN
  rw [List.getElem?_append_left (by omega)]
set_option maxRecDepth 100000 in
set_option maxHeartbeats 8000000 in
theorem next_any (l : List Rec) (w0 : Base) (wb : Nat) (S : RSh) (W : PW) (w : World) (h : RefAt w0 w wb S W) (hi : WInv l W) (hll : S.lu.length ≤ 1000) :
    Calls Try.prog 40 #[.pointer (some ⟨wb, 0, none⟩)] w (NextIs W w) := by
  have N1 := hid ((New.refl w).alloc #[.int .i64 0, .int .i64 0, .int .i64 0, .int .i64 0, .slice none 0 0, .slice none 0 0, .int .i64 0, .int .i64 0, .string ⟨#[]⟩, .slice none 0 0] 36)
  have B1 := hid (alloc_block w (.cells #[.int .i64 0, .int .i64 0, .int .i64 0, .int .i64 0, .slice none 0 0, .slice none 0 0, .int .i64 0, .int .i64 0, .string ⟨#[]⟩, .slice none 0 0] 36))
  have H1 := hid (h.newer N1.out)
  have HI := hid hi
  have HLL := hid hll
  have HQ0 := hid (Nat.le_refl w.heap.size)
  clear h hi hll
  go_enter Try.func40, Try.ntmps40
  go_wp2_with fail
  generalize w.alloc (.cells #[.int .i64 0, .int .i64 0, .int .i64 0, .int .i64 0, .slice none 0 0, .slice none 0 0, .int .i64 0, .int .i64 0, .string ⟨#[]⟩, .slice none 0 0] 36) = w1 at *
  obtain ⟨rq, hrq⟩ : ∃ rq, w.heap.size = rq := ⟨_, rfl⟩
  have HRQ : Hid (w.heap.size ≤ rq) := hid (by omega)
  rw [hrq] at B1 ⊢
  clear hrq HQ0
  refine (ropens_any w0 wb S W w1 H1.out HI.out.st HLL.out HI.out.lefts).mono ?_
  rintro e w2 ⟨v2, o, rfl, ho, hrow, n2, hlen⟩
  obtain ⟨po, co, rfl, hc1, hc2⟩ := hrow.form
  have HO := hid ho
  have HROW := hid hrow
  have N2 := hid n2
  have HOL : Hid (o.length ≤ 1000) := hid (Nat.le_trans hlen HLL.out)
  have B2 := hid ((Below.block n2 rq (Array.getElem?_eq_some_iff.1 B1.out).1).trans B1.out)
  have H2 := hid (H1.out.newer n2)
  clear ho hrow n2 hlen B1 H1
  have hol := HOL.out
  go_wp2_with fail
  go_loopw [5, 6] (fun bv i wr => ∃ (k : Nat) (b : Int), k ≤ o.length ∧ i = .int .i64 k ∧ bv = .int .i64 b ∧ Hid (New w2 wr) ∧ Hid (BestAt o k b)) (fun _ i _ => o.length - (intOf i).toNat)
  case atStart => exact ⟨0, -1, Nat.zero_le _, rfl, rfl, hid (New.refl w2), hid (BestAt.nil o)⟩
  case round =>
    obtain ⟨k, b, hk, rfl, rfl, hn, hB⟩ := hrel
    have HN := hid hn.out
    have HB := hid hB.out
    clear hn hB
    by_cases hlt : k < o.length
    · obtain ⟨pp, c', e1, -, -, hcell⟩ := (HROW.out.new HN.out)
      injection e1 with e11 _ e13
      subst e11 e13
      obtain ⟨g, og, rfl, hg, hcg⟩ := hcell (by omega)
      obtain ⟨c0, c1, c2⟩ := opns_at hcg k hlt
      have HCG := hid hcg
      have HSKIP := hid (HB.out.skip hlt)
      have HSPLIT := hid (opnT_split hlt)
      have HNZ := hid HB.out.nz
      have HFIRST : Hid (b = -1 → o[k].ready = ByteArray.empty → o[k].next ≠ 0 → BestAt o (k + 1) (k : Int)) := hid (fun e h1 h2 => by subst e; exact HB.out.first hlt h1 h2)
      have HMORE : Hid (∀ (j : Nat) (hj : j < o.length), b = (j : Int) → o[k].ready = ByteArray.empty → o[k].next ≠ 0 → o[j].next < o[k].next → BestAt o (k + 1) (k : Int)) := hid (fun j hj e h1 h2 h3 => by subst e; exact HB.out.more hj hlt h1 h2 h3)
      have HLESS : Hid (∀ (j : Nat) (hj : j < o.length), b = (j : Int) → o[k].ready = ByteArray.empty → o[k].next ≠ 0 → ¬ o[j].next < o[k].next → BestAt o (k + 1) (j : Int)) := hid (fun j hj e h1 h2 h3 => by subst e; exact HB.out.less hj hlt h1 h2 h3)
      have hem := empty_is o[k].ready
      clear hcell hcg
      generalize hx : o[k] = x at *
      clear hx
      by_cases hr : x.ready = ByteArray.empty
      case neg =>
        have t1 : x.ready.toList.isEmpty = false := by rw [hem]; exact decide_eq_false hr
        have HX := hid (HSKIP.out hr)
        clear hr hem
        go_wp2
        go_roundw
        case rel => exact ⟨k + 1, b, by omega, by go_num, rfl, HN, HX⟩
        case measure => simp [intOf]; omega
      have t1 : x.ready.toList.isEmpty = true := by rw [hem]; exact decide_eq_true hr
      have HR := hid hr
      clear hr hem
      by_cases hz : x.next = 0
      · have t2 : (x.next == 0) = true := by simpa using hz
        have HZ := hid hz
        have B3 := hid ((Below.block HN.out rq (Array.getElem?_eq_some_iff.1 B2.out).1).trans B2.out)
        have hzc := cells_of B3.out
        have hzf := frozen_of B3.out
        have hrql := (Array.getElem?_eq_some_iff.1 B3.out).1
        obtain ⟨hten, tten⟩ := ten_sets B3.out rfl (.int .i64 4) (.int .i64 x.unit) (.int .i64 0) (.int .i64 0) (.slice none 0 0) (.slice none 0 0) (.int .i64 0) (.int .i64 0) (.string ⟨#[]⟩) (.slice none 0 0)
        have HTEN := hid hten
        clear hz hten tten
        go_wp2
        refine bodyPost_ret (results_cell_row_tmp rfl _ _ rq 36 _ (0, 0) _ rfl HTEN.out Try.underlying36 (by kernel_rfl)) rfl ?_
        exact ⟨o, HO.out, ten_new ((N1.out.trans N2.out).trans HN.out) HRQ.out _ _ _ _ _ _ _ _ _ _, .inr (.inl ⟨_, x, _, HSPLIT.out HR.out, HNZ.out, HZ.out, rfl⟩)⟩
      have t2 : (x.next == 0) = false := by simpa using hz
      have HZ := hid hz
      clear hz
      rcases HB.out.neg with rfl | ⟨j, rfl, hj⟩
      · have HX := hid (HFIRST.out rfl HR.out HZ.out)
        have tb : decide ((-1 : Int) < 0) = true := by decide
        go_wp2_with fail
        go_region
        go_wp2
        go_roundw
        case rel => exact ⟨k + 1, (k : Int), by omega, by go_num, rfl, hid HN.out.drew, HX⟩
        case measure => simp [intOf]; omega
      · have tb : decide ((j : Int) < 0) = false := decide_eq_false (by omega)
        obtain ⟨d0, d1, d2⟩ := opns_at HCG.out j hj
        have HMO := hid (HMORE.out j hj rfl HR.out HZ.out)
        have HLE := hid (HLESS.out j hj rfl HR.out HZ.out)
        clear d0 d2
        generalize o[j] = y at *
        by_cases hgt : y.next < x.next
        · have t3 : decide (y.next < x.next) = true := by simpa using hgt
          have HX := hid (HMO.out hgt)
          clear hgt
          go_wp2_with fail
          go_region
          go_wp2
          go_roundw
          case rel => exact ⟨k + 1, (k : Int), by omega, by go_num, rfl, hid HN.out.drew, HX⟩
          case measure => simp [intOf]; omega
        · have t3 : decide (y.next < x.next) = false := by simpa using hgt
          have HX := hid (HLE.out hgt)
          clear hgt
          go_wp2_with fail
          go_region
          go_wp2
          go_roundw
          case rel => exact ⟨k + 1, (j : Int), by omega, by go_num, rfl, hid HN.out.drew, HX⟩
          case measure => simp [intOf]; omega
    · obtain rfl : k = o.length := by omega
      have B3 := hid ((Below.block HN.out rq (Array.getElem?_eq_some_iff.1 B2.out).1).trans B2.out)
      have N3 := hid ((N1.out.trans N2.out).trans HN.out)
      have hzc := cells_of B3.out
      have hzf := frozen_of B3.out
      have hrql := (Array.getElem?_eq_some_iff.1 B3.out).1
      have HB2 : Hid (BestAt o o.length b) := hid HB.out
      have hneg := HB.out.neg
      have HTA : Hid (o.take o.length = o) := hid List.take_length
      clear hlt hk
      rcases hneg with rfl | ⟨j, rfl, hj⟩
      · have tb : decide ((-1 : Int) < 0) = true := by decide
        have HX := hid HB2.out.none_
        rw [HTA.out] at HX
        obtain ⟨hten, tten⟩ := ten_sets B3.out rfl (.int .i64 0) (.int .i64 0) (.int .i64 0) (.int .i64 0) (.slice none 0 0) (.slice none 0 0) (.int .i64 0) (.int .i64 0) (.string ⟨#[]⟩) (.slice none 0 0)
        have HTEN := hid hten
        clear hten tten
        go_wp2
        refine bodyPost_ret (results_cell_row_tmp rfl _ _ rq 36 _ (0, 0) _ rfl HTEN.out Try.underlying36 (by kernel_rfl)) rfl ?_
        exact ⟨o, HO.out, ten_new N3.out HRQ.out _ _ _ _ _ _ _ _ _ _, .inl ⟨HX.out, rfl⟩⟩
      have tb : decide ((j : Int) < 0) = false := decide_eq_false (by omega)
      obtain ⟨T1, T2, hT, hT1, hT2⟩ := HB2.out.some_ hj
      have hnz := HB2.out.nz
      rw [HTA.out] at hT hnz
      have HT := hid hT
      have HT1 := hid hT1
      have HT2 := hid hT2
      have HNZ : Hid (∀ x ∈ T1 ++ o[j] :: T2, x.next ≠ 0) := hid (by rw [← hT]; exact hnz)
      obtain ⟨pp, c', e1, -, -, hcell⟩ := (HROW.out.new HN.out)
      injection e1 with e11 _ e13
      subst e11 e13
      obtain ⟨g, og, rfl, hg, hcg⟩ := hcell (by omega)
      obtain ⟨c0, c1, c2⟩ := opns_at hcg j hj
      have HLV := hid (live_left HO.out (List.getElem_mem hj))
      have H3 := hid (H2.out.newer HN.out)
      clear hcell hcg hT hT1 hT2 hnz c1 c2
      generalize o[j] = u at *
      go_wp2_with fail
      refine (find_any w0 wb S W u.unit _ H3.out).mono ?_
      rintro e w4 (⟨hno, -, -⟩ | ⟨x, hx, hxu, rfl, rfl⟩)
      · exact absurd (H3.out.units.none _ hno) (fun e => by have := HLV.out.1.1; rw [e] at this; cases this)
      obtain ⟨xn, xb, xv⟩ := x
      obtain rfl : xn = u.unit := hxu
      have hne : (W.unit u.unit).left ≠ [] := fun e => HNZ.out u (by simp) (by rw [HLV.out.2, e]; rfl)
      have hlm := lastN_mem hne
      obtain ⟨O', hO'⟩ := HI.out.recs
      obtain ⟨k1, k2, k3, k4, k5, k6⟩ := HI.out.left u.unit _ hlm
      have hrN := recN_app l O' k1 k2
      rw [← hO'] at hrN
      have HC : Hid _ := hid (rundone_any w0 wb S W u.unit xb xv _ H3.out hx hne (fun k hk => by
        obtain ⟨a1, a2, -⟩ := HI.out.left u.unit k hk
        refine ⟨a1, ?_⟩
        rw [hO', List.length_append]
        omega) (HI.out.lefts _) (by have := HI.out.len; omega) (by rw [hrN]; omega) (by rw [hrN]; exact k3))
      clear hne hlm hO' k1 k2 k3 k4 k5 k6 hrN hx hzc hzf hrql
      go_wp2_with fail
      refine HC.out.mono ?_
      rintro e w5 ⟨q, c5, rfl, h5, n5⟩
      have H5 := hid h5
      have N5 := hid n5
      have B5 := hid ((Below.block n5 rq (Array.getElem?_eq_some_iff.1 B3.out).1).trans B3.out)
      clear HC h5 n5
      obtain ⟨U, hU⟩ : ∃ U, undoW W u.unit = U := ⟨_, rfl⟩
      have HU := hid hU
      rw [hU] at H5 ⊢
      have hzc := cells_of B5.out
      have hzf := frozen_of B5.out
      have hrql := (Array.getElem?_eq_some_iff.1 B5.out).1
      obtain ⟨hten, tten⟩ := ten_sets B5.out rfl (.int .i64 U.kind) (.int .i64 U.unit) (.int .i64 U.page) (.int .i64 U.at_) (.slice none 0 0) (.slice q U.after.size c5) (.int .i64 U.back) (.int .i64 U.next) (.string U.text) (.slice none 0 0)
      have HTEN := hid hten
      have HTT := hid tten
      clear hten tten hU
      go_wp2
      refine bodyPost_ret (results_cell_row_tmp rfl _ _ rq 36 _ (0, 0) _ rfl HTEN.out Try.underlying36 (by kernel_rfl)) rfl ?_
      refine ⟨o, HO.out, ten_new (N3.out.trans N5.out) HRQ.out _ _ _ _ _ _ _ _ _ _, .inr (.inr ⟨T1, u, T2, q, c5, HT.out, HNZ.out, HT1.out, HT2.out, by rw [HU.out]; rfl, ?_⟩)⟩
      rw [HU.out]
      exact H5.out.turn HTT.out (fun j c fr hj e => by
        rw [hj] at e
        exact absurd (kind_cells e B5.out).2 (by decide))
end Go.Proofs.Ytmchbciofdokfaa

namespace Go.Proofs.Ytmchbciofdokfaa
open Go.RowKit
set_option linter.unusedSimpArgs false
set_option linter.unusedVariables false

theorem opnT_units {f : Int → AU} {o : List Opn} (h : IsOpens f o) : ((opnT o).map (·.unit)).Pairwise (· < ·) := List.Pairwise.sublist (List.Sublist.map _ List.filter_sublist) h.1
theorem split_units {T1 T2 : List Opn} {u : Opn} (h : ((T1 ++ u :: T2).map (·.unit)).Pairwise (· < ·)) : ∀ x, x ∈ T1 ∨ x ∈ T2 → x.unit ≠ u.unit := fun x hx e => by
  rw [List.map_append, List.map_cons, List.pairwise_append, List.pairwise_cons] at h
  obtain ⟨h1, ⟨h2, h3⟩, h4⟩ := h
  rcases hx with hx | hx
  · have := h4 x.unit (List.mem_map_of_mem hx) u.unit (by simp)
    omega
  · have := h2 x.unit (List.mem_map_of_mem hx)
    omega
theorem opnT_mem {o : List Opn} {x : Opn} (h : x ∈ opnT o) : x ∈ o := (List.mem_filter.1 h).1
theorem step_over {l : List Rec} {W : PW} {o T1 T2 : List Opn} {u : Opn} (h : IsOpens W.unit o) (ht : opnT o = T1 ++ u :: T2) (h1 : ∀ x ∈ T1, x.next ≠ 0) (h2 : u.next = 0) :
    ∃ o', IsOpens (next W (overRec u.unit)).unit o' ∧ Step l (todo0 W o) (overRec u.unit) (todo0 (next W (overRec u.unit)) o') := by
  have hun : ∀ m, (next W (overRec u.unit)).unit m = if m = u.unit then (⟨3, (W.unit m).left, (W.unit m).text, true⟩ : AU) else W.unit m := fun m => by
    show (if m = u.unit then touch (W.unit m) (overRec u.unit) (W.recs.length + 1) else W.unit m) = _
    rfl
  refine ⟨o.filter fun x => decide (x.unit ≠ u.unit), ⟨List.Pairwise.sublist (List.Sublist.map _ List.filter_sublist) h.1, fun x => ?_⟩, ?_⟩
  · rw [List.mem_filter, decide_eq_true_eq, hun]
    by_cases e : x.unit = u.unit
    · rw [if_pos e]
      constructor
      · intro h; exact absurd e h.2
      · intro h
        have := h.1.2
        simp at this
    · rw [if_neg e, ← h.2 x]
      exact ⟨fun h => h.1, fun h => ⟨h, e⟩⟩
  · have hs := split_units (by rw [← ht]; exact opnT_units h)
    have e1 : (opnT (o.filter fun x => decide (x.unit ≠ u.unit))) = T1 ++ T2 := by
      have e2 : opnT (o.filter fun x => decide (x.unit ≠ u.unit)) = (opnT o).filter fun x => decide (x.unit ≠ u.unit) := by
        unfold opnT
        rw [List.filter_filter, List.filter_filter]
        apply List.filter_congr
        intro x _
        rw [Bool.and_comm]
      rw [e2, ht, List.filter_append, List.filter_cons, if_neg (by simp), List.filter_eq_self.2 (fun x hx => decide_eq_true (hs x (.inl hx))), List.filter_eq_self.2 (fun x hx => decide_eq_true (hs x (.inr hx)))]
    have e3 : todo0 W o = ⟨T1 ++ u :: T2, fun n => (W.unit n).left⟩ := by rw [← ht]; rfl
    have e4 : todo0 (next W (overRec u.unit)) (o.filter fun x => decide (x.unit ≠ u.unit)) = ⟨T1 ++ T2, fun n => (W.unit n).left⟩ := by
      rw [← e1]
      unfold todo0
      congr 1
      funext n
      rw [hun]
      split <;> rfl
    rw [e3, e4]
    exact .over h1 h2
theorem step_undo {l : List Rec} {W : PW} {o T1 T2 : List Opn} {u : Opn} (hi : WInv l W) (h : IsOpens W.unit o) (ht : opnT o = T1 ++ u :: T2) (h1 : ∀ x ∈ T1 ++ u :: T2, x.next ≠ 0) (h2 : ∀ x ∈ T1, x.next < u.next) (h3 : ∀ x ∈ T2, x.next ≤ u.next) :
    ∃ o', IsOpens (next W (undoW W u.unit)).unit o' ∧ Step l (todo0 W o) (undoW W u.unit) (todo0 (next W (undoW W u.unit)) o') := by
  have hun : ∀ m, (next W (undoW W u.unit)).unit m = if m = u.unit then (⟨(W.unit m).st, (W.unit m).left.dropLast, (W.unit m).text, true⟩ : AU) else W.unit m := fun m => by
    show (if m = u.unit then touch (W.unit m) (undoW W u.unit) (W.recs.length + 1) else W.unit m) = _
    rfl
  have huo : u ∈ o := opnT_mem (by rw [ht]; simp)
  obtain ⟨hlv, hnx⟩ := live_left h huo
  let g : Opn → Opn := fun x => if x.unit = u.unit then ⟨x.unit, (lastN (W.unit x.unit).left.dropLast : Int), x.ready⟩ else x
  have gu : ∀ x, (g x).unit = x.unit := fun x => by simp only [g]; split <;> rfl
  have gr : ∀ x, (g x).ready = x.ready := fun x => by simp only [g]; split <;> rfl
  have hgo : ∀ x ∈ o, g x = openOf x.unit ((next W (undoW W u.unit)).unit x.unit) := fun x hx => by
    obtain ⟨a1, a2⟩ := (h.2 x).1 hx
    rw [hun]
    simp only [g]
    by_cases e : x.unit = u.unit
    · rw [if_pos e, if_pos e]
      have : x.ready = (W.unit x.unit).text := by rw [a2]; rfl
      rw [this]
      rfl
    · rw [if_neg e, if_neg e]
      exact a2
  have hlive : ∀ n, Live ((next W (undoW W u.unit)).unit n) ↔ Live (W.unit n) := fun n => by
    rw [hun]
    by_cases e : n = u.unit
    · rw [if_pos e, e]
      exact ⟨fun _ => hlv, fun h => ⟨rfl, hlv.2⟩⟩
    · rw [if_neg e]
  refine ⟨o.map g, ⟨?_, fun x => ?_⟩, ?_⟩
  · rw [List.map_map]
    have : ((fun x : Opn => x.unit) ∘ g) = fun x => x.unit := funext gu
    rw [this]
    exact h.1
  · rw [List.mem_map, hlive]
    constructor
    · rintro ⟨y, hy, rfl⟩
      rw [gu]
      exact ⟨((h.2 y).1 hy).1, hgo y hy⟩
    · rintro ⟨a1, a2⟩
      have hm : openOf x.unit (W.unit x.unit) ∈ o := (h.2 (openOf x.unit (W.unit x.unit))).2 ⟨a1, rfl⟩
      exact ⟨_, hm, (hgo _ hm).trans a2.symm⟩
  · have hs := split_units (by rw [← ht]; exact opnT_units h)
    have e1 : opnT (o.map g) = T1 ++ ⟨u.unit, (lastN (W.unit u.unit).left.dropLast : Int), u.ready⟩ :: T2 := by
      have e2 : opnT (o.map g) = (opnT o).map g := by
        unfold opnT
        rw [List.filter_map]
        congr 1
        apply List.filter_congr
        intro x _
        show decide ((g x).ready = _) = _
        rw [gr]
      rw [e2, ht, List.map_append, List.map_cons]
      have a1 : T1.map g = T1 := by
        conv => rhs; rw [← List.map_id T1]
        exact List.map_congr_left fun x hx => by simp only [g]; rw [if_neg (hs x (.inl hx))]; rfl
      have a2 : T2.map g = T2 := by
        conv => rhs; rw [← List.map_id T2]
        exact List.map_congr_left fun x hx => by simp only [g]; rw [if_neg (hs x (.inr hx))]; rfl
      rw [a1, a2]
      simp only [g, if_pos]
    have e3 : todo0 W o = ⟨T1 ++ u :: T2, fun n => (W.unit n).left⟩ := by rw [← ht]; rfl
    have e4 : todo0 (next W (undoW W u.unit)) (o.map g) = ⟨T1 ++ ⟨u.unit, (lastN (W.unit u.unit).left.dropLast : Int), u.ready⟩ :: T2, popL (fun n => (W.unit n).left) u.unit⟩ := by
      rw [← e1]
      unfold todo0
      congr 1
      funext n
      rw [hun]
      unfold popL
      split <;> rfl
    have hne : (W.unit u.unit).left ≠ [] := fun e => h1 u (by simp) (by rw [hnx, e]; rfl)
    obtain ⟨k1, k2, -⟩ := hi.left u.unit _ (lastN_mem hne)
    obtain ⟨O', hO'⟩ := hi.recs
    have hrN := recN_app l O' k1 k2
    rw [← hO'] at hrN
    have e5 : undoW W u.unit = undoRec l (fun n => (W.unit n).left) u := by
      unfold undoW undoRec
      rw [hnx, Int.toNat_natCast, hrN]
    rw [e3, e4, e5]
    exact .undo h1 h2 h3
end Go.Proofs.Ytmchbciofdokfaa

namespace Go.Proofs.Ytmchbciofdokfaa
open Go.RowKit
set_option linter.unusedSimpArgs false
set_option linter.unusedVariables false

/-- Blocks that add may turn. -/
def TX (S : RSh) (w : World) (k : Nat) : Prop := (∀ c t fr, w.heap[k]? = some (.cells c t fr) → t = 83 ∨ t = 85 ∨ t = 88 ∨ t = 3) ∨ S.rv.ownBlock = some k
open Classical in
noncomputable def grOf (S : RSh) (w : World) : Nat → Option Obj := fun k => if TX S w k then none else w.heap[k]?
theorem ghosts_of (S : RSh) (w : World) : Ghosts (grOf S w) w S.rv := fun k o h => by
  unfold grOf at h
  by_cases e : TX S w k
  · rw [if_pos e] at h; cases h
  · rw [if_neg e] at h
    refine ⟨h, ?_, fun e2 => e (.inr e2)⟩
    apply Classical.byContradiction
    intro hno
    refine e (.inl fun c t fr e3 => ?_)
    rw [h] at e3
    injection e3 with e3
    apply Classical.byContradiction
    intro e4
    exact hno ⟨c, t, fr, e3, fun h => e4 (.inl h), fun h => e4 (.inr (.inl h)), fun h => e4 (.inr (.inr (.inl h))), fun h => e4 (.inr (.inr (.inr h)))⟩
theorem RefAt.reghost {w0 : Base} {w : World} {wb : Nat} {S : RSh} {W : PW} (h : RefAt w0 w wb S W) (gr : Nat → Option Obj) (hg : Ghosts gr w S.rv) : RefAt ⟨w0.toWorld, gr⟩ w wb S W :=
  ⟨h.new, h.raw, h.f0, h.f1, h.page, h.stamp, h.recs, h.units, h.fb, h.fo, h.fu, hg⟩
theorem ghosts_none (w : World) (rv : Value) : Ghosts (fun _ => none) w rv := fun k o h => by cases h
theorem lu_len {w w' : World} {uv uv' : Value} {lu lu' : List (Int × Nat × Value)} {f f' : Int → AU} (h : RUnits w uv lu f) (h' : RUnits w' uv' lu' f') (hs : ∀ n, (f n).seen = (f' n).seen) : lu.length ≤ lu'.length := by
  have := nodup_len h.keys (m := lu'.map (·.1)) (fun n hn => by
    obtain ⟨x, hx, rfl⟩ := List.mem_map.1 hn
    apply Classical.byContradiction
    intro hno
    have h1 := h'.none x.1 (fun y hy e => hno (e ▸ List.mem_map_of_mem hy))
    have h2 := h.seen x hx
    rw [hs, h1] at h2
    cases h2)
  simpa using this
/-- What add returns, and what it leaves as it is. -/
def RAddFrame (w0 : World) (wb : Nat) (S : RSh) (W : PW) (r : Rec) (w : World) (e : Ending) (w' : World) : Prop :=
  e = .returned (.tuple #[]) ∧ ∃ S', RefAt w0 w' wb S' (next W r) ∧ Turn (TX S w) w w' ∧ ∀ k, k < w.heap.size → ¬ TX S w k → S'.rv.ownBlock ≠ some k
theorem radd_frame (w0 : World) (wb : Nat) (S : RSh) (W : PW) (r : Rec) (bv av uv : Value) (w : World) (h : RefAt w0 w wb S W) (hr : RecAt w r bv av uv) (haf : AfterAt w0 w av r.after)
    (hp : lays r = true → placeB r = true) (hk : r.kind = 2 ∨ r.kind = 4) (h2 : r.kind = 2 → (W.unit r.unit).left ≠ []) (hz : ∀ p, (W.page p).size = 128) (hrl : W.recs.length ≤ 100000) (hlf : ∀ n, (W.unit n).left.length ≤ 100000) (hll : S.lu.length ≤ 100000)
    {q : Nat} {c : Array Value} {fr : Nat × Nat} (hq : w.heap[q]? = some (.cells c 36 fr)) (hqs : w.heap.size = q + 1) (hqr : S.rv.ownBlock ≠ some q) :
    Calls Try.prog 41 #[.pointer (some ⟨wb, 0, none⟩), .agg (recCells r bv av uv)] w (RAddFrame w0 wb S W r w) := by
  refine (radd_any ⟨w0, grOf S w⟩ wb S W r bv av uv w (h.reghost _ (ghosts_of S w)) hr (fun e => by omega) haf hp (by omega) h2 hz hrl hlf hll).mono ?_
  rintro e w' ⟨rfl, S', h', -⟩
  have hqX : ¬ TX S w q := fun e => by
    rcases e with e | e
    · rcases e _ _ _ hq with e | e | e | e <;> exact absurd e (by decide)
    · exact hqr e
  have keep : ∀ k o, ¬ TX S w k → w.heap[k]? = some o → w'.heap[k]? = some o ∧ S'.rv.ownBlock ≠ some k := fun k o hX ho => by
    obtain ⟨a1, _, a3⟩ := h'.gh k o (by show grOf S w k = some o; unfold grOf; rw [if_neg hX]; exact ho)
    exact ⟨a1, a3⟩
  have hsz : w.heap.size ≤ w'.heap.size := by
    have := (Array.getElem?_eq_some_iff.1 (keep q _ hqX hq).1).1
    omega
  have n1 : New w0 w := h.new
  have n2 : New w0 w' := h'.new
  refine ⟨rfl, S', h'.reghost _ (ghosts_none _ _), ⟨n2.os.trans n1.os.symm, n2.tape.trans n1.tape.symm, n2.output.trans n1.output.symm, hsz, fun k hk hX => ?_⟩, fun k hk hX => ?_⟩
  · have ho := Array.getElem?_eq_getElem hk
    rw [(keep k _ hX ho).1, ho]
  · exact (keep k _ hX (Array.getElem?_eq_getElem hk)).2
theorem WInv.over {l : List Rec} {W : PW} (h : WInv l W) (n : Int) (hl : W.recs.length < 20000) : WInv l (next W (overRec n)) := by
  obtain ⟨⟨O, hO⟩, h2, h3, h4, h5, h6⟩ := h
  have hun : ∀ m, (next W (overRec n)).unit m = if m = n then (⟨3, (W.unit m).left, (W.unit m).text, true⟩ : AU) else W.unit m := fun m => rfl
  have hleft : ∀ m, ((next W (overRec n)).unit m).left = (W.unit m).left := fun m => by rw [hun]; split <;> rfl
  refine ⟨⟨O ++ [overRec n], by show W.recs ++ _ = _; rw [hO, List.append_assoc]⟩, by show (W.recs ++ [overRec n]).length ≤ _; simp; omega, fun m k hk => h3 m k (by rw [hleft] at hk; exact hk), fun m => ?_, fun m => by rw [hleft]; exact h5 m, fun p => h6 p⟩
  rw [hun]
  split
  · exact ⟨by show (0 : Int) ≤ 3; decide, by show (3 : Int) ≤ 3; decide⟩
  · exact h4 m
theorem undo_place {l : List Rec} {W : PW} (h : WInv l W) {n : Int} (hne : (W.unit n).left ≠ []) : placeB (undoW W n) = true := by
  obtain ⟨k1, k2, k3, k4, k5, k6⟩ := h.left n _ (lastN_mem hne)
  obtain ⟨O', hO'⟩ := h.recs
  have hrN := recN_app l O' k1 k2
  rw [← hO'] at hrN
  have e : placeB (undoW W n) = placeB (recN l (lastN (W.unit n).left)) := by
    unfold placeB undoW
    simp only
    rw [hrN, k6]
  rw [e]
  exact k5
theorem WInv.undo {l : List Rec} {W : PW} (h : WInv l W) {n : Int} (hl : W.recs.length < 20000) (hne : (W.unit n).left ≠ []) : WInv l (next W (undoW W n)) := by
  have hpl := place_bounds (undo_place h hne)
  obtain ⟨⟨O, hO⟩, h2, h3, h4, h5, h6⟩ := h
  have hun : ∀ m, (next W (undoW W n)).unit m = if m = n then (⟨(W.unit m).st, (W.unit m).left.dropLast, (W.unit m).text, true⟩ : AU) else W.unit m := fun m => rfl
  have hsub : ∀ m k, k ∈ ((next W (undoW W n)).unit m).left → k ∈ (W.unit m).left := fun m k hk => by
    rw [hun] at hk
    split at hk
    · exact (List.dropLast_sublist _).subset hk
    · exact hk
  refine ⟨⟨O ++ [undoW W n], by show W.recs ++ _ = _; rw [hO, List.append_assoc]⟩, by show (W.recs ++ [undoW W n]).length ≤ _; simp; omega, fun m k hk => h3 m k (hsub m k hk), fun m => ?_, fun m => ?_, fun p => ?_⟩
  · rw [hun]
    split
    · exact h4 m
    · exact h4 m
  · rw [hun]
    split
    · show ((W.unit m).left.dropLast).length ≤ 1000
      rw [List.length_dropLast]
      have := h5 m
      omega
    · exact h5 m
  · show (if lays (undoW W n) = true ∧ p = (undoW W n).page.toNat then layB (W.page p) (undoW W n).at_.toNat (undoW W n).after else W.page p).size = 128
    split
    · rw [layB_size (by rw [h6 p]; exact hpl.2.2.2.2.2)]
      exact h6 p
    · exact h6 p
/-- Another row of records has turned. -/
theorem RefAt.beside {w0 : Base} {w w' : World} {wb : Nat} {S : RSh} {W : PW} {X : Nat → Prop} (h : RefAt w0 w wb S W) (ht : Turn X w w') (hX : ∀ k, X k → w0.heap.size ≤ k ∧ S.rv.ownBlock ≠ some k ∧ (∃ c fr, w.heap[k]? = some (.cells c 36 fr)) ∧ w0.gr k = none) : RefAt w0 w' wb S W := by
  obtain ⟨xs, hr1, hr2⟩ := h.recs
  obtain ⟨cb, hcb⟩ := h.base
  have typ : ∀ k, X k → ∀ c t fr, w.heap[k]? = some (.cells c t fr) → t = 36 := fun k hk c t fr e => by
    obtain ⟨c', fr', e'⟩ := (hX k hk).2.2.1
    exact (kind_cells e e').2
  refine { h with gh := h.gh.turn ht (fun k hk => .inl (hX k hk).2.2.2) (fun k hk => .inl hk), new := New.turn h.new ht (fun k hk e => ?_), raw := h.raw.turn ht (fun e => absurd (typ _ e _ _ _ hcb) (by decide)), recs := ⟨xs, own_turn hr1 ht (fun k hk e => (hX k e).2.1 hk), hr2⟩, units := h.units.off ht (fun k hk => ⟨fun c t fr e => ?_, fun hl => ?_⟩) }
  · have := (hX k e).1
    omega
  · rw [typ k hk c t fr e]
    decide
  · obtain ⟨x, hx, hk2⟩ := hl
    obtain ⟨c, hc, _⟩ := own_cells (h.units.unit x hx).2 hk2
    exact absurd (typ _ hk _ _ _ hc) (by decide)
theorem tot_small {s : Todo} {a b : Nat} (h1 : s.open_.length ≤ a) (h2 : ∀ m, (s.left m).length ≤ b) : tot s ≤ a * (b + 1) := by
  have key : ∀ T : List Opn, (T.map fun o => (s.left o.unit).length + 1).sum ≤ T.length * (b + 1) := fun T => by
    induction T with
    | nil => simp
    | cons x T ih =>
      rw [List.map_cons, List.sum_cons, List.length_cons, Nat.add_mul]
      have := h2 x.unit
      omega
  exact Nat.le_trans (key s.open_) (Nat.mul_le_mul_right _ h1)
theorem opens_ex {f : Int → AU} (N : Nat) (h : ∀ n, Live (f n) → 0 ≤ n ∧ n < (N : Int)) : ∃ o, IsOpens f o := by
  refine ⟨_, opensOf_is (ks := (List.range N).map fun n : Nat => (n : Int)) ?_ ?_ (fun n hn => ?_)⟩
  · rw [List.pairwise_map]
    exact List.pairwise_lt_range.imp fun h => by omega
  · rw [List.nodup_iff_pairwise_ne, List.pairwise_map]
    exact List.pairwise_lt_range.imp fun h => by omega
  · obtain ⟨h1, h2⟩ := h n hn
    exact List.mem_map.2 ⟨n.toNat, List.mem_range.2 (by omega), by omega⟩
theorem ref_opens_len {w0 : Base} {w : World} {wb : Nat} {S : RSh} {W : PW} (h : RefAt w0 w wb S W) {o : List Opn} (ho : IsOpens W.unit o) : o.length ≤ S.lu.length := by
  have h1 : (o.map (·.unit)).Nodup := ho.1.imp fun h => by omega
  have := nodup_len h1 (m := S.lu.map (·.1)) (fun n hn => by
    obtain ⟨x, hx, rfl⟩ := List.mem_map.1 hn
    apply Classical.byContradiction
    intro hno
    have h1 := h.units.none x.unit (fun y hy e => hno (e ▸ List.mem_map_of_mem hy))
    have h2 := ((ho.2 x).1 hx).1.1
    rw [h1] at h2
    cases h2)
  simpa using this
theorem tx_apart {w0 : Base} {w : World} {wb : Nat} {S : RSh} {W : PW} (h : RefAt w0 w wb S W) : Apart (TX S w) w := fun k c fr hk e => by
  rcases hk with hk | hk
  · rcases hk _ _ _ e with h | h | h | h <;> exact absurd h (by decide)
  · obtain ⟨xs, hr1, _⟩ := h.recs
    obtain ⟨c', hc, _⟩ := own_cells hr1 hk
    exact absurd (kind_cells e hc).2 (by decide)
theorem not_tx {w : World} {S : RSh} {k : Nat} {c : Array Value} {fr : Nat × Nat} (h : w.heap[k]? = some (.cells c 36 fr)) (hk : S.rv.ownBlock ≠ some k) : ¬ TX S w k := fun e => by
  rcases e with e | e
  · rcases e _ _ _ h with e | e | e | e <;> exact absurd e (by decide)
  · exact hk e
theorem ref_rv_lt {w0 : Base} {w : World} {wb : Nat} {S : RSh} {W : PW} (h : RefAt w0 w wb S W) {k : Nat} (hk : S.rv.ownBlock = some k) : k < w.heap.size := by
  obtain ⟨xs, hr1, _⟩ := h.recs
  obtain ⟨c, hc, _⟩ := own_cells hr1 hk
  exact (Array.getElem?_eq_some_iff.1 hc).1
/-- What holds at the head of the loop. -/
structure RRest (l : List Rec) (w wr : World) (wb : Nat) (s0 : Todo) (ov : Value) (W : PW) (S : RSh) (O : List Rec) : Prop where
  at_ : RefAt w wr wb S W
  inv : WInv l W
  recs : W.recs.length = l.length + O.length
  lu : S.lu.length ≤ 1000
  steps : ∃ o, IsOpens W.unit o ∧ Steps l s0 O (todo0 W o)
  orow : ∃ xs, wr.ownsRow 0 36 10 ov O.length xs ∧ RecCells (OutAt wr) O xs
  onew : ∀ k, ov.ownBlock = some k → w.heap.size ≤ k ∧ S.rv.ownBlock ≠ some k
/-- The record that comes next. -/
structure NextRec (l : List Rec) (W : PW) (w : World) (s0 : Todo) (O : List Rec) (r : Rec) (av : Value) : Prop where
  out : OutAt w r (.slice none 0 0) av (.slice none 0 0)
  kind : r.kind = 2 ∨ r.kind = 4
  place : lays r = true → placeB r = true
  left : r.kind = 2 → (W.unit r.unit).left ≠ []
  inv : WInv l (next W r)
  seen : ∀ n, ((next W r).unit n).seen = (W.unit n).seen
  steps : ∃ o, IsOpens (next W r).unit o ∧ Steps l s0 (O ++ [r]) (todo0 (next W r) o)
theorem next_over {l : List Rec} {w wr w2 : World} {wb : Nat} {s0 : Todo} {ov : Value} {W : PW} {S : RSh} {O : List Rec} (h : RRest l w wr wb s0 ov W S O) (hl : W.recs.length < 20000) {o T1 T2 : List Opn} {u : Opn} (ho : IsOpens W.unit o) (ht : opnT o = T1 ++ u :: T2) (h1 : ∀ x ∈ T1, x.next ≠ 0) (h2 : u.next = 0) :
    NextRec l W w2 s0 O (overRec u.unit) (.slice none 0 0) := by
  obtain ⟨o1, ho1, hs⟩ := h.steps
  obtain rfl := opens_one ho1 ho
  obtain ⟨o', a1, a2⟩ := step_over (l := l) ho ht h1 h2
  have hlv := (live_left ho (opnT_mem (show u ∈ opnT _ by rw [ht]; simp))).1
  refine ⟨over_out _ _, .inr rfl, fun e => absurd e (by simp [lays, overRec]), fun e => absurd e (by simp [overRec]), h.inv.over _ hl, fun n => ?_, ⟨o', a1, .snoc hs a2⟩⟩
  show (if n = u.unit then (⟨3, (W.unit n).left, (W.unit n).text, true⟩ : AU) else W.unit n).seen = _
  split
  · next e => rw [e]; exact hlv.1.symm
  · rfl
theorem next_undo {l : List Rec} {w wr w2 : World} {wb : Nat} {s0 : Todo} {ov : Value} {W : PW} {S : RSh} {O : List Rec} (h : RRest l w wr wb s0 ov W S O) (hl : W.recs.length < 20000) {o T1 T2 : List Opn} {u : Opn} (ho : IsOpens W.unit o) (ht : opnT o = T1 ++ u :: T2) (h1 : ∀ x ∈ T1 ++ u :: T2, x.next ≠ 0) (h2 : ∀ x ∈ T1, x.next < u.next) (h3 : ∀ x ∈ T2, x.next ≤ u.next) {av : Value} (hc : Content w2 av (undoW W u.unit).after) :
    NextRec l W w2 s0 O (undoW W u.unit) av := by
  obtain ⟨o1, ho1, hs⟩ := h.steps
  obtain rfl := opens_one ho1 ho
  obtain ⟨o', a1, a2⟩ := step_undo h.inv ho ht h1 h2 h3
  obtain ⟨hlv, hnx⟩ := live_left ho (opnT_mem (show u ∈ opnT _ by rw [ht]; simp))
  have hne : (W.unit u.unit).left ≠ [] := fun e => h1 u (by simp) (by rw [hnx, e]; rfl)
  refine ⟨⟨⟨rfl, rfl⟩, ⟨rfl, rfl⟩, hc⟩, .inl rfl, fun _ => undo_place h.inv hne, fun _ => hne, h.inv.undo hl hne, fun n => ?_, ⟨o', a1, .snoc hs a2⟩⟩
  show (if n = u.unit then (⟨(W.unit n).st, (W.unit n).left.dropLast, (W.unit n).text, true⟩ : AU) else W.unit n).seen = _
  split
  · next e => rw [e]; exact hlv.1.symm
  · rfl
theorem RRest.end_ {l : List Rec} {w wr w4 w5 w9 : World} {wb : Nat} {s0 : Todo} {ov ov9 : Value} {W : PW} {S S4 : RSh} {O : List Rec} {r : Rec} {q : Option Addr} {c : Nat} (h : RRest l w wr wb s0 ov W S O)
    (hx : NextRec l W w4 s0 O r (.slice q r.after.size c)) (h4 : RefAt w w4 wb S4 (next W r)) {xs : List Value} (o4 : w4.ownsRow 0 36 10 ov O.length xs) (c4 : RecCells (OutAt w4) O xs) (hrv : ∀ k, ov.ownBlock = some k → S4.rv.ownBlock ≠ some k) (n5 : New w4 w5)
    (own : w9.ownsRow 0 36 10 ov9 (O.length + 1) (xs ++ (recCells r (.slice none 0 0) (.slice q r.after.size c) (.slice none 0 0)).toList)) (grow : w5.grownBy w9 ov.ownBlock) (blk : ov9.ownBlock = ov.ownBlock ∨ ov9.ownBlock = some w5.heap.size) :
    RRest l w w9 wb s0 ov9 (next W r) S4 (O ++ [r]) := by
  have own36 : ∀ k, ov.ownBlock = some k → ∃ c, w4.heap[k]? = some (.cells c 36 (0, 0)) := fun k hk => by
    obtain ⟨c, hc, _⟩ := own_cells o4 hk
    exact ⟨c, hc⟩
  have t9 : Turn (fun k => ov.ownBlock = some k) w4 w9 := (Turn.of_new n5).grown grow (fun k _ hk => hk)
  have hap : Apart (fun k => ov.ownBlock = some k) w4 := fun k c fr hk e => by
    obtain ⟨c', e'⟩ := own36 k hk
    exact absurd (kind_cells e e').2 (by decide)
  have hn5 := n5.size
  refine ⟨h4.beside t9 (fun k hk => ?_), hx.inv, ?_, ?_, hx.steps, ⟨_, by rw [List.length_append]; exact own, (c4.imp fun r b a u k => k.turn t9 hap).snoc (hx.out.turn t9 hap)⟩, fun k hk => ?_⟩
  · obtain ⟨c', e'⟩ := own36 k hk
    exact ⟨(h.onew k hk).1, hrv k hk, ⟨c', _, e'⟩, rfl⟩
  · show (W.recs ++ [r]).length = _
    rw [List.length_append, List.length_append, h.recs]
    rfl
  · exact Nat.le_trans (lu_len h4.units h.at_.units hx.seen) h.lu
  · rcases blk with e | e
    · rw [e] at hk
      exact ⟨(h.onew k hk).1, hrv k hk⟩
    · rw [e] at hk
      injection hk with hk
      subst hk
      refine ⟨Nat.le_trans h4.new.size hn5, fun e2 => ?_⟩
      have := ref_rv_lt h4 e2
      omega
def lenV : Value → Nat
  | .slice _ n _ => n
  | _ => 0
end Go.Proofs.Ytmchbciofdokfaa

namespace Go.Proofs.Ytmchbciofdokfaa
open Go.RowKit
set_option linter.unusedSimpArgs false
set_option linter.unusedVariables false

set_option maxRecDepth 100000 in
set_option maxHeartbeats 8000000 in
theorem rrestart_any (v : Value) (l : List Rec) (w : World) (h : Recs w v l) (hl : l.length ≤ 100) : Calls Try.prog 12 #[v] w (RestartIs l w) := by
  have H := hid h
  have HL := hid hl
  clear h
  go_enter Try.func12, Try.ntmps12
  go_wp2_with fail
  refine (rwalk_any _ l _ H.out (by have := HL.out; omega)).mono ?_
  rintro e w1 (⟨hn, rfl, n1⟩ | ⟨W, wb, S, hs, rfl, hw, h1⟩)
  · have HX : Hid (RestartIs l w (.returned (.tuple #[.slice none 0 0, .int .i64 50])) w1) := hid (.inl ⟨hn, rfl, n1⟩)
    clear hn n1
    go_wp2
    go_ret2
    exact HX.out
  have HS := hid hs
  have HG := hid (good hs)
  obtain ⟨o0, ho0⟩ := opens_ex (f := W.unit) 1000001 (fun n hn => by have := HG.out.range n hn.1; omega)
  have HO0 := hid ho0
  have HOK := hid (todo0_ok HG.out ho0)
  have HTOT : Hid (tot (todo0 W o0) ≤ 10100) := hid (by
    have a1 : (todo0 W o0).open_.length ≤ 100 := Nat.le_trans (List.length_filter_le _ _) (Nat.le_trans (ref_opens_len hw ho0) (Nat.le_trans h1 HL.out))
    have := tot_small a1 (b := 100) (fun m => Nat.le_trans (good_lefts HG.out m) HL.out)
    omega)
  have R0 : Hid (RRest l w w1 wb (todo0 W o0) (.slice none 0 0) W S []) := hid ⟨hw, ⟨⟨[], by rw [HG.out.recs, List.append_nil]⟩, by rw [HG.out.recs]; have := HL.out; omega, fun n k hk => (by
      obtain ⟨k1, k2, k3, k4, k5⟩ := HG.out.left n k hk
      have hb := valid_before k5 k3
      have hp := valid_place k5 (by rw [lays, k3]; rfl)
      have hp2 := place_bounds hp
      exact ⟨k1, k2, k3, by omega, hp, hb⟩), HG.out.st, fun n => by have := good_lefts HG.out n; have := HL.out; omega, HG.out.page⟩, by rw [HG.out.recs]; rfl, by have := HL.out; omega, ⟨o0, ho0, .nil⟩, ⟨[], World.ownsRow_nil _ _ _ _, RecCells.nil _⟩, fun k hk => (by cases hk)⟩
  have HFIN : Hid (∀ s t O v w', todo0 W o0 = s → Steps l s O t → t.open_ = [] → Recs w' v O → New w w' → RestartIs l w (.returned (.tuple #[v, .int .i64 0])) w') := hid (fun s t O v w' e1 e2 e3 e4 e5 => .inr ⟨W, o0, O, t, v, HS.out, HO0.out, by rw [e1]; exact e2, e3, rfl, e4, e5⟩)
  obtain ⟨s0, hs0⟩ : ∃ s, todo0 W o0 = s := ⟨_, rfl⟩
  rw [hs0] at HOK HTOT R0
  have HS0 := hid hs0
  clear hs hw h1 ho0 hs0
  go_wp2_with fail
  go_loopw [5, 6, 7] (fun ov _ _ wr => ∃ W' S' O, Hid (RRest l w wr wb s0 ov W' S' O)) (fun ov _ _ _ => 20000 - lenV ov)
  case atStart => exact ⟨W, S, [], R0⟩
  case round =>
    obtain ⟨W', S', O, hR⟩ := hrel
    have HR := hid hR.out
    clear hR R0
    obtain ⟨xs, ho1, ho2⟩ := HR.out.orow
    obtain ⟨po, co, rfl⟩ := own_len ho1
    have HO1 := hid ho1
    have HO2 := hid ho2
    have HOLEN : Hid (O.length ≤ 10100) := hid (by
      obtain ⟨o, _, hst⟩ := HR.out.steps
      have := (steps_ok HOK.out hst).2
      have := HTOT.out
      omega)
    have HRL : Hid (W'.recs.length < 20000) := hid (by have := HR.out.recs; have := HOLEN.out; have := HL.out; omega)
    clear ho1 ho2
    rename World => wr
    go_wp2_with fail
    refine (next_any l w wb S' W' _ HR.out.at_ HR.out.inv HR.out.lu).mono ?_
    rintro e w2 ⟨o, ho, n2, hcase⟩
    have N2 := hid n2
    have hcase2 : (opnT o = [] ∧ e = .returned (.tuple #[.agg (recCells recZ (.slice none 0 0) (.slice none 0 0) (.slice none 0 0)), .bool false])) ∨ ∃ r q c, e = .returned (.tuple #[.agg (recCells r (.slice none 0 0) (.slice q r.after.size c) (.slice none 0 0)), .bool true]) ∧ NextRec l W' w2 s0 O r (.slice q r.after.size c) := by
      rcases hcase with h | ⟨T1, u, T2, a1, a2, a3, rfl⟩ | ⟨T1, u, T2, q, c, a1, a2, a3, a4, rfl, a5⟩
      · exact .inl h
      · exact .inr ⟨overRec u.unit, none, 0, rfl, next_over HR.out HRL.out ho a1 a2 a3⟩
      · exact .inr ⟨undoW W' u.unit, q, c, rfl, next_undo HR.out HRL.out ho a1 a2 a3 a4 a5⟩
    have B3 := hid (alloc_block w2 (.cells #[.int .i64 0, .int .i64 0, .int .i64 0, .int .i64 0, .slice none 0 0, .slice none 0 0, .int .i64 0, .int .i64 0, .string ⟨#[]⟩, .slice none 0 0] 36))
    have N3 := hid ((New.refl w2).alloc #[.int .i64 0, .int .i64 0, .int .i64 0, .int .i64 0, .slice none 0 0, .slice none 0 0, .int .i64 0, .int .i64 0, .string ⟨#[]⟩, .slice none 0 0] 36)
    have HSZ3 : Hid ((w2.alloc (.cells #[.int .i64 0, .int .i64 0, .int .i64 0, .int .i64 0, .slice none 0 0, .slice none 0 0, .int .i64 0, .int .i64 0, .string ⟨#[]⟩, .slice none 0 0] 36)).heap.size = w2.heap.size + 1) := hid (World.size_alloc _ _)
    obtain ⟨w3, hw3⟩ : ∃ w3, w2.alloc (.cells #[.int .i64 0, .int .i64 0, .int .i64 0, .int .i64 0, .slice none 0 0, .slice none 0 0, .int .i64 0, .int .i64 0, .string ⟨#[]⟩, .slice none 0 0] 36) = w3 := ⟨_, rfl⟩
    obtain ⟨rq, hrq⟩ : ∃ rq, w2.heap.size = rq := ⟨_, rfl⟩
    rw [hw3] at B3 N3 HSZ3
    rw [hrq] at B3 HSZ3
    have HRQ : Hid (w2.heap.size ≤ rq) := hid (Nat.le_of_eq hrq)
    have hzc := cells_of B3.out
    have hzf := frozen_of B3.out
    have hrql := (Array.getElem?_eq_some_iff.1 B3.out).1
    have HO := hid ho
    clear hcase ho n2
    rcases hcase2 with ⟨hnil, rfl⟩ | ⟨r, q, c, rfl, hnx⟩
    · have HEND : Hid (∀ w', New wr w' → RestartIs l w (.returned (.tuple #[.slice po O.length co, .int .i64 0])) w') := hid (fun w' hn => by
        obtain ⟨o1, a1, a2⟩ := HR.out.steps
        obtain rfl := opens_one a1 HO.out
        exact HFIN.out _ _ _ _ _ HS0.out a2 hnil (Recs.row (own_old HO1.out hn) (HO2.out.imp fun r b a u k => (k.turn (Turn.of_new (S := fun _ => False) hn) (apart_none _)).rec_)) (HR.out.at_.new.trans hn))
      clear hnil
      go_wp2_with (first | rw [hw3] | rw [hrq])
      go_ret2
      exact HEND.out _ (ten_new (N2.out.trans N3.out) (Nat.le_trans N2.out.size HRQ.out) _ _ _ _ _ _ _ _ _ _)
    · have HNX := hid hnx
      have n3' := ten_new N3.out HRQ.out (.int .i64 r.kind) (.int .i64 r.unit) (.int .i64 r.page) (.int .i64 r.at_) (.slice none 0 0) (.slice q r.after.size c) (.int .i64 r.back) (.int .i64 r.next) (.string r.text) (.slice none 0 0)
      obtain ⟨hten, tten⟩ := ten_sets B3.out rfl (.int .i64 r.kind) (.int .i64 r.unit) (.int .i64 r.page) (.int .i64 r.at_) (.slice none 0 0) (.slice q r.after.size c) (.int .i64 r.back) (.int .i64 r.next) (.string r.text) (.slice none 0 0)
      have HTEN := hid hten
      have NT := hid n3'
      obtain ⟨zc0, zc1, zc2, zc3, zc4, zc5, zc6, zc7, zc8, zc9⟩ := rec_box (bv := .slice none 0 0) (av := .slice q r.after.size c) (uv := .slice none 0 0) hten
      clear hnx n3' hten tten
      go_wp2_with (first | rw [hw3] | rw [hrq])
      have H3R := hid (HR.out.at_.newer (N2.out.trans NT.out))
      have HSQ : Hid (S'.rv.ownBlock ≠ some rq) := hid (fun e => by have := ref_rv_lt HR.out.at_ e; have := N2.out.size; have := HRQ.out; omega)
      have OLD3 := hid (own_old HO1.out (N2.out.trans NT.out))
      have HOUT3 := hid (HNX.out.out.turn (Turn.of_new (S := fun _ => False) NT.out) (apart_none _))
      refine (radd_frame w wb S' W' r (.slice none 0 0) (.slice q r.after.size c) (.slice none 0 0) _ H3R.out HOUT3.out.rec_ (.inr HOUT3.out.after) HNX.out.place HNX.out.kind HNX.out.left HR.out.inv.page (by have := HRL.out; omega) (fun n => by have := HR.out.inv.lefts n; omega) (by have := HR.out.lu; omega) HTEN.out (by simp only [World.size_setCell]; exact HSZ3.out) HSQ.out).mono ?_
      rintro e w4 ⟨rfl, S4, h4, t4, hrv4⟩
      have H4 := hid h4
      have B4 := hid (block_turn HTEN.out t4 (not_tx HTEN.out HSQ.out))
      have O4 : Hid (w4.ownsRow 0 36 10 (.slice po O.length co) O.length xs) := hid (own_turn OLD3.out t4 (fun k hk e => by
        obtain ⟨c', hc', _⟩ := own_cells OLD3.out hk
        exact not_tx hc' (HR.out.onew k hk).2 e))
      have C4 : Hid (RecCells (OutAt w4) O xs) := hid (HO2.out.imp fun r b a u k => (k.turn (Turn.of_new (S := fun _ => False) (N2.out.trans NT.out)) (apart_none _)).turn t4 (tx_apart H3R.out))
      have HNX4 : Hid (NextRec l W' w4 s0 O r (.slice q r.after.size c)) := hid ⟨HOUT3.out.turn t4 (tx_apart H3R.out), HNX.out.kind, HNX.out.place, HNX.out.left, HNX.out.inv, HNX.out.seen, HNX.out.steps⟩
      have HRV4 : Hid (∀ k, (Value.slice po O.length co).ownBlock = some k → S4.rv.ownBlock ≠ some k) := hid (fun k hk => by
        obtain ⟨c', hc', _⟩ := own_cells OLD3.out hk
        exact hrv4 k (Array.getElem?_eq_some_iff.1 hc').1 (not_tx hc' (HR.out.onew k hk).2))
      obtain ⟨m0, m1, m2, m3, m4, m5, m6, m7, m8, m9⟩ := rec_box (bv := .slice none 0 0) (av := .slice q r.after.size c) (uv := .slice none 0 0) B4.out
      have hq4 := (Array.getElem?_eq_some_iff.1 B4.out).1
      have N5 := hid ((New.refl w4).alloc (recCells r (.slice none 0 0) (.slice q r.after.size c) (.slice none 0 0)) 36)
      have B5 := hid (alloc_block w4 (.cells (recCells r (.slice none 0 0) (.slice q r.after.size c) (.slice none 0 0)) 36))
      clear t4 h4 hrv4 zc0 zc1 zc2 zc3 zc4 zc5 zc6 zc7 zc8 zc9 hzc hzf hrql
      go_wp2_with (at_builtin; refine app_rec rfl _ _ rfl (.slice po O.length co) O.length xs rfl 0 (own_old O4.out N5.out) (Nat.zero_le _) w4.heap.size r none q none 0 0 _ c 0 0 rfl (cells_of B5.out) (by have := HOLEN.out; omega) ?_)
      intro v9 w9 own9 grow9 blk9
      obtain ⟨p9, c9, rfl⟩ := own_len own9
      have HX := hid (HR.out.end_ HNX4.out H4.out O4.out C4.out HRV4.out N5.out own9 grow9 (by rw [World.size_alloc]; exact blk9))
      clear own9 grow9 blk9
      go_wp2
      go_roundw
      case rel => exact ⟨_, _, _, HX⟩
      case measure => simp [lenV]; have := HOLEN.out; omega
end Go.Proofs.Ytmchbciofdokfaa

namespace Go.Proofs.Ytmchbciofdokfaa
open Go.RowKit
set_option linter.unusedSimpArgs false
set_option linter.unusedVariables false

theorem few_len3 {l : List Rec} (h : fewB l = true) : l.length ≤ 60 := by
  unfold fewB at h
  simp at h
  exact h.2
/-- What restart says. -/
def RV (l : List Rec) (O : List Rec) (E : Int) : Prop := (walkW l = none ∧ O = [] ∧ E = 50) ∨ (∃ W o t, walkW l = some W ∧ IsOpens W.unit o ∧ Steps l (todo0 W o) O t ∧ t.open_ = [] ∧ E = 0)
theorem RV.one {l O O' : List Rec} {E E' : Int} (h : RV l O E) (k : RV l O' E') : O = O' ∧ E = E' := by
  rcases h with ⟨a1, a2, a3⟩ | ⟨W, o, t, a1, a2, a3, a4, a5⟩
  · rcases k with ⟨b1, b2, b3⟩ | ⟨W', o', t', b1, b2, b3, b4, b5⟩
    · exact ⟨a2.trans b2.symm, a3.trans b3.symm⟩
    · rw [a1] at b1; cases b1
  · rcases k with ⟨b1, b2, b3⟩ | ⟨W', o', t', b1, b2, b3, b4, b5⟩
    · rw [a1] at b1; cases b1
    · rw [a1] at b1
      injection b1 with b1
      subst b1
      obtain rfl := opens_one a2 b2
      exact ⟨Steps.one a3 b3 a4 b4, a5.trans b5.symm⟩
theorem RestartIs.val {l : List Rec} {w w' : World} {e : Ending} (h : RestartIs l w e w') : ∃ v O E, e = .returned (.tuple #[v, .int .i64 E]) ∧ Recs w' v O ∧ New w w' ∧ RV l O E := by
  rcases h with ⟨h1, rfl, h2⟩ | ⟨W, o, O, t, v, h1, h2, h3, h4, rfl, h5, h6⟩
  · exact ⟨_, [], 50, rfl, Recs.row (World.ownsRow_nil w' 0 36 10) (RecCells.nil _), h2, .inl ⟨h1, rfl, rfl⟩⟩
  · exact ⟨v, O, 0, rfl, h5, h6, .inr ⟨W, o, t, h1, h2, h3, h4, rfl⟩⟩
def CV (l : List Rec) (L : List Int) (E : Int) : Prop := (walkW l = none ∧ L = [] ∧ E = 50) ∨ (∃ W, walkW l = some W ∧ L = winsOf l ∧ E = 0)
theorem CV.one {l : List Rec} {L L' : List Int} {E E' : Int} (h : CV l L E) (k : CV l L' E') : L = L' ∧ E = E' := by
  rcases h with ⟨a1, a2, a3⟩ | ⟨W, a1, a2, a3⟩
  · rcases k with ⟨b1, b2, b3⟩ | ⟨W', b1, b2, b3⟩
    · exact ⟨a2.trans b2.symm, a3.trans b3.symm⟩
    · rw [a1] at b1; cases b1
  · rcases k with ⟨b1, b2, b3⟩ | ⟨W', b1, b2, b3⟩
    · rw [a1] at b1; cases b1
    · exact ⟨a2.trans b2.symm, a3.trans b3.symm⟩
theorem CommittedIs.val {l : List Rec} {w w' : World} {e : Ending} (h : CommittedIs l w e w') : ∃ v L E, e = .returned (.tuple #[v, .int .i64 E]) ∧ Ints w' v L ∧ New w w' ∧ CV l L E := by
  rcases h with ⟨h1, rfl, h2⟩ | ⟨W, v, h1, rfl, h2, h3⟩
  · exact ⟨_, [], 50, rfl, row_none w', h2, .inl ⟨h1, rfl, rfl⟩⟩
  · exact ⟨v, winsOf l, 0, rfl, h2, h3, .inr ⟨W, h1, rfl, rfl⟩⟩
set_option maxRecDepth 100000 in
set_option maxHeartbeats 4000000 in
theorem restarts_law (v : Value) (l : List Rec) (w : World) (h : Recs w v l) :
    Calls Try.prog 3 #[v] w fun e w' => e = .returned (.bool true) ∧ New w w' := by
  have H := hid h
  clear h
  go_enter Try.func3, Try.ntmps3
  go_wp2_with fail
  with_reducible refine (few_any _ l _ H.out).mono ?_
  rintro e w1 ⟨rfl, n1⟩
  have N1 := hid n1
  clear n1
  obtain ⟨F, hF⟩ : ∃ F, fewB l = F := ⟨_, rfl⟩
  rw [hF]
  cases F
  · clear hF
    go_wp2_with fail
    with_reducible refine (awake_any _).mono ?_
    rintro e w2 ⟨rfl, n2⟩
    have HX := hid (N1.out.trans n2)
    clear n2
    go_wp2
    go_ret
    exact ⟨rfl, HX.out⟩
  have HL : Hid (l.length ≤ 60) := hid (by have := few_len3 hF; omega)
  clear hF
  go_wp2_with fail
  refine (restart_any _ l _ (H.out.new N1.out) (by have := HL.out; omega)).mono ?_
  intro e w2 hb2
  obtain ⟨v2, O2, E2, rfl, hr2, n2, k2⟩ := RestartIs.val hb2
  have R2 := hid hr2
  have K2 := hid k2
  have N2 := hid (N1.out.trans n2)
  clear hb2 hr2 n2 k2
  go_wp2_with fail
  refine (rrestart_any _ l _ (H.out.new N2.out) (by have := HL.out; omega)).mono ?_
  intro e w3 hb3
  obtain ⟨v3, O3, E3, rfl, hr3, n3, k3⟩ := RestartIs.val hb3
  obtain ⟨rfl, rfl⟩ := RV.one K2.out k3
  have R3 := hid hr3
  have R2b := hid (R2.out.new n3)
  have N3 := hid (N2.out.trans n3)
  clear hb3 hr3 n3 k3 K2
  go_wp2_with fail
  refine (committed_any _ l _ (H.out.new N3.out) (by have := HL.out; omega)).mono ?_
  intro e w4 hb4
  obtain ⟨v4, L4, E4, rfl, hr4, n4, k4⟩ := CommittedIs.val hb4
  have R4 := hid hr4
  have K4 := hid k4
  have HN4 := hid n4
  have N4 := hid (N3.out.trans n4)
  clear hb4 hr4 n4 k4
  go_wp2_with fail
  refine (rcommitted_any _ l _ (H.out.new N4.out) (by have := HL.out; omega)).mono ?_
  intro e w5 hb5
  obtain ⟨v5, L5, E5, rfl, hr5, n5, k5⟩ := CommittedIs.val hb5
  obtain ⟨rfl, rfl⟩ := CV.one K4.out k5
  have R5 := hid hr5
  have R4b := hid (R4.out.new n5)
  have HN5 := hid n5
  have N5 := hid (N4.out.trans n5)
  clear hb5 hr5 n5 k5 K4
  go_wp2_with fail
  refine (sameRecords_any _ _ O2 O2 _ (R2b.out.new (HN4.out.trans HN5.out)) (R3.out.new (HN4.out.trans HN5.out))).mono ?_
  rintro e w6 ⟨rfl, n6⟩
  rw [show decide (O2 = O2) = true from decide_eq_true rfl]
  have HN6 := hid n6
  have N6 := hid (N5.out.trans n6)
  clear n6
  go_wp2_with fail
  refine (sameInts_any _ _ L4 L4 _ (R4b.out.new HN6.out) (R5.out.new HN6.out)).mono ?_
  rintro e w7 ⟨rfl, n7⟩
  rw [show decide (L4 = L4) = true from decide_eq_true rfl]
  have N7 := hid (N6.out.trans n7)
  clear n7
  go_wp2_with fail
  with_reducible refine (awake_any _).mono ?_
  rintro e w8 ⟨rfl, n8⟩
  have HX := hid (N7.out.trans n8)
  clear n8
  go_wp2
  go_ret
  exact ⟨rfl, HX.out⟩
end Go.Proofs.Ytmchbciofdokfaa
