/- lay: what it leaves. -/
import Derived.Test.YtmchbciofdokfaaW4
import Derived.Laws.CopyRow
import Derived.Deep.RegionHeld3
import Derived.IntWalk
namespace Go.Proofs.Ytmchbciofdokfaa
open Go.RowKit
open Go.ChangeMaps (setBlock)
set_option linter.unusedSimpArgs false
set_option linter.unusedVariables false

theorem turn_row (w : World) (b : Nat) (cs : Array Value) : Turn (· = b) w (w.setRow b cs) := by
  refine ⟨rfl, rfl, rfl, ?_, fun k hk hn => ?_⟩
  · simp [World.setRow]
  · simp only [World.setRow]
    rw [Array.getElem?_modify, if_neg (fun e => hn e.symm)]
/-- A page turned. -/
theorem WorldAt.setPage {w0 w : World} {wb : Nat} {S : WSh} {W : PW} (h : WorldAt w0 w wb S W) {n b : Nat} (hb : ((n : Int), b) ∈ S.lp) {p : ByteArray} {w' : World} (ht : Turn (· = b) w w') (hw : w'.heap[b]? = some (.cells (byteVals p).toArray 5 (0, 0))) :
    WorldAt w0 w' wb S { W with page := fun m => if m = n then p else W.page m } := by
  have hk := (h.pages.page _ hb).2
  obtain ⟨xs, hr1, hr2⟩ := h.recs
  have hpg := imap_not h.pages.map
  have hsm := imap_not h.stamps.map
  have hun := imap_not h.units.map
  have bk : ∀ k, k = b → w.heap[k]? = some (.cells (byteVals (W.page (n : Int).toNat)).toArray 5 (0, 0)) := fun k e => e ▸ hk
  have inj : ∀ q ∈ S.lp, q.2 = b → q = ((n : Int), b) := fun q hq e => by
    obtain ⟨i, hi⟩ := List.mem_iff_getElem?.1 hq
    obtain ⟨j, hj⟩ := List.mem_iff_getElem?.1 hb
    have := inj_of_nodup (fun p : Int × Nat => p.2) h.pages.nodup hq hb e
    exact this
  refine { h with new := New.turn h.new ht (fun k hk' e => ?_), base := block_turn h.base ht (fun e => ?_), recs := ⟨xs, own_turn hr1 ht (fun k hk' e => ?_), hr2⟩, wins := own_turn h.wins ht (fun k hk' e => ?_), pages := ⟨imap_turn h.pages.map ht (fun e => hpg _ _ _ (bk _ e)), fun q hq => ?_, fun m hm => ?_, h.pages.nodup⟩, stamps := h.stamps.off ht (fun k hk' e => hsm _ _ _ (e ▸ bk _ hk')), units := h.units.off ht (fun k hk' => ⟨fun c t fr e e2 => ?_, fun e => hun _ _ _ (e ▸ bk _ hk'), fun hl => ?_⟩) }
  · have := h.fp _ hb
    have e : k = b := e
    simp at this
    omega
  · exact absurd (kind_cells h.base (bk _ e)).2 (by decide)
  · obtain ⟨c, hc, _⟩ := own_cells hr1 hk'
    exact absurd (kind_cells hc (bk _ e)).2 (by decide)
  · obtain ⟨c, hc, _⟩ := own_cells h.wins hk'
    exact absurd (kind_cells hc (bk _ e)).2 (by decide)
  · refine ⟨(h.pages.page q hq).1, ?_⟩
    by_cases e : q.2 = b
    · have := inj q hq e
      subst this
      show w'.heap[b]? = some (.cells (byteVals (if (n : Int).toNat = n then p else _)).toArray 5 (0, 0))
      rw [if_pos (by simp)]
      exact hw
    · have hq1 : q.1.toNat ≠ n := fun e2 => e (by
        have hk2 := h.pages.map.nodup
        rw [List.map_map] at hk2
        have hq0 := (h.pages.page q hq).1
        have := inj_of_nodup (fun p : Int × Nat => p.1) hk2 hq hb (by show q.1 = (n : Int); omega)
        rw [this])
      show w'.heap[q.2]? = some (.cells (byteVals (if q.1.toNat = n then p else W.page q.1.toNat)).toArray 5 (0, 0))
      rw [if_neg hq1]
      exact block_turn (h.pages.page q hq).2 ht e
  · have hmn : m ≠ n := fun e => hm _ hb (by rw [e])
    show (if m = n then p else W.page m) = zeroPage
    rw [if_neg hmn]
    exact h.pages.none m hm
  · rw [kind_cells e (bk _ hk') |>.2] at e2
    exact absurd e2 (by decide)
  · obtain ⟨x, hx, hk2⟩ := hl
    obtain ⟨c, hc, _⟩ := own_cells (h.units.unit x hx).2 hk2
    exact absurd (kind_cells hc (bk _ hk')).2 (by decide)
/-! ## stamps -/
def putI (ls : List (Int × Int)) (n v : Int) : List (Int × Int) := if ls.any (fun p => p.1 == n) = true then ls.map fun p => if p.1 = n then (n, v) else p else ls ++ [(n, v)]
theorem putI_putL (ls : List (Int × Int)) (n v : Int) : putL (ls.map fun p => (p.1, Value.int .i64 p.2)) n (.int .i64 v) = (putI ls n v).map fun p => (p.1, Value.int .i64 p.2) := by
  unfold putL putI
  have e : (ls.map fun p => (p.1, Value.int .i64 p.2)).any (fun p => p.1 == n) = ls.any fun p => p.1 == n := by rw [List.any_map]; rfl
  rw [e]
  split
  · rw [List.map_map, List.map_map]
    apply List.map_congr_left
    intro p _
    simp only [Function.comp_apply]
    split <;> rfl
  · rw [List.map_append]
    rfl
theorem find_map (ls : List (Int × Int)) (n v m : Int) : ((ls.map fun p => if p.1 = n then (n, v) else p).find? fun p => p.1 == m).map (·.2) = if m = n then (if ls.any (fun p => p.1 == n) = true then some v else none) else (ls.find? fun p => p.1 == m).map (·.2) := by
  induction ls with
  | nil => simp
  | cons p l ih =>
    rw [List.map_cons, List.find?_cons, List.find?_cons, List.any_cons]
    by_cases hp : p.1 = n
    · rw [if_pos hp]
      by_cases hm : m = n
      · subst hm
        simp [hp]
      · have h1 : ((n, v).1 == m) = false := by simpa using fun e => hm e.symm
        have h2 : (p.1 == m) = false := by simpa using fun e => hm (by rw [← hp, e])
        simp only [h1, h2, ih, if_neg hm]
    · rw [if_neg hp]
      have h3 : (p.1 == n) = false := by simpa using hp
      by_cases hm : m = n
      · subst hm
        simp only [h3, ih, Bool.false_or, if_true]
      · rw [if_neg hm]
        cases hpm : (p.1 == m) with
        | true => rfl
        | false =>
          simp only [ih, if_neg hm]
theorem stampL_put (ls : List (Int × Int)) (n : Nat) (v : Int) (m : Nat) : stampL (putI ls (n : Int) v) m = if m = n then v else stampL ls m := by
  unfold stampL putI
  by_cases ha : ls.any (fun p => p.1 == (n : Int)) = true
  · rw [if_pos ha, find_map]
    by_cases hm : m = n
    · rw [if_pos hm, if_pos (by rw [hm]), if_pos ha]
      rfl
    · rw [if_neg hm, if_neg (by omega)]
  · rw [if_neg ha, List.find?_append]
    by_cases hm : m = n
    · subst hm
      have : ls.find? (fun p => p.1 == (m : Int)) = none := by
        rw [List.find?_eq_none]
        intro p hp e
        exact ha (List.any_eq_true.2 ⟨p, hp, e⟩)
      rw [this]
      simp
    · have h1 : (((n : Int), v).1 == (m : Int)) = false := by
        have : (n : Int) ≠ (m : Int) := by omega
        simpa using this
      rw [if_neg hm]
      cases ls.find? (fun p => p.1 == (m : Int)) with
      | some q => rfl
      | none => simp [List.find?_cons, h1]
/-- A stamp laid. -/
theorem WorldAt.stampIn {w0 w wa : World} {wb : Nat} {S : WSh} {W : PW} (h : WorldAt w0 w wb S W) (hn : New w wa) {n : Nat} {v : Nat} {o : Obj} (hm : IMap (setBlock wa S.sm o) S.sm (putL (S.ls.map fun p => (p.1, .int .i64 p.2)) (n : Int) (.int .i64 (v : Int)))) :
    WorldAt w0 (setBlock wa S.sm o) wb { S with ls := putI S.ls n v } { W with stamp := fun m => if m = n then v else W.stamp m } := by
  have ha := h.newer hn
  have ht := set_turn wa S.sm o
  have hsm := imap_not ha.stamps.map
  rw [putI_putL] at hm
  obtain ⟨xs, hr1, hr2⟩ := ha.recs
  have hne : ∀ k, (k = S.sm) → ∀ c t fr, wa.heap[k]? ≠ some (.cells c t fr) := fun k hk => hk ▸ hsm
  refine { ha with new := New.turn ha.new ht (fun k hk e => ?_), base := block_turn ha.base ht (fun e => hne _ e _ _ _ ha.base), recs := ⟨xs, own_turn hr1 ht (fun k hk e => ?_), hr2⟩, wins := own_turn ha.wins ht (fun k hk e => ?_), pages := ha.pages.off ht (fun k hk => ⟨fun c t fr e => absurd e (hne k hk c t fr), by rw [hk]; exact ha.maps.1.symm⟩), stamps := ⟨hm, fun m => ?_⟩, units := ha.units.off ht (fun k hk => ⟨fun c t fr e => absurd e (hne k hk c t fr), by rw [hk]; exact ha.maps.2.2, fun hl => ?_⟩) }
  · have := ha.fb.2.2.1
    omega
  · obtain ⟨c, hc, _⟩ := own_cells hr1 hk
    exact hne _ e _ _ _ hc
  · obtain ⟨c, hc, _⟩ := own_cells ha.wins hk
    exact hne _ e _ _ _ hc
  · show stampL (putI S.ls n v) m = ((if m = n then v else W.stamp m : Nat) : Int)
    rw [stampL_put]
    split
    · rfl
    · exact ha.stamps.stamp m
  · obtain ⟨x, hx, hk2⟩ := hl
    obtain ⟨c, hc, _⟩ := own_cells (ha.units.unit x hx).2 hk2
    exact hne _ hk _ _ _ hc
/-- What lay leaves. -/
def laidW (W : PW) (r : Rec) : PW := { W with page := fun m => if m = r.page.toNat then layB (W.page m) r.at_.toNat r.after else W.page m, stamp := fun m => if m = r.page.toNat then W.recs.length + 1 else W.stamp m }
/-- Boxed records are kept. -/
def Keeps36 (w w' : World) : Prop := ∀ (k : Nat) (c : Array Value), w.heap[k]? = some (Obj.cells c 36 (0, 0)) → w'.heap[k]? = some (Obj.cells c 36 (0, 0))
theorem Keeps36.trans {a b c : World} (h : Keeps36 a b) (k : Keeps36 b c) : Keeps36 a c := fun i x e => k i x (h i x e)
theorem Keeps36.new {w w' : World} (h : New w w') : Keeps36 w w' := fun k _ e => (Below.block h k (Array.getElem?_eq_some_iff.1 e).1).trans e
theorem Keeps36.turn {X : Nat → Prop} {w w' : World} (ht : Turn X w w') (hX : ∀ (k : Nat), X k → ∀ c : Array Value, w.heap[k]? ≠ some (Obj.cells c 36 (0, 0))) : Keeps36 w w' := fun k c e => block_turn e ht (fun h => hX k h c e)
def LayIs (w0 : World) (wb : Nat) (S : WSh) (W : PW) (r : Rec) (w : World) (e : Ending) (w' : World) : Prop :=
  ∃ lp ls, e = .returned (.tuple #[]) ∧ WorldAt w0 w' wb { S with lp := lp, ls := ls } (laidW W r) ∧ Keeps36 w w'
theorem lay_vals {p s : ByteArray} {o : Nat} (h : o + s.size ≤ p.size) : (byteVals p).take o ++ byteVals s ++ (byteVals p).drop (o + (byteVals s).length) = byteVals (layB p o s) := by
  unfold layB
  simp only [byteVals, bytesOf, List.length_map, data_len, List.map_append, List.map_take, List.map_drop]
theorem box_cells {w : World} {q : Nat} {r : Rec} {bv av uv : Value} {pn an : Nat} (h : w.heap[q]? = some (.cells (recCells r bv av uv) 36 (0, 0))) (h1 : r.page = (pn : Int)) (h2 : r.at_ = (an : Int)) : w.cell? ⟨q, 2, none⟩ = some (.int .i64 (pn : Int)) ∧ w.cell? ⟨q, 3, none⟩ = some (.int .i64 (an : Int)) ∧ w.cell? ⟨q, 5, none⟩ = some av :=
  ⟨by rw [← h1]; exact cells_of h 2, by rw [← h2]; exact cells_of h 3, cells_of h 5⟩
theorem world_box {w0 w w' : World} {wb q : Nat} {S : WSh} {W : PW} {c : Array Value} {X : Nat → Prop} (hq : w.heap[q]? = some (.cells c 36 (0, 0))) (ht : Turn X w w') (hX : ∀ k, X k → ∀ c t fr, w.heap[k]? = some (.cells c t fr) → t ≠ 36) : w'.heap[q]? = some (.cells c 36 (0, 0)) :=
  block_turn hq ht (fun e => hX _ e _ _ _ hq rfl)
theorem u8_size33 : (Try.prog.info? 5).map (·.size) = some 1 := by kernel_rfl
theorem lay_copy {w0 w : World} {wb : Nat} {S : WSh} {W : PW} (h : WorldAt w0 w wb S W) {n b : Nat} (hb : ((n : Int), b) ∈ S.lp) {o : Nat} {s : ByteArray} (hs : o + s.size ≤ 128) {bA oA c : Nat} (hA : bA < w0.heap.size) (hc : ∀ i, i < (byteVals s).length → w0.cell? ⟨bA, oA + i, none⟩ = some ((byteVals s).getD i undef)) (hz : (W.page n).size = 128) :
    (Builtin.copy_ #[33, 33] 3 #[.slice (some ⟨b, o, none⟩) (128 - o) (128 - o), .slice (some ⟨bA, oA, none⟩) s.size c]).run Try.prog w = .ok (.int .i64 s.size) (w.setRow b (byteVals (layB (W.page n) o s)).toArray) := by
  have hk := (h.pages.page _ hb).2
  simp only [Int.toNat_natCast] at hk
  have hl : (byteVals (W.page n)).length = 128 := by rw [byteVals_length, hz]
  have := run_copy_row (P := Try.prog) w 33 33 3 5 b o (128 - o) (128 - o) ⟨bA, oA, none⟩ s.size c (byteVals (W.page n)).toArray 5 (byteVals s) Try.underlying33 u8_size33 hk (by rw [byteVals_length]; exact (Nat.min_eq_left (by omega)).symm) (fun j v hj => ?_) (by rw [byteVals_length, List.size_toArray, hl]; exact hs) (fun v hv => ?_)
  · rw [this, List.toList_toArray, lay_vals (by rw [hz]; exact hs), byteVals_length]
    rfl
  · have hj2 := (List.getElem?_eq_some_iff.1 hj).1
    have e : (⟨bA, oA, none⟩ : Addr).add j = ⟨bA, oA + j, none⟩ := by unfold Addr.add; split <;> simp_all
    rw [e, h.new.cell bA _ hA, hc j hj2, List.getD_eq_getElem?_getD, hj]
    rfl
  · obtain ⟨u, _, rfl⟩ := List.mem_map.1 hv
    rfl
set_option maxRecDepth 100000 in
set_option maxHeartbeats 2000000 in
theorem lay_any (w0 : World) (wb : Nat) (S : WSh) (W : PW) (r : Rec) (bv av uv : Value) (w : World) (h : WorldAt w0 w wb S W) (hr : RecAt w0 r bv av uv) (hp : placeB r = true) (hz : ∀ p, (W.page p).size = 128) (hl : W.recs.length ≤ 1000) :
    Calls Try.prog 88 #[.pointer (some ⟨wb, 0, none⟩), .agg (recCells r bv av uv)] w (LayIs w0 wb S W r w) := by
  obtain ⟨b0, b1, b2, b3, b4, b5⟩ := place_bounds hp
  obtain ⟨pn, hpn, hpn2⟩ : ∃ n : Nat, r.page = (n : Int) ∧ n < 120 := ⟨r.page.toNat, by omega, by omega⟩
  obtain ⟨an, han, han2⟩ : ∃ n : Nat, r.at_ = (n : Int) ∧ n + r.after.size ≤ 128 := ⟨r.at_.toNat, by omega, by omega⟩
  obtain ⟨⟨bp, bc, rfl, b7, b8, b9⟩, ⟨ap, ac, rfl, a7, a8, a9⟩, ⟨up, uc, rfl, u7, u8, u9⟩⟩ := hr
  have na : New w (w.alloc (.cells (recCells r (.slice bp r.before.size bc) (.slice ap r.after.size ac) (.slice up r.units.length uc)) 36)) := Below.alloc (New.refl w) (Nat.le_refl _) _
  have HQ := hid (alloc_block w (.cells (recCells r (.slice bp r.before.size bc) (.slice ap r.after.size ac) (.slice up r.units.length uc)) 36))
  have H1 := hid (h.newer na)
  have HA9 := hid a9
  have HZ := hid hz
  have HL := hid hl
  have HPN := hid hpn
  have HAN := hid han
  have HAN2 := hid han2
  have K1 := hid (Keeps36.new na)
  clear h b9 u9 a9 na hz
  go_enter Try.func88, Try.ntmps88
  go_wp2_with fail
  generalize hw1 : w.alloc (.cells (recCells r (.slice bp r.before.size bc) (.slice ap r.after.size ac) (.slice up r.units.length uc)) 36) = w1 at *
  generalize hq0 : w.heap.size = q at *
  clear hw1 hq0
  have H1d := hid (H1.out.newer (New.refl w1).drew)
  have Qd := hid ((Below.block (New.refl w1).drew q (Array.getElem?_eq_some_iff.1 HQ.out).1).trans HQ.out)
  have hS := box_cells Qd.out HPN.out HAN.out
  obtain ⟨bA, oA, rfl, hbA, hcA⟩ := HA9.out (by omega)
  have HCA := hid hcA
  have HBA := hid hbA
  clear hcA hbA
  have hsl : an ≤ 128 := by omega
  have hsl2 : an < 128 := by omega
  have hsl3 : (0 : Int) ≤ (an : Int) := by omega
  have hsl4 : (an : Int) ≤ 128 := by omega
  have hsl5 : (an : Int) ≤ (128 : Nat) := by omega
  go_region_held3 (fun w' : World => w'.cell? ⟨q, 2, none⟩ = some (.int .i64 (pn : Int)) ∧ w'.cell? ⟨q, 3, none⟩ = some (.int .i64 (an : Int)) ∧ w'.cell? ⟨q, 5, none⟩ = some (.slice (some ⟨bA, oA, none⟩) r.after.size ac)) (first | exact hS | exact hS2)
    (first
      | (go_at_call 45; refine (page_any w0 wb S W pn _ H1d.out).mono ?_; rintro e w2 ⟨b, lp, rfl, h2, hbl, t2⟩; have H2 := hid h2; have HBL := hid hbl; have Q2 := hid (block_turn Qd.out t2 (fun e => imap_not H1d.out.pages.map _ _ _ (e ▸ Qd.out))); have hcp := lay_copy h2 hbl HAN2.out HBA.out HCA.out (HZ.out pn) (c := ac); have X2 := hid (h2.setPage hbl (turn_row _ _ _) (setRow_heap _ _ _ ((byteVals (layB (W.page pn) an r.after)).toArray) _ _ (h2.pages.page _ hbl).2)); have Q3 := hid (block_turn Q2.out (turn_row w2 b ((byteVals (layB (W.page pn) an r.after)).toArray)) (fun e => absurd (kind_cells Q2.out (e ▸ (h2.pages.page _ hbl).2)).2 (by decide))); have K2 := hid (Keeps36.turn t2 (fun k e c => e ▸ imap_not H1d.out.pages.map _ _ _)); have K3 : Hid (Keeps36 w2 (w2.setRow b (byteVals (layB (W.page pn) an r.after)).toArray)) := hid (Keeps36.turn (turn_row w2 b ((byteVals (layB (W.page pn) an r.after)).toArray)) (fun k e c e2 => absurd (kind_cells e2 (e ▸ (h2.pages.page _ hbl).2)).2 (by decide))); have hS := box_cells Q2.out HPN.out HAN.out; have hS2 := box_cells Q3.out HPN.out HAN.out; clear h2 hbl t2))
  have HX3 : Hid (WorldAt w0 (w2.setRow b (byteVals (layB (W.page pn) an r.after)).toArray) wb { S with lp := lp } { W with page := fun m => if m = pn then layB (W.page pn) an r.after else W.page m }) := hid X2.out
  clear hcp X2 hS hS2
  generalize w2.setRow b (byteVals (layB (W.page pn) an r.after)).toArray = w3 at *
  obtain ⟨pr, cr, hrv, -⟩ := HX3.out.rows
  have hd := HX3.out.newer (New.refl w3).drew
  obtain ⟨c0, c1, c2, c3, c4⟩ := hd.cells
  rw [show ({ S with lp := lp } : WSh).rv = Value.slice pr W.recs.length cr from hrv] at c0
  have Q3d := hid ((Below.block (New.refl w3).drew q (Array.getElem?_eq_some_iff.1 Q3.out).1).trans Q3.out)
  obtain ⟨q2, q3, q5⟩ := box_cells Q3d.out HPN.out HAN.out
  obtain ⟨o, hput, hm⟩ := run_put (P := Try.prog) (t := 61) (k := 3) (e := 3) Try.underlying61 Try.underlying3 hd.stamps.map (pn : Int) (.int .i64 ((W.recs.length + 1 : Nat) : Int))
  have HX4 := hid (HX3.out.stampIn (New.refl w3).drew hm)
  have K4 := hid (K1.out.trans ((Keeps36.new (New.refl w1).drew).trans (K2.out.trans (K3.out.trans ((Keeps36.new (New.refl w3).drew).trans (Keeps36.turn (set_turn w3.drew S.sm o) (fun k e c => e ▸ imap_not hd.stamps.map _ _ _)))))))
  rw [show (((W.recs.length + 1 : Nat) : Int)) = (W.recs.length : Int) + 1 from rfl] at hput
  have hw : IntKind.i64.wrap ((W.recs.length : Int) + 1) = (W.recs.length : Int) + 1 := IntWalk.i64_in _ (by have := HL.out; omega)
  have HE : Hid (laidW W r = { W with page := fun m => if m = pn then layB (W.page pn) an r.after else W.page m, stamp := fun m => if m = pn then W.recs.length + 1 else W.stamp m }) := hid (by
    unfold laidW
    have e1 : r.page.toNat = pn := by have := HPN.out; omega
    have e2 : r.at_.toNat = an := by have := HAN.out; omega
    rw [e1, e2]
    congr 1
    funext m
    by_cases hmn : m = pn
    · rw [if_pos hmn, if_pos hmn, hmn]
    · rw [if_neg hmn, if_neg hmn])
  clear hd hm hrv
  go_wp2_with fail
  go_region_with (fail)
  all_goals
    clear hw
    go_wp2
    go_end0
    exact ⟨lp, _, rfl, by rw [HE.out]; exact HX4.out, K4.out⟩
end Go.Proofs.Ytmchbciofdokfaa
