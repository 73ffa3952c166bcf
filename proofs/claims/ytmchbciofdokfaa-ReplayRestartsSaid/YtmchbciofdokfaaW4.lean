/- unit: what it returns, and what it leaves. -/
import Derived.Test.YtmchbciofdokfaaW3
namespace Go.Proofs.Ytmchbciofdokfaa
open Go.RowKit
open Go.ChangeMaps (setBlock)
set_option linter.unusedSimpArgs false
set_option linter.unusedVariables false

theorem own_nil_row (w : World) (e : TypeId) (sz : Nat) : w.ownsRow 0 e sz (.slice none 0 0) 0 [] := World.ownsRow_nil _ _ _ _
/-- The world with a unit laid. -/
theorem WorldAt.unitIn {w0 w wa : World} {wb : Nat} {S : WSh} {W : PW} (h : WorldAt w0 w wb S W) (hn : New w wa) {n : Int} (hno : ∀ x ∈ S.lu, x.1 ≠ n) {b : Nat} (hb : wa.heap[b]? = some (.cells (unitCells au0 (.slice none 0 0)) 66 (0, 0))) (hw : w.heap.size ≤ b) {o : Obj} (hm : IMap (setBlock wa S.un o) S.un (putL (S.lu.map fun x => (x.1, .pointer (some ⟨x.2.1, 0, none⟩))) n (.pointer (some ⟨b, 0, none⟩)))) :
    WorldAt w0 (setBlock wa S.un o) wb { S with lu := S.lu ++ [(n, b, .slice none 0 0)] } W := by
  have ha := h.newer hn
  have ht := set_turn wa S.un o
  have hun := imap_not ha.units.map
  have hlk : look (S.lu.map fun x => (x.1, Value.pointer (some ⟨x.2.1, 0, none⟩))) n = none := by
    rw [look_none]
    intro p hp
    obtain ⟨q, hq, rfl⟩ := List.mem_map.1 hp
    exact hno q hq
  have hput : putL (S.lu.map fun x => (x.1, Value.pointer (some ⟨x.2.1, 0, none⟩))) n (.pointer (some ⟨b, 0, none⟩)) = (S.lu ++ [(n, b, Value.slice none 0 0)]).map fun x => (x.1, .pointer (some ⟨x.2.1, 0, none⟩)) := by
    unfold putL
    rw [any_none hlk, if_neg (by decide), List.map_append]
    rfl
  rw [hput] at hm
  obtain ⟨xs, hr1, hr2⟩ := ha.recs
  have old : ∀ x ∈ S.lu, x.2.1 < w.heap.size := fun x hx => (Array.getElem?_eq_some_iff.1 (h.units.unit x hx).1).1
  have hne : ∀ k, (k = S.un) → ∀ c t fr, wa.heap[k]? ≠ some (.cells c t fr) := fun k hk => hk ▸ hun
  have hlo : ∀ k, leftsOf (S.lu ++ [(n, b, Value.slice none 0 0)]) k → leftsOf S.lu k := fun k ⟨x, hx, hk⟩ => by
    rw [List.mem_append, List.mem_singleton] at hx
    rcases hx with hx | rfl
    · exact ⟨x, hx, hk⟩
    · cases hk
  refine { ha with new := New.turn ha.new ht (fun k hk e => ?_), base := block_turn ha.base ht (fun e => hne _ e _ _ _ ha.base), recs := ⟨xs, own_turn hr1 ht (fun k hk e => ?_), hr2⟩, wins := own_turn ha.wins ht (fun k hk e => ?_), pages := ha.pages.off ht (fun k hk => ⟨fun c t fr e => absurd e (hne k hk c t fr), by rw [hk]; exact ha.maps.2.1.symm⟩), stamps := ha.stamps.off ht (fun k hk => by rw [hk]; exact ha.maps.2.2.symm), units := ⟨hm, fun x hx => ?_, fun m hm => ?_, ?_, fun x hx y hy hxy k hk e => ?_⟩, wl := fun k hk hl => ha.wl k hk (hlo k hl), fo := fun k hk => ha.fo k (hk.imp id (Or.imp id (hlo k))), fu := fun x hx => ?_ }
  · have := ha.fb.2.2.2
    omega
  · obtain ⟨c, hc, _⟩ := own_cells hr1 hk
    exact hne _ e _ _ _ hc
  · obtain ⟨c, hc, _⟩ := own_cells ha.wins hk
    exact hne _ e _ _ _ hc
  · rw [List.mem_append, List.mem_singleton] at hx
    rcases hx with hx | rfl
    · refine ⟨block_turn (ha.units.unit x hx).1 ht (fun e => hne _ e _ _ _ (ha.units.unit x hx).1), own_turn (ha.units.unit x hx).2 ht (fun k hk e => ?_)⟩
      obtain ⟨c, hc, _⟩ := own_cells (ha.units.unit x hx).2 hk
      exact hne _ e _ _ _ hc
    · show (setBlock wa S.un o).heap[b]? = some (.cells (unitCells (W.unit n) (.slice none 0 0)) 66 (0, 0)) ∧ (setBlock wa S.un o).ownsRow 0 3 1 (.slice none 0 0) (W.unit n).left.length (natVals (W.unit n).left)
      rw [h.units.none n hno]
      exact ⟨block_turn hb ht (fun e => hne _ e _ _ _ hb), own_nil_row _ _ _⟩
  · exact h.units.none m (fun x hx => hm x (by rw [List.mem_append]; exact .inl hx))
  · rw [List.map_append, List.nodup_append]
    refine ⟨h.units.nodup, by simp, fun a ha' c hc => ?_⟩
    obtain ⟨p, hp, rfl⟩ := List.mem_map.1 ha'
    have h1 : c = b := by simpa using hc
    have := old p hp
    omega
  · rw [List.mem_append, List.mem_singleton] at hx hy
    rcases hx with hx | rfl
    · rcases hy with hy | rfl
      · exact ha.units.lefts x hx y hy hxy k hk e
      · cases e
    · cases hk
  · rw [List.mem_append, List.mem_singleton] at hx
    rcases hx with hx | rfl
    · exact ha.fu x hx
    · have := h.new.size
      show w0.heap.size ≤ b
      omega
/-- What unit returns, and leaves. -/
def UnitIs (w0 : World) (wb : Nat) (S : WSh) (W : PW) (n : Int) (w : World) (e : Ending) (w' : World) : Prop :=
  ∃ b v lu, e = .returned (.pointer (some ⟨b, 0, none⟩)) ∧ WorldAt w0 w' wb { S with lu := lu } W ∧ (n, b, v) ∈ lu ∧ Turn (· = S.un) w w' ∧ lu.length ≤ S.lu.length + 1 ∧ ∀ x ∈ lu, x ∈ S.lu ∨ x.1 = n
set_option maxRecDepth 100000 in
set_option maxHeartbeats 1000000 in
theorem unit_any (w0 : World) (wb : Nat) (S : WSh) (W : PW) (n : Int) (w : World) (h : WorldAt w0 w wb S W) : Calls Try.prog 85 #[.pointer (some ⟨wb, 0, none⟩), .int .i64 n] w (UnitIs w0 wb S W n w) := by
  obtain ⟨c0, c1, c2, c3, c4⟩ := h.cells
  have H := hid h
  rcases look_unit S.lu h.units.keys n with ⟨hl, hno⟩ | ⟨x, hx, hxn, hl⟩
  · have lk := run_look (t := 62) (k := 3) (e := 67) Try.underlying62 Try.underlying3 (Try.zeroValue67 w) h.units.map n
    rw [hl] at lk
    have lk : (Instr.lookup 62 (.map (some S.un)) (.int .i64 n) false).run Try.prog w = .ok (.pointer none) w := lk
    have na : New w (w.alloc (.cells #[.int .i64 0, .slice none 0 0, .string ⟨#[]⟩, .bool false] 66)) := Below.alloc (New.refl w) (Nat.le_refl _) _
    have HB : Hid ((w.alloc (.cells #[.int .i64 0, .slice none 0 0, .string ⟨#[]⟩, .bool false] 66)).heap[w.heap.size]? = some (.cells #[.int .i64 0, .slice none 0 0, .string ⟨#[]⟩, .bool false] 66 (0, 0))) := hid (alloc_block w _)
    obtain ⟨e0, e1, e2, e3, e4⟩ := (h.newer na).cells
    obtain ⟨o, hput, hm⟩ := run_put (P := Try.prog) (t := 62) (k := 3) (e := 67) Try.underlying62 Try.underlying3 (h.newer na).units.map n (.pointer (some ⟨w.heap.size, 0, none⟩))
    have HX := hid (h.unitIn na hno HB.out (Nat.le_refl _) hm)
    obtain ⟨f0, f1, f2, f3, f4⟩ := HX.out.cells
    have hl2 : look ((S.lu ++ [(n, w.heap.size, Value.slice none 0 0)]).map fun x => (x.1, Value.pointer (some ⟨x.2.1, 0, none⟩))) n = some (.pointer (some ⟨w.heap.size, 0, none⟩)) := by
      refine look_some HX.out.units.map.nodup ?_
      rw [List.map_append]
      exact List.mem_append.2 (.inr (by simp))
    have lk2 := run_look (t := 62) (k := 3) (e := 67) Try.underlying62 Try.underlying3 (Try.zeroValue67 _) HX.out.units.map n
    rw [hl2] at lk2
    have lk2 : (Instr.lookup 62 (.map (some S.un)) (.int .i64 n) false).run Try.prog (setBlock (w.alloc (.cells #[.int .i64 0, .slice none 0 0, .string ⟨#[]⟩, .bool false] 66)) S.un o) = .ok (.pointer (some ⟨w.heap.size, 0, none⟩)) (setBlock (w.alloc (.cells #[.int .i64 0, .slice none 0 0, .string ⟨#[]⟩, .bool false] 66)) S.un o) := lk2
    have HT : Hid (Turn (· = S.un) w (setBlock (w.alloc (.cells #[.int .i64 0, .slice none 0 0, .string ⟨#[]⟩, .bool false] 66)) S.un o)) := hid ((Turn.of_new na).trans (set_turn _ _ _))
    clear h hm hl hl2 hno na
    go_enter Try.func85, Try.ntmps85
    go_wp2_with fail
    go_ret
    exact ⟨w.heap.size, .slice none 0 0, _, rfl, HX.out, by rw [List.mem_append]; exact .inr (by simp), HT.out, by simp, fun x hx => by
      rw [List.mem_append, List.mem_singleton] at hx
      exact hx.imp id (fun e => by rw [e])⟩
  · have lk := run_look (t := 62) (k := 3) (e := 67) Try.underlying62 Try.underlying3 (Try.zeroValue67 w) h.units.map n
    rw [hl] at lk
    have lk : (Instr.lookup 62 (.map (some S.un)) (.int .i64 n) false).run Try.prog w = .ok (.pointer (some ⟨x.2.1, 0, none⟩)) w := lk
    have HP := hid hx
    have HPN := hid hxn
    clear h hl hx hxn
    go_enter Try.func85, Try.ntmps85
    go_wp2
    go_ret
    exact ⟨x.2.1, x.2.2, S.lu, rfl, H.out, by rw [← HPN.out]; exact HP.out, Turn.refl _ _, Nat.le_succ _, fun x hx => .inl hx⟩
end Go.Proofs.Ytmchbciofdokfaa
