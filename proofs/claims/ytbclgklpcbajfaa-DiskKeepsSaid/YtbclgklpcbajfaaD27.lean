/- Many disks side by side (Group); DiskKeeps in plain words. -/
import Derived.Test.YtbclgklpcbajfaaD25
namespace Go.Proofs.Ytbclgklpcbajfaa
open Go.RowKit
set_option linter.unusedSimpArgs false
set_option linter.unusedVariables false

/-- A disk in memory: its block, the block of its waiting writes, what it is. -/
abbrev Dsk := Nat × Option Nat × ADisk
def Dsk.off (x y : Dsk) : Prop := x.1 ≠ y.1 ∧ ∀ k, x.2.1 = some k → y.2.1 ≠ some k
theorem Dsk.off_symm {x y : Dsk} (h : Dsk.off x y) : Dsk.off y x := ⟨Ne.symm h.1, fun k h1 h2 => h.2 k h2 h1⟩
structure Group (w a : World) (L : List Dsk) : Prop where
  new : New w a
  all : ∀ x ∈ L, Mine w a x.1 x.2.1 x.2.2
  off : L.Pairwise Dsk.off
theorem Group.newer {w a a' : World} {L : List Dsk} (h : Group w a L) (hn : New a a') : Group w a' L := ⟨h.new.trans hn, fun x hx => (h.all x hx).newer hn, h.off⟩
theorem Group.drop {w a : World} {x : Dsk} {L : List Dsk} (h : Group w a (x :: L)) : Group w a L := ⟨h.new, fun y hy => h.all y (List.mem_cons_of_mem _ hy), (List.pairwise_cons.1 h.off).2⟩
theorem Group.rot {w a : World} {x : Dsk} {L : List Dsk} (h : Group w a (x :: L)) : Group w a (L ++ [x]) := by
  obtain ⟨h1, h2⟩ := List.pairwise_cons.1 h.off
  refine ⟨h.new, fun y hy => h.all y ?_, List.pairwise_append.2 ⟨h2, List.pairwise_singleton _ _, fun y hy z hz => ?_⟩⟩
  · rcases List.mem_append.1 hy with h | h
    · exact List.mem_cons_of_mem _ h
    · simp at h; subst h; exact List.mem_cons_self
  · simp at hz; subst hz; exact Dsk.off_symm (h1 y hy)
theorem Group.head {w a : World} {b : Nat} {ow : Option Nat} {A : ADisk} {L : List Dsk} (h : Group w a ((b, ow, A) :: L)) : Mine w a b ow A := h.all _ List.mem_cons_self
theorem Group.second {w a : World} {x : Dsk} {b : Nat} {ow : Option Nat} {A : ADisk} {L : List Dsk} (h : Group w a (x :: (b, ow, A) :: L)) : Mine w a b ow A := h.drop.head
theorem Group.nil {w a : World} (h : New w a) : Group w a [] := ⟨h, fun x hx => (by cases hx), List.Pairwise.nil⟩
theorem Group.sub {w a : World} {L L' : List Dsk} (h : Group w a L) (hs : L'.Sublist L) : Group w a L' := ⟨h.new, fun x hx => h.all x (hs.subset hx), h.off.sublist hs⟩
theorem Group.made {w a : World} {L : List Dsk} (h : Group w a L) : Group w (a.alloc (.cells newCells 69)) ((a.heap.size, none, newA) :: L) := by
  have hn : New a (a.alloc (.cells newCells 69)) := (New.refl a).alloc _ _
  refine ⟨h.new.trans hn, fun x hx => ?_, List.pairwise_cons.2 ⟨fun y hy => ⟨?_, fun k hk => by cases hk⟩, h.off⟩⟩
  · rcases List.mem_cons.1 hx with e | e
    · subst e; exact Mine.made w a h.new
    · exact (h.all x e).newer hn
  · have := (h.all y hy).disk.lt
    simp only; omega
theorem off_not1 {w a : World} {b c : Nat} {ow oc : Option Nat} {A C : ADisk} (h1 : Mine w a b ow A) (h2 : Mine w a c oc C) (hoff : Dsk.off (b, ow, A) (c, oc, C)) : (¬ its b ow c) ∧ ∀ k, oc = some k → ¬ its b ow k :=
  have hT : Two w a b ow A c oc C := ⟨h1, h2, hoff.1, hoff.2⟩
  ⟨hT.not1, hT.not2⟩
theorem Group.moved {w a a' : World} {b : Nat} {ow : Option Nat} {A A' : ADisk} {L : List Dsk} {v : Value} {e : Ending} (h : Group w a ((b, ow, A) :: L)) (hm : DiskMoved b ow v A' a e a') :
    ∃ ow', e = .returned v ∧ Group w a' ((b, ow', A') :: L) ∧ Turn (its b ow) a a' := by
  obtain ⟨he, ow', h1, h2, h3⟩ := id hm
  have hb := h.head
  have hn : New w a' := hb.new.turn h3 (fun k hk hs => by
    rcases hs with rfl | hs
    · have := hb.bb; omega
    · have := hb.oo k hs; omega)
  obtain ⟨p1, p2⟩ := List.pairwise_cons.1 h.off
  refine ⟨ow', he, ⟨hn, fun x hx => ?_, List.pairwise_cons.2 ⟨fun y hy => ⟨(p1 y hy).1, fun k hk hk2 => ?_⟩, p2⟩⟩, h3⟩
  · rcases List.mem_cons.1 hx with e | e
    · subst e
      refine ⟨h1, hn, hb.bb, fun k hk => ?_⟩
      rcases h2 k hk with h4 | h4
      · exact hb.oo k h4
      · have := hb.new.size; omega
    · obtain ⟨c, oc, C⟩ := x
      have hx' := h.all _ (List.mem_cons_of_mem _ e)
      obtain ⟨n1, n2⟩ := off_not1 hb hx' (p1 _ e)
      exact ⟨hx'.disk.beside hb.disk h3 n1 n2, hn, hx'.bb, hx'.oo⟩
  · rcases h2 k hk with h4 | h4
    · exact (p1 y hy).2 k h4 hk2
    · have := (h.all _ (List.mem_cons_of_mem _ hy)).disk.its_lt (.inr hk2); omega
theorem Group.back {w a a' : World} {b : Nat} {ow : Option Nat} {A A' : ADisk} {L : List Dsk} {v : Value} {e : Ending} (h : Group w a ((b, ow, A) :: L)) (hm : DiskBack b ow v A' a e a') :
    e = .returned v ∧ Group w a' ((b, ow, A') :: L) ∧ Turn (its b ow) a a' := by
  obtain ⟨he, h1, h3⟩ := id hm
  have h3 : Turn (its b ow) a a' := h3.mono fun k _ h => .inl h
  have hb := h.head
  have hn : New w a' := hb.new.turn h3 (fun k hk hs => by
    rcases hs with rfl | hs
    · have := hb.bb; omega
    · have := hb.oo k hs; omega)
  obtain ⟨p1, p2⟩ := List.pairwise_cons.1 h.off
  refine ⟨he, ⟨hn, fun x hx => ?_, List.pairwise_cons.2 ⟨p1, p2⟩⟩, h3⟩
  rcases List.mem_cons.1 hx with e | e
  · subst e
    exact ⟨h1, hn, hb.bb, hb.oo⟩
  · obtain ⟨c, oc, C⟩ := x
    have hx' := h.all _ (List.mem_cons_of_mem _ e)
    obtain ⟨n1, n2⟩ := off_not1 hb hx' (p1 _ e)
    exact ⟨hx'.disk.beside hb.disk h3 n1 n2, hn, hx'.bb, hx'.oo⟩
theorem Group.copied {w a a' : World} {b : Nat} {ow : Option Nat} {A : ADisk} {L : List Dsk} {e : Ending} (h : Group w a ((b, ow, A) :: L)) (hc : CopyBack A a e a') :
    ∃ c oc, e = .returned (.pointer (some ⟨c, 0, none⟩)) ∧ Group w a' ((c, oc, A) :: (b, ow, A) :: L) ∧ New a a' := by
  obtain ⟨c, oc, he, h1, h2, h3, h4⟩ := hc
  have hs := h.new.size
  have hg := h.newer h2
  refine ⟨c, oc, he, ⟨hg.new, fun x hx => ?_, List.pairwise_cons.2 ⟨fun y hy => ⟨?_, fun k hk hk2 => ?_⟩, hg.off⟩⟩, h2⟩
  · rcases List.mem_cons.1 hx with e | e
    · subst e; exact ⟨h1, hg.new, by simp only; omega, fun k hk => by have := h4 k hk; omega⟩
    · exact hg.all x e
  · have := (h.all y hy).disk.lt
    simp only; omega
  · have := (h.all y hy).disk.its_lt (.inr hk2); have := h4 k hk; omega
/-- Blocks of another kind turn. -/
theorem Mine.beside {S : Nat → Prop} {w a a' : World} {b : Nat} {ow : Option Nat} {A : ADisk} (h : Mine w a b ow A) (ht : Turn S a a') (hS : ∀ k c fr t, S k → a.heap[k]? = some (.cells c t fr) → t ≠ 5 ∧ t ≠ 69 ∧ t ≠ 97) (hw : ∀ k, k < w.heap.size → ¬ S k) : Mine w a' b ow A := by
  have hno : ∀ k, its b ow k → ¬ S k := fun k hk hs => by
    obtain ⟨c, t, e, ht⟩ := h.disk.typed hk
    obtain ⟨_, h2, h3⟩ := hS k c _ t hs e
    rcases ht with h | h
    · exact h2 h
    · exact h3 h
  exact ⟨h.disk.turn ht (fun k c fr hk e => (hS k c fr 5 hk e).1 rfl) (hno b (.inl rfl)) (fun k hk => hno k (.inr hk)), h.new.turn ht hw, h.bb, h.oo⟩
theorem Group.beside {S : Nat → Prop} {w a a' : World} {L : List Dsk} (h : Group w a L) (ht : Turn S a a') (hS : ∀ k c fr t, S k → a.heap[k]? = some (.cells c t fr) → t ≠ 5 ∧ t ≠ 69 ∧ t ≠ 97) (hw : ∀ k, k < w.heap.size → ¬ S k) : Group w a' L :=
  ⟨h.new.turn ht hw, fun x hx => (h.all x hx).beside ht hS hw, h.off⟩

/-! DiskKeeps. -/
structure Keeping (w wr : World) (l : Nat) (c : Nat) (oc : Option Nat) (C : ADisk) (ow : Option Nat) (A : ADisk) (j : Nat) : Prop where
  grp : Group w wr [(l, ow, A), (c, oc, C)]
  calm : Calm A (2 * j)
  safe : C.safe = A.safe
  waits : C.waits = []
  down : C.down = false
theorem writeA_safe {A : ADisk} {n : Nat} (h : Calm A n) (m : Int) (s : ByteArray) : (writeA A m s).safe = A.safe := by
  by_cases hw : writeE A m s = 0
  · obtain ⟨h1, h2⟩ := writeE_ok h hw
    rw [writeA_ok h h1 h2]
  · rw [writeE_no h hw]
theorem writeA_calm {A : ADisk} {n : Nat} (h : Calm A n) (m : Int) (s : ByteArray) : Calm (writeA A m s) (n + 1) := by
  by_cases hw : writeE A m s = 0
  · exact h.write hw
  · rw [writeE_no h hw]; exact h.mono (by omega)
theorem flushA_calm {A : ADisk} {n : Nat} (h : Calm A n) : flushA A = { A with acts := A.acts + 1, waits := [], safe := layAll A.waits A.safe } := by
  simp only [flushA, h.act, h.acted, if_true]
/-- A write leaves all other blocks as they are. -/
theorem readE_write {A : ADisk} {n : Nat} (h : Calm A n) (m k : Int) (s : ByteArray) : readE (writeA A m s) k = readE A k := by
  simp only [readE, (writeA_calm h m s).down, h.down]
theorem readB_write {A : ADisk} {n : Nat} (h : Calm A n) {m k : Int} (hmk : m ≠ k) (s : ByteArray) : readB (writeA A m s) k = readB A k := by
  simp only [readB, readE_write h]
  by_cases hk : readE A k = 0
  · rw [if_pos hk, if_pos hk]
    by_cases hw : writeE A m s = 0
    · obtain ⟨h1, h2⟩ := writeE_ok h hw
      rw [writeA_ok h h1 h2, layAll_snoc]
      have hb : isB k = true := by
        simp only [readE] at hk
        by_cases hb : isB k = true
        · exact hb
        · simp [hb] at hk
      rw [if_neg (fun e => hmk (isB_toNat h1 hb e.symm))]
    · rw [writeE_no h hw]
  · rw [if_neg hk, if_neg hk]
theorem crashTo_all {l : List (Nat × ByteArray)} {s : Nat → ByteArray} {k : Nat} (hk : ∀ p ∈ l, p.2.size ≤ k) : ∀ i, i ≤ l.length → crashTo l (List.replicate l.length true) k s i = layAll (l.take i) s := by
  intro i
  induction i with
  | zero => intro _; rfl
  | succ i ih =>
    intro hi
    have h := ih (by omega)
    have hkeep : (List.replicate l.length true).getD i false = true := by
      rw [List.getD_eq_getElem?_getD, List.getElem?_replicate, if_pos (by omega)]; rfl
    rw [layAll_take (by omega)]
    by_cases hl : i + 1 = l.length
    · rw [crashTo_last (by omega) hkeep hl, h]
      have : (l[i]'(by omega)).2.size ≤ k := hk _ (List.getElem_mem _)
      simp only [tornB, if_pos this]
    · rw [crashTo_keep (by omega) hkeep hl, h]
theorem same_kept {A : ADisk} {n : Nat} (h : Calm A n) : SameD (upA A (List.replicate A.waits.length true) 340) (flushA A) := by
  rw [flushA_calm h]
  have e : (upA A (List.replicate A.waits.length true) 340).safe = layAll A.waits A.safe := by
    show crashTo A.waits _ (max (340 : Int) 0).toNat A.safe A.waits.length = _
    rw [crashTo_all (k := (max (340 : Int) 0).toNat) (fun p hp => h.small.2 p hp) _ (Nat.le_refl _), List.take_length]
  refine ⟨h.down.symm, fun i hi => ⟨by rw [e], ?_⟩⟩
  show layAll [] (upA A _ 340).safe i = layAll [] _ i
  rw [e]
theorem same_down {A : ADisk} {n : Nat} (h : Calm A n) (keep : List Bool) (k : Int) : ¬ SameD (crashA A keep k) (flushA A) := by
  intro hs
  have h1 := hs.1
  rw [flushA_calm h] at h1
  have : (crashA A keep k).down = true := rfl
  rw [this] at h1
  have h2 := h.down
  simp only [h2] at h1
  cases h1
theorem same_none {A C : ADisk} (h1 : C.safe = A.safe) (h2 : C.waits = []) (h3 : C.down = false) : SameD (upA A [] 0) C := by
  have e : (upA A [] 0).safe = A.safe := crashTo_none _ _ _ _
  refine ⟨h3.symm, fun i hi => ⟨by rw [e, h1], ?_⟩⟩
  show layAll [] (upA A [] 0).safe i = _
  rw [e, h2, h1]

theorem info4 : (Try.prog.info? 4).map (fun i => (i.zero, i.size, i.bytes)) = some (some (.bool false), 1, 1) := by kernel_rfl
theorem make_bools (w : World) (n : Nat) (hn : n ≤ 1000000) : ∃ cs, (Instr.makeSlice 30 (.int .i64 n) (.int .i64 n)).run Try.prog w = .ok (.slice (some ⟨w.heap.size, 0, none⟩) n n) (w.alloc (.cells cs 4)) ∧ cs.size = n ∧ ∀ i, i < n → cs[i]? = some (.bool false) := by
  obtain ⟨i0, hi, hz0, hz1, hz2⟩ := info_parts info4
  have hr := run_makeSlice (P := Try.prog) w 30 4 i0 _ Try.underlying30 hi hz0 .i64 .i64 n n (by omega) (by omega) (by rw [hz1]; omega) (by rw [hz2]; omega) (by omega)
  rw [hz1] at hr
  simp only [Int.toNat_natCast, Nat.mul_one] at hr
  refine ⟨_, hr, ?_, ?_⟩
  · simp [madeCells, Value.cells]
  · intro i hi
    simp [madeCells, Value.cells, hi, Nat.mod_one]

/-- The cells of a row of booleans, of which the first k are true. -/
theorem Raw.same {w : World} {b : Nat} {t : TypeId} {n : Nat} {f f' : Nat → Value} (h : Raw w b t n f) (hf : ∀ i, i < n → f i = f' i) : Raw w b t n f' := by
  obtain ⟨cs, h1, h2, h3⟩ := h
  exact ⟨cs, h1, h2, fun i hi => by rw [h3 i hi, hf i hi]⟩
theorem Raw.bools {w : World} {b n c : Nat} {f : Nat → Value} (h : Raw w b 4 n f) (hc : n ≤ c) (hm : c ≤ maxLen) (l : List Bool) (hl : l.length = n) (hf : ∀ i (hi : i < l.length), f i = .bool l[i]) : Bools w (.slice (some ⟨b, 0, none⟩) n c) l := by
  subst hl
  refine ⟨_, c, rfl, hc, hm, fun h0 => ⟨b, 0, rfl, h.lt, fun i hi => ?_⟩⟩
  have hi' : i < l.length := by simpa using hi
  rw [Nat.zero_add, h.cell i hi', hf i hi']
  simp [List.getD_eq_getElem?_getD, hi']

end Go.Proofs.Ytbclgklpcbajfaa
