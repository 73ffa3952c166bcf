/- What a call that arms nothing tells of the frames: plain laws. -/
import Derived.Test.YtdccbceaajnajaaGreatS18
namespace Go.Proofs.YtdccbceaajnajaaGreat
open Go.RowKit
set_option linter.unusedSimpArgs false
set_option linter.unusedVariables false

/-- A disk that is up, and not armed. -/
structure Quiet (A : ADisk) : Prop where
  up : A.down = false
  unarmed : A.armed = 0
theorem quiet_new : Quiet newA := ⟨rfl, rfl⟩
theorem Quiet.err {A : ADisk} (h : Quiet A) : actE A = 0 := by simp [actE, h.up, h.unarmed]
theorem Quiet.act {A : ADisk} (h : Quiet A) : Quiet (actA A) := by
  have e : actA A = { A with armed := max (A.armed - 1) 0, acts := A.acts + 1 } := by
    unfold actA
    rw [h.up, h.unarmed]
    rfl
  rw [e]
  exact ⟨h.up, by show max (A.armed - 1) 0 = 0; rw [h.unarmed]; rfl⟩
theorem Quiet.write {A : ADisk} (h : Quiet A) (n : Int) (s : ByteArray) : Quiet (writeA A n s) := by
  unfold writeA
  split
  · exact h
  · split
    · exact ⟨h.act.up, h.act.unarmed⟩
    · exact h.act
theorem Quiet.flush {A : ADisk} (h : Quiet A) : Quiet (flushA A) := by
  unfold flushA
  split
  · exact ⟨h.act.up, h.act.unarmed⟩
  · exact h.act
theorem Quiet.force {A : ADisk} (h : Quiet A) (T : ATape) : Quiet (forceA A T) := by
  unfold forceA
  split
  · exact h.flush
  · exact h
theorem Quiet.out {A : ADisk} (h : Quiet A) (T : ATape) (f : AFrame) : Quiet (outA A T f) := by
  have h1 : Quiet (outA1 A T f) := by
    unfold outA1
    split
    · exact h.force T
    · exact h
  unfold outA
  split
  · split
    · exact h1.write _ _
    · exact h1
  · exact h
theorem Quiet.outU {A : ADisk} (h : Quiet A) (T : ATape) (P : APool) (n : Int) : Quiet (outU A T P n).A := by
  unfold Go.Proofs.YtdccbceaajnajaaGreat.outU
  split
  · split
    · exact h
    · split
      · exact h.out T _
      · exact h
  · exact h
theorem Quiet.outs (l : List Int) : ∀ {A : ADisk} {T : ATape} {P : APool}, Quiet A → Quiet (outs l A T P).A := by
  induction l with
  | nil => intro A T P h; exact h
  | cons n l ih =>
    intro A T P h
    unfold Go.Proofs.YtdccbceaajnajaaGreat.outs
    split
    · exact ih (h.outU T P n)
    · exact h.outU T P n
theorem Quiet.clean {A : ADisk} {T : ATape} {P : APool} (h : Quiet A) : Quiet (cleanU A T P).A := by
  have h1 := Quiet.outs (dirtyOf P) (T := T) (P := P) h
  unfold cleanU
  split
  · exact h1.flush
  · exact h1
theorem Quiet.read {A : ADisk} {T : ATape} {P : APool} {n k : Nat} (h : Quiet A) : Quiet (readU A T P n k).A := by
  unfold readU
  split <;> exact h
theorem Quiet.use {A : ADisk} {T : ATape} {P : APool} {n k : Nat} (h : Quiet A) : Quiet (useU A T P n k).A := by
  unfold useU
  split
  · split <;> exact h
  · unfold missU
    split
    · split
      · split
        · exact Quiet.read (h.out _ _)
        · exact h.out _ _
      · exact h
    · exact h.read
theorem Quiet.page {A : ADisk} {T : ATape} {P : APool} {n : Int} {k : Nat} (h : Quiet A) : Quiet (pageU A T P n k).A := by
  unfold pageU
  split
  · split
    · exact h
    · exact h.use
  · exact h
theorem Quiet.set {A : ADisk} {T : ATape} {P : APool} {n : Int} {s : ByteArray} {st : Int} {k : Nat} (h : Quiet A) : Quiet (setU A T P n s st k).A := by
  unfold setU
  split
  · split
    · exact h
    · split
      · exact h.use
      · exact h.use
  · exact h
theorem Quiet.app {A : ADisk} {T : ATape} {P : APool} (r : Rec) (h : Quiet A) : Quiet (appU A T P r).A := by
  have hw := h.write (120 + (T.recs.length : Int)) (appS T r)
  unfold appU
  generalize writeE A (120 + (T.recs.length : Int)) (appS T r) = z1 at *
  generalize writeA A (120 + (T.recs.length : Int)) (appS T r) = z2 at *
  split
  · split <;> exact hw
  · exact h
theorem Quiet.call {A : ADisk} {T : ATape} {P : APool} {m : Move} {k : Nat} (h : Quiet A) (hk : kindOf m ≠ 6) : Quiet (callU m A T P k).A := by
  unfold callU
  split
  · exact h.app _
  · split
    · exact h.page
    · split
      · exact h.set
      · split
        · exact h.outU _ _ _
        · split
          · exact h.clean
          · split
            · exact h.force T
            · rename_i h0 h1 h2 h3 h4 h5
              rcases kindOf_cases m with e | e | e | e | e | e | e <;> contradiction

theorem mem_pages {P : APool} {n : Nat} : (n : Int) ∈ pagesOf P ↔ ∃ p ∈ P.frames, p.2.page = n := by
  unfold pagesOf
  rw [List.mem_map]
  constructor
  · rintro ⟨p, hp, e⟩
    exact ⟨p, hp, by omega⟩
  · rintro ⟨p, hp, e⟩
    exact ⟨p, hp, by omega⟩
/-- A page is read from the disk where no frame has it, and else not. -/
theorem useU_reads (A : ADisk) (T : ATape) (P : APool) (n k : Nat) (hsz : 2 ≤ P.size) (hlen : P.frames.length ≤ P.size) : (useU A T P n k).P.reads = P.reads + if (useU A T P n k).e = 0 ∧ (n : Int) ∉ pagesOf P then 1 else 0 := by
  have hread : ∀ (A : ADisk) (T : ATape) (Q : APool), Q.reads = P.reads → (n : Int) ∉ pagesOf P → (readU A T Q n k).P.reads = P.reads + if (readU A T Q n k).e = 0 ∧ (n : Int) ∉ pagesOf P then 1 else 0 := fun A T Q hq hno => by
    by_cases h : readE A n = 0
    · have e : readU A T Q n k = ⟨0, A, T, readP Q k (frameOf n (readB A n).data.toList)⟩ := by unfold readU; rw [if_pos h]
      have e2 : (readU A T Q n k).P.reads = Q.reads + 1 := by rw [e]; rfl
      have e3 : (readU A T Q n k).e = 0 := by rw [e]
      rw [e2, e3, hq, if_pos ⟨rfl, hno⟩]
    · have e : readU A T Q n k = ⟨readE A n, A, T, Q⟩ := by unfold readU; rw [if_neg h]
      have e2 : (readU A T Q n k).P.reads = Q.reads := by rw [e]
      have e3 : (readU A T Q n k).e = readE A n := by rw [e]
      rw [e2, e3, hq, if_neg (fun h2 => h h2.1), Nat.add_zero]
  cases hf : P.frames.findIdx? (fun p => p.2.page == n) with
  | some i =>
    obtain ⟨hlt, hp, _⟩ := List.findIdx?_eq_some_iff_getElem.1 hf
    have hin : (n : Int) ∈ pagesOf P := mem_pages.2 ⟨P.frames[i], List.getElem_mem hlt, by simpa using hp⟩
    have e : (useU A T P n k).P.reads = P.reads := by
      unfold useU
      rw [hf]
      dsimp only
      cases P.frames[i]? <;> rfl
    rw [e, if_neg (fun h2 => h2.2 hin), Nat.add_zero]
  | none =>
    have hno : (n : Int) ∉ pagesOf P := fun h => by
      obtain ⟨p, hp, e⟩ := mem_pages.1 h
      rw [List.findIdx?_eq_none_iff] at hf
      have := hf p hp
      simp [e] at this
    have e : useU A T P n k = missU A T P n k := by unfold useU; rw [hf]
    rw [e]
    by_cases hfull : P.frames.length = P.size
    · have hx : P.frames[0]? = some (P.frames[0]'(by omega)) := List.getElem?_eq_getElem _
      generalize P.frames[0]'(by omega) = x at hx
      by_cases h : outE A T x.2 = 0
      · have e : missU A T P n k = readU (outA A T x.2) (outT A T x.2) (setF P x.1 (outF A T x.2)) n k := by unfold missU; rw [if_pos hfull, hx]; dsimp only; rw [if_pos h]
        rw [e]
        exact hread _ _ _ rfl hno
      · have e : missU A T P n k = ⟨outE A T x.2, outA A T x.2, outT A T x.2, setF P x.1 (outF A T x.2)⟩ := by unfold missU; rw [if_pos hfull, hx]; dsimp only; rw [if_neg h]
        have e2 : (missU A T P n k).P.reads = P.reads := by rw [e]; rfl
        have e3 : (missU A T P n k).e = outE A T x.2 := by rw [e]
        rw [e2, e3, if_neg (fun h2 => h h2.1), Nat.add_zero]
    · have e : missU A T P n k = readU A T P n k := by unfold missU; rw [if_neg hfull]
      rw [e]
      exact hread _ _ _ rfl hno
/-- The page that is set is dirty. -/
theorem mem_dirty {P : APool} {n : Int} : n ∈ dirtyOf P ↔ ∃ p ∈ P.frames, (p.2.page : Int) = n ∧ p.2.dirty = true := by
  unfold dirtyOf sortI
  rw [(List.mergeSort_perm _ _).mem_iff]
  unfold dirtyL
  simp only [List.mem_map, List.mem_filter]
  constructor
  · rintro ⟨p, ⟨hp, hd⟩, e⟩
    exact ⟨p, hp, e, hd⟩
  · rintro ⟨p, hp, e, hd⟩
    exact ⟨p, ⟨hp, hd⟩, e⟩
theorem dirty_sub {P : APool} {n : Int} (h : n ∈ dirtyOf P) : n ∈ pagesOf P := by
  obtain ⟨p, hp, e, _⟩ := mem_dirty.1 h
  exact List.mem_map.2 ⟨p, hp, e⟩
theorem nodup_map' {α β : Type} {l : List α} (h : l.Nodup) (f : α → β) (hf : ∀ a b, f a = f b → a = b) : (l.map f).Nodup := by
  rw [List.Nodup, List.pairwise_map]
  exact h.imp fun hne e => hne (hf _ _ e)
theorem dirty_sorted {P : APool} (hnd : (P.frames.map fun p => p.2.page).Nodup) : (dirtyOf P).Pairwise (· < ·) := by
  have h1 : (dirtyOf P).Pairwise fun a b => decide (a ≤ b) = true := by
    unfold dirtyOf sortI
    exact List.pairwise_mergeSort (fun a b c h1 h2 => by simp at *; omega) (fun a b => by simp; omega) _
  have h2 : (dirtyOf P).Nodup := by
    unfold dirtyOf sortI
    rw [(List.mergeSort_perm _ _).nodup_iff]
    unfold dirtyL
    have : ((P.frames.filter fun p => p.2.dirty).map fun p => p.2.page).Nodup := List.Nodup.sublist (List.filter_sublist.map _) hnd
    have e : ((P.frames.filter fun p => p.2.dirty).map fun p => (p.2.page : Int)) = ((P.frames.filter fun p => p.2.dirty).map fun p => p.2.page).map fun n : Nat => (n : Int) := by rw [List.map_map]; rfl
    rw [e]
    exact nodup_map' this _ (fun a b h => by omega)
  have := h1.and h2
  exact this.imp fun ⟨a, b⟩ => by
    simp at a
    omega
/-- A page is used by a call. -/
def usedM (m : Move) (U : Used) : Bool := decide (U.e = 0) && (decide (kindOf m = 1) || decide (kindOf m = 2))
/-- What a call tells of the frames. -/
structure Tells (m : Move) (P : APool) (U : Used) : Prop where
  reads : U.P.reads = P.reads + if usedM m U = true ∧ m.n ∉ pagesOf P then 1 else 0
  last : usedM m U = true → ∃ l x, U.P.frames = l ++ [x] ∧ (x.2.page : Int) = m.n
  dirt : usedM m U = true → kindOf m = 2 → m.n ∈ dirtyOf U.P
theorem page_tells {N i : Nat} {A : ADisk} {T : ATape} {P : APool} {k : Nat} {n : Int} (F : Fine N i A T P) (hd : A.down = false) :
    (pageU A T P n k).P.reads = P.reads + (if (pageU A T P n k).e = 0 ∧ n ∉ pagesOf P then 1 else 0) ∧ ((pageU A T P n k).e = 0 → ∃ l x, (pageU A T P n k).P.frames = l ++ [x] ∧ (x.2.page : Int) = n) := by
  have h2 : 2 ≤ P.size := by rw [F.size]; exact F.two
  have h3 : P.frames.length ≤ P.size := by rw [F.size]; exact F.len
  unfold pageU
  split
  · rename_i hp
    obtain ⟨t, rfl, ht⟩ := isP_nat hp
    rw [hd, Int.toNat_natCast, if_neg (by decide)]
    refine ⟨useU_reads A T P t k h2 h3, fun h => ?_⟩
    obtain ⟨l, x, e1, e2⟩ := useU_last (A := A) (T := T) (P := P) (n := t) (k := k) h2 h
    exact ⟨l, x, e1, by rw [e2]⟩
  · exact ⟨by simp, fun h => by simp at h⟩
theorem set_tells {N i : Nat} {A : ADisk} {T : ATape} {P : APool} {k : Nat} {n st : Int} {s : ByteArray} (F : Fine N i A T P) (hd : A.down = false) (hnd : (P.frames.map (·.1)).Nodup) (hk : k ∉ P.frames.map (·.1)) :
    (setU A T P n s st k).P.reads = P.reads + (if (setU A T P n s st k).e = 0 ∧ n ∉ pagesOf P then 1 else 0) ∧ ((setU A T P n s st k).e = 0 → ∃ l x, (setU A T P n s st k).P.frames = l ++ [x] ∧ (x.2.page : Int) = n ∧ x.2.dirty = true ∧ x.2.b = s) := by
  have h2 : 2 ≤ P.size := by rw [F.size]; exact F.two
  have h3 : P.frames.length ≤ P.size := by rw [F.size]; exact F.len
  unfold setU
  split
  · rename_i hp
    rw [Bool.and_eq_true] at hp
    obtain ⟨t, rfl, ht⟩ := isP_nat hp.1
    rw [hd, Int.toNat_natCast, if_neg (by decide)]
    have hr := useU_reads A T P t k h2 h3
    have hl := fun h => useU_last (A := A) (T := T) (P := P) (n := t) (k := k) h2 h
    have hN := useU_nodup (A := A) (T := T) (n := t) hnd hk
    generalize useU A T P t k = U at *
    split
    · rename_i h0
      obtain ⟨l, x, e1, e2⟩ := hl h0
      have e3 := setLast_frames e1 hN s st.toNat
      refine ⟨?_, fun _ => ⟨l, (x.1, ⟨x.2.page, s, st.toNat, true⟩), e3, by show (x.2.page : Int) = t; rw [e2], rfl, rfl⟩⟩
      rw [← hr]
      show (setLast U.P s st.toNat).reads = U.P.reads
      rw [setLast_snoc e1]
      rfl
    · rename_i h0
      exact ⟨hr, fun h => absurd h h0⟩
  · exact ⟨by simp, fun h => by simp at h⟩
theorem outs_reads {N i : Nat} {A : ADisk} {T : ATape} {P : APool} (F : Fine N i A T P) (hd : A.down = false) (hnd : (P.frames.map (·.1)).Nodup) : (cleanU A T P).P.reads = P.reads := by
  obtain ⟨g1, g2, g3, g4, g5, g6, g7⟩ := outs_step (dirtyOf P) (T := T) hnd hd F.lim F.ok
  unfold cleanU
  split
  · exact g4
  · exact g4
theorem call_tells {N i : Nat} {A : ADisk} {T : ATape} {P : APool} {k : Nat} {m : Move} (F : Fine N i A T P) (hd : A.down = false) (hnd : (P.frames.map (·.1)).Nodup) (hk : k ∉ P.frames.map (·.1)) : Tells m P (callU m A T P k) := by
  have key : ∀ U : Used, kindOf m ≠ 1 → kindOf m ≠ 2 → U.P.reads = P.reads → Tells m P U := fun U h1 h2 hr => by
    have hu : usedM m U = false := by simp [usedM, h1, h2]
    refine ⟨?_, fun h => ?_, fun h => ?_⟩
    · rw [hr, hu, if_neg (fun h => by have := h.1; cases this), Nat.add_zero]
    · rw [hu] at h
      cases h
    · rw [hu] at h
      cases h
  rcases kindOf_cases m with h | h | h | h | h | h | h
  · have e : callU m A T P k = appU A T P (noteR (cutB m.bytes)) := by unfold callU; rw [if_pos h]
    rw [e]
    refine key _ (by omega) (by omega) ?_
    generalize noteR (cutB m.bytes) = r
    unfold appU
    generalize writeE A (120 + (T.recs.length : Int)) (appS T r) = z1 at *
    generalize writeA A (120 + (T.recs.length : Int)) (appS T r) = z2 at *
    split
    · split <;> rfl
    · rfl
  · have e : callU m A T P k = pageU A T P m.n k := by unfold callU; rw [if_neg (by omega), if_pos h]
    rw [e]
    obtain ⟨h1, h2⟩ := page_tells (k := k) (n := m.n) F hd
    have hu : ∀ U : Used, usedM m U = decide (U.e = 0) := fun U => by simp [usedM, h]
    refine ⟨?_, fun hh => ?_, fun hh h2 => by omega⟩
    · rw [h1, hu]
      simp
    · rw [hu] at hh
      exact h2 (by simpa using hh)
  · have e : callU m A T P k = setU A T P m.n (fillB m.bytes) m.stamp k := by unfold callU; rw [if_neg (by omega), if_neg (by omega), if_pos h]
    rw [e]
    obtain ⟨h1, h2⟩ := set_tells (k := k) (n := m.n) (st := m.stamp) (s := fillB m.bytes) F hd hnd hk
    have hu : ∀ U : Used, usedM m U = decide (U.e = 0) := fun U => by simp [usedM, h]
    refine ⟨?_, fun hh => ?_, fun hh _ => ?_⟩
    · rw [h1, hu]
      simp
    · rw [hu] at hh
      obtain ⟨l, x, e1, e2, _, _⟩ := h2 (by simpa using hh)
      exact ⟨l, x, e1, e2⟩
    · rw [hu] at hh
      obtain ⟨l, x, e1, e2, e3, _⟩ := h2 (by simpa using hh)
      exact mem_dirty.2 ⟨x, by rw [e1]; simp, e2, e3⟩
  · have e : callU m A T P k = outU A T P m.n := by unfold callU; rw [if_neg (by omega), if_neg (by omega), if_neg (by omega), if_pos h]
    rw [e]
    exact key _ (by omega) (by omega) (outU_step (N := N) (i := i) m.n hnd hd F.lim).2.2.1
  · have e : callU m A T P k = cleanU A T P := by unfold callU; rw [if_neg (by omega), if_neg (by omega), if_neg (by omega), if_neg (by omega), if_pos h]
    rw [e]
    exact key _ (by omega) (by omega) (outs_reads F hd hnd)
  · have e : callU m A T P k = ⟨forceE A T, forceA A T, forceT A T, P⟩ := by unfold callU; rw [if_neg (by omega), if_neg (by omega), if_neg (by omega), if_neg (by omega), if_neg (by omega), if_pos h]
    rw [e]
    exact key _ (by omega) (by omega) rfl
  · have e : callU m A T P k = ⟨0, { A with armed := max m.n 0 }, T, P⟩ := by unfold callU; rw [if_neg (by omega), if_neg (by omega), if_neg (by omega), if_neg (by omega), if_neg (by omega), if_neg (by omega)]
    rw [e]
    exact key _ (by omega) (by omega) rfl
end Go.Proofs.YtdccbceaajnajaaGreat
