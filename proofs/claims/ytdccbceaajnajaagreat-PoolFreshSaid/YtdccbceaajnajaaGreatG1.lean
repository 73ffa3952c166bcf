/- What the disk and the frames have of each page: plain laws. -/
import Derived.Test.YtdccbceaajnajaaGreatF1
namespace Go.Proofs.YtdccbceaajnajaaGreat
open Go.RowKit
set_option linter.unusedSimpArgs false
set_option linter.unusedVariables false

/-- What a block of the disk has. -/
def vis (A : ADisk) (n : Nat) : ByteArray := layAll A.waits A.safe n
theorem vis_act (A : ADisk) : vis (actA A) = vis A := by
  unfold vis
  rw [actA_waits, actA_safe]
theorem vis_flush (A : ADisk) : vis (flushA A) = vis A := by
  unfold flushA
  split
  · rfl
  · exact vis_act A
theorem vis_force (A : ADisk) (T : ATape) : vis (forceA A T) = vis A := by
  unfold forceA
  split
  · exact vis_flush A
  · rfl
theorem vis_write {A : ADisk} (n : Int) (s : ByteArray) (m : Nat) : vis (writeA A n s) m = vis A m ∨ (vis (writeA A n s) m = s ∧ n.toNat = m) := by
  unfold writeA
  split
  · exact .inl rfl
  · split
    · unfold vis
      show layAll (A.waits ++ [(n.toNat, s)]) (actA A).safe m = _ ∨ (layAll (A.waits ++ [(n.toNat, s)]) (actA A).safe m = _ ∧ _)
      rw [layAll_snoc, actA_safe]
      by_cases h : m = n.toNat
      · rw [if_pos h]
        exact .inr ⟨rfl, h.symm⟩
      · rw [if_neg h]
        exact .inl rfl
    · exact .inl (by rw [vis_act])
theorem vis_wrote {A : ADisk} {n : Int} {s : ByteArray} (hn : isB n = true) (hs : s.size ≤ 340) (ha : actE A = 0) (m : Nat) : vis (writeA A n s) m = if m = n.toNat then s else vis A m := by
  rw [writeA_yes hn hs ha]
  unfold vis
  show layAll ((actA A).waits ++ [(n.toNat, s)]) (actA A).safe m = _
  rw [layAll_snoc, actA_safe, actA_waits]
/-- What reading a page gives. -/
def pageAt (A : ADisk) (n : Nat) : AFrame := frameOf n (vis A n).data.toList
theorem read_vis {A : ADisk} (hd : A.down = false) {n : Nat} (hn : n < 120) : readE A (n : Int) = 0 ∧ readB A (n : Int) = vis A n := by
  have h := read_up hd hn
  refine ⟨h, ?_⟩
  unfold readB
  rw [if_pos h]
  rfl
theorem page_block {f : AFrame} (h : FrameOk f) : pageE (outBlk f).data.toList = true ∧ frontN (outBlk f).data.toList = (f.stamp : Int) ∧ (frameOf f.page (outBlk f).data.toList).b = f.b := by
  obtain ⟨h1, h2, h3⟩ := frame_block h
  have e : (outBlk f).data.toList = blkB f.b.data.toList (f.stamp : Int) := by
    rw [h2]
    simp [bytesOf]
  obtain ⟨g1, g2, g3⟩ := blk_page h1
  rw [e]
  refine ⟨g1, g2, ?_⟩
  unfold frameOf
  rw [if_pos g1]
  show bytesOf (pageL _) = f.b
  rw [g3, bytesOf_data]

/-- What holds of a pool that was never armed. -/
structure Sound (A : ADisk) (T : ATape) (P : APool) : Prop where
  quiet : Quiet A
  forced : T.forced ≤ T.recs.length
  stamps : ∀ p ∈ P.frames, p.2.stamp ≤ T.recs.length
  disk : ∀ n, n < 120 → pageE (vis A n).data.toList = true → frontN (vis A n).data.toList ≤ (T.forced : Int)
  clean : ∀ p ∈ P.frames, p.2.dirty = false → (pageAt A p.2.page).b = p.2.b
/-- A page's bytes are s. -/
structure Views (A : ADisk) (P : APool) (n : Nat) (s : ByteArray) : Prop where
  frame : ∀ p ∈ P.frames, p.2.page = n → p.2.b = s
  block : (∀ p ∈ P.frames, p.2.page ≠ n) → (pageAt A n).b = s
theorem frontN_empty : pageE (ByteArray.empty).data.toList = false := by
  unfold pageE
  rfl
theorem sound_new (N : Nat) : Sound newA tape0 ⟨N, [], 0⟩ := by
  refine ⟨quiet_new, Nat.le_refl _, fun p hp => (by cases hp), fun n _ h => ?_, fun p hp => (by cases hp)⟩
  have e : vis newA n = ByteArray.empty := rfl
  rw [e, frontN_empty] at h
  cases h
theorem pageAt_stamp {A : ADisk} {T : ATape} {P : APool} (S : Sound A T P) {n : Nat} (hn : n < 120) : (pageAt A n).stamp ≤ T.recs.length := by
  unfold pageAt frameOf
  split
  · rename_i h
    have h1 := S.disk n hn h
    have h2 := S.forced
    show (frontN (vis A n).data.toList).toNat ≤ _
    omega
  · exact Nat.zero_le _
theorem pageAt_vis {A B : ADisk} {n : Nat} (h : vis B n = vis A n) : pageAt B n = pageAt A n := by
  unfold pageAt
  rw [h]
theorem Quiet.forceE {A : ADisk} (h : Quiet A) (T : ATape) : forceE A T = 0 := by
  unfold Go.Proofs.YtdccbceaajnajaaGreat.forceE
  split
  · exact h.err
  · rfl
theorem forceT_forced {A : ADisk} (h : Quiet A) (T : ATape) : forceT A T = { T with forced := T.recs.length, late := false } := by
  unfold forceT
  rw [if_pos (h.forceE T)]
theorem outE1_zero {A : ADisk} (h : Quiet A) (T : ATape) (f : AFrame) : outE1 A T f = 0 ∧ Quiet (outA1 A T f) ∧ vis (outA1 A T f) = vis A := by
  unfold outE1 outA1
  split
  · exact ⟨h.forceE T, h.force T, vis_force A T⟩
  · exact ⟨rfl, h, rfl⟩
theorem outE_zero {A : ADisk} (h : Quiet A) (T : ATape) {f : AFrame} (hf : FrameOk f) : outE A T f = 0 := by
  obtain ⟨h1, h2, h3⟩ := outE1_zero h T f
  unfold outE
  split
  · unfold writeE
    rw [if_neg (by
      have hs := (frame_block hf).2.2
      have hp := hf.page
      rw [Bool.or_eq_true, hs]
      unfold isB
      simp
      omega)]
    exact h2.err
  · rfl
/-- A frame goes out. -/
theorem out_vis {A : ADisk} {T : ATape} (h : Quiet A) {f : AFrame} (hf : FrameOk f) (m : Nat) : vis (outA A T f) m = if f.dirty = true ∧ m = f.page then outBlk f else vis A m := by
  obtain ⟨h1, h2, h3⟩ := outE1_zero h T f
  unfold outA
  split
  · rename_i hd
    have hs := (frame_block hf).2.2
    have hp := hf.page
    rw [vis_wrote (by unfold isB; simp; omega) (by rw [hs]; decide) h2.err, h3, Int.toNat_natCast]
    by_cases hm : m = f.page
    · rw [if_pos hm, if_pos ⟨hd, hm⟩]
    · rw [if_neg hm, if_neg (fun h => hm h.2)]
  · rename_i hd
    rw [if_neg (fun h => hd h.1)]
theorem out_tape {A : ADisk} {T : ATape} (h : Quiet A) (hfr : T.forced ≤ T.recs.length) (f : AFrame) (hst : f.stamp ≤ T.recs.length) : (outT A T f).recs = T.recs ∧ T.forced ≤ (outT A T f).forced ∧ (outT A T f).forced ≤ T.recs.length ∧ (f.dirty = true → f.stamp ≤ (outT A T f).forced) := by
  unfold outT outT1
  split
  · rename_i hd
    split
    · rw [forceT_forced h T]
      exact ⟨rfl, hfr, Nat.le_refl _, fun _ => hst⟩
    · rename_i hs
      refine ⟨rfl, Nat.le_refl _, hfr, fun _ => ?_⟩
      unfold outStamped at hs
      simp at hs
      exact hs
  · rename_i hd
    exact ⟨rfl, Nat.le_refl _, hfr, fun h => absurd h hd⟩
/-- The frames keep their pages and their bytes. -/
theorem setF_mem2 {P : APool} {x : Nat × AFrame} {g : AFrame} (hnd : (P.frames.map (·.1)).Nodup) (hx : x ∈ P.frames) {p : Nat × AFrame} (hp : p ∈ (setF P x.1 g).frames) : (p = (x.1, g)) ∨ (p ∈ P.frames ∧ p ≠ x) := by
  simp only [setF, List.mem_map] at hp
  obtain ⟨q, hq, rfl⟩ := hp
  split
  · rename_i e
    left
    rw [e]
  · rename_i e
    right
    exact ⟨hq, fun h => e (by rw [h])⟩
theorem setF_mem3 {P : APool} {x : Nat × AFrame} {g : AFrame} (hx : x ∈ P.frames) : (x.1, g) ∈ (setF P x.1 g).frames := by
  simp only [setF, List.mem_map]
  exact ⟨x, hx, by rw [if_pos rfl]⟩
theorem setF_mem4 {P : APool} {x p : Nat × AFrame} {g : AFrame} (hnd : (P.frames.map (·.1)).Nodup) (hx : x ∈ P.frames) (hp : p ∈ P.frames) (hne : p ≠ x) : p ∈ (setF P x.1 g).frames := by
  simp only [setF, List.mem_map]
  exact ⟨p, hp, by rw [if_neg (fun e => hne (nodup_eq hnd hp hx e))]⟩
theorem pages_eq {P : APool} (h : (P.frames.map fun p => p.2.page).Nodup) {p q : Nat × AFrame} (hp : p ∈ P.frames) (hq : q ∈ P.frames) (e : p.2.page = q.2.page) : p = q := by
  generalize P.frames = l at *
  induction l with
  | nil => cases hp
  | cons a l ih =>
    rw [List.map_cons, List.nodup_cons] at h
    rcases List.mem_cons.1 hp with h1 | h1 <;> rcases List.mem_cons.1 hq with h2 | h2
    · rw [h1, h2]
    · exact absurd (List.mem_map.2 ⟨q, h2, by rw [← e, h1]⟩) h.1
    · exact absurd (List.mem_map.2 ⟨p, h1, by rw [e, h2]⟩) h.1
    · exact ih h.2 h1 h2
/-- What holds behind a step: of the disk, the log and the frames, and of each page but one. -/
structure Keeps (A : ADisk) (T : ATape) (P : APool) (U : Used) (but : Option Nat) : Prop where
  sound : Sound U.A U.T U.P
  view : ∀ n s, n < 120 → but ≠ some n → Views A P n s → Views U.A U.P n s
theorem Keeps.trans {A : ADisk} {T : ATape} {P : APool} {U V : Used} {bt : Option Nat} (h : Keeps A T P U none) (k : Keeps U.A U.T U.P V bt) : Keeps A T P V bt :=
  ⟨k.sound, fun n s hn hb hv => k.view n s hn hb (h.view n s hn (by simp) hv)⟩
theorem out_keeps {N i : Nat} {A : ADisk} {T : ATape} {P : APool} (F : Fine N i A T P) (hnd : (P.frames.map (·.1)).Nodup) (S : Sound A T P) {x : Nat × AFrame} (hx : x ∈ P.frames) :
    Keeps A T P ⟨0, outA A T x.2, outT A T x.2, setF P x.1 (outF A T x.2)⟩ none ∧ (x.1, outF A T x.2) ∈ (setF P x.1 (outF A T x.2)).frames ∧ (outF A T x.2).dirty = false ∧ (outF A T x.2).b = x.2.b := by
  have hok := F.ok x hx
  have he := outE_zero S.quiet T hok
  have hv := out_vis (T := T) S.quiet hok
  obtain ⟨t1, t2, t3, t4⟩ := out_tape S.quiet S.forced x.2 (S.stamps x hx)
  have hF : outF A T x.2 = { x.2 with dirty := false } := by unfold outF; rw [if_pos he]
  have hpb := page_block hok
  have hdirty : x.2.dirty = false → (pageAt A x.2.page).b = x.2.b := S.clean x hx
  have hxb : (pageAt (outA A T x.2) x.2.page).b = x.2.b := by
    unfold pageAt
    rw [hv]
    by_cases hd : x.2.dirty = true
    · rw [if_pos ⟨hd, rfl⟩]
      exact hpb.2.2
    · rw [if_neg (fun h => hd h.1)]
      exact hdirty (by simpa using hd)
  have hother : ∀ n, n ≠ x.2.page → vis (outA A T x.2) n = vis A n := fun n hn => by rw [hv, if_neg (fun h => hn h.2)]
  refine ⟨⟨⟨S.quiet.out T x.2, by show (outT A T x.2).forced ≤ (outT A T x.2).recs.length; rw [t1]; exact t3, fun p hp => ?_, fun n hn hp => ?_, fun p hp hd => ?_⟩, fun n s hn _ hview => ?_⟩, setF_mem3 hx, by rw [hF], by rw [hF]⟩
  · show p.2.stamp ≤ (outT A T x.2).recs.length
    rw [t1]
    rcases setF_mem2 hnd hx hp with rfl | ⟨h1, _⟩
    · show (outF A T x.2).stamp ≤ _
      rw [hF]
      exact S.stamps x hx
    · exact S.stamps p h1
  · show frontN (vis (outA A T x.2) n).data.toList ≤ ((outT A T x.2).forced : Int)
    have hp2 : pageE (vis (outA A T x.2) n).data.toList = true := hp
    rw [hv] at hp2 ⊢
    split at hp2
    · rename_i hc
      rw [if_pos hc, hpb.2.1]
      have := t4 hc.1
      omega
    · rename_i hc
      rw [if_neg hc]
      have := S.disk n hn hp2
      omega
  · rcases setF_mem2 hnd hx hp with rfl | ⟨h1, h2⟩
    · show (pageAt (outA A T x.2) (outF A T x.2).page).b = (outF A T x.2).b
      rw [hF]
      exact hxb
    · have hne : p.2.page ≠ x.2.page := fun e => h2 (pages_eq F.pages h1 hx e)
      show (pageAt (outA A T x.2) p.2.page).b = p.2.b
      rw [pageAt_vis (hother _ hne)]
      exact S.clean p h1 hd
  · refine ⟨fun p hp e => ?_, fun hno => ?_⟩
    · rcases setF_mem2 hnd hx hp with rfl | ⟨h1, h2⟩
      · show (outF A T x.2).b = s
        have e2 : (outF A T x.2).page = n := e
        rw [hF] at e2 ⊢
        exact hview.frame x hx e2
      · exact hview.frame p h1 e
    · have hnx : n ≠ x.2.page := fun e => hno _ (setF_mem3 hx) (by rw [hF]; exact e.symm)
      show (pageAt (outA A T x.2) n).b = s
      rw [pageAt_vis (hother n hnx)]
      refine hview.block fun p hp e => ?_
      by_cases hpx : p = x
      · subst hpx
        exact hnx e.symm
      · exact hno p (setF_mem4 hnd hx hp hpx) e
/-- A page is read; the frame that goes, if one goes, is clean. -/
theorem read_keeps {A : ADisk} {T : ATape} {P : APool} {n k : Nat} (S : Sound A T P) (hpg : (P.frames.map fun p => p.2.page).Nodup) (hn : n < 120) (hno : ∀ p ∈ P.frames, p.2.page ≠ n) (hfull : P.frames.length = P.size → ∀ x, P.frames[0]? = some x → x.2.dirty = false) :
    (readU A T P n k).e = 0 ∧ Keeps A T P (readU A T P n k) none := by
  obtain ⟨h1, h2⟩ := read_vis S.quiet.up hn
  have e : readU A T P n k = ⟨0, A, T, readP P k (pageAt A n)⟩ := by
    unfold readU
    rw [if_pos h1, h2]
    rfl
  rw [e]
  have hmem : ∀ p, p ∈ (readP P k (pageAt A n)).frames → p ∈ P.frames ∨ p = (k, pageAt A n) := fun p hp => by
    have hp2 : p ∈ roomOf P ++ [(k, pageAt A n)] := hp
    rw [List.mem_append, List.mem_singleton] at hp2
    rcases hp2 with h | h
    · exact .inl ((roomOf_sub P).subset h)
    · exact .inr h
  have hpage : (pageAt A n).page = n := frameOf_page _ _
  have hback : ∀ p, p ∈ P.frames → p ∈ (readP P k (pageAt A n)).frames ∨ (p.2.dirty = false) := fun p hp => by
    show p ∈ roomOf P ++ [(k, pageAt A n)] ∨ _
    unfold roomOf
    split
    · rename_i hf
      cases hl : P.frames with
      | nil => rw [hl] at hp; cases hp
      | cons a l =>
        rw [hl] at hp
        rcases List.mem_cons.1 hp with rfl | hp
        · exact .inr (hfull hf p (by rw [hl]; rfl))
        · exact .inl (by simp [hp])
    · exact .inl (by simp [hp])
  refine ⟨rfl, ⟨⟨S.quiet, S.forced, fun p hp => ?_, S.disk, fun p hp hd => ?_⟩, fun n' s hn' _ hview => ?_⟩⟩
  · rcases hmem p hp with h | rfl
    · exact S.stamps p h
    · exact pageAt_stamp S hn
  · rcases hmem p hp with h | rfl
    · exact S.clean p h hd
    · show (pageAt A (pageAt A n).page).b = (pageAt A n).b
      rw [hpage]
  · refine ⟨fun p hp e => ?_, fun hno' => ?_⟩
    · rcases hmem p hp with h | rfl
      · exact hview.frame p h e
      · have e2 : n = n' := hpage.symm.trans e
        subst e2
        exact hview.block hno
    · show (pageAt A n').b = s
      by_cases hin : ∃ p ∈ P.frames, p.2.page = n'
      · obtain ⟨p, hp, e⟩ := hin
        rcases hback p hp with h | h
        · exact absurd e (hno' p h)
        · rw [← e, S.clean p hp h]
          exact hview.frame p hp e
      · exact hview.block fun p hp e => hin ⟨p, hp, e⟩
theorem perm_keeps {A : ADisk} {T : ATape} {P Q : APool} (S : Sound A T P) (h : Q.frames.Perm P.frames) : Keeps A T P ⟨0, A, T, Q⟩ none :=
  ⟨⟨S.quiet, S.forced, fun p hp => S.stamps p (h.mem_iff.1 hp), S.disk, fun p hp => S.clean p (h.mem_iff.1 hp)⟩, fun n s _ _ hv => ⟨fun p hp => hv.frame p (h.mem_iff.1 hp), fun hno => hv.block fun p hp => hno p (h.mem_iff.2 hp)⟩⟩
theorem use_keeps {N i : Nat} {A : ADisk} {T : ATape} {P : APool} {n k : Nat} (F : Fine N i A T P) (hnd : (P.frames.map (·.1)).Nodup) (S : Sound A T P) (hn : n < 120) :
    (useU A T P n k).e = 0 ∧ Keeps A T P (useU A T P n k) none := by
  unfold useU
  split
  · rename_i j hj
    split
    · rename_i x hx
      exact ⟨rfl, perm_keeps S (hit_step hx)⟩
    · exact ⟨rfl, perm_keeps S (List.Perm.refl _)⟩
  · rename_i hno
    have hno : ∀ p ∈ P.frames, p.2.page ≠ n := fun p hp e => by
      rw [List.findIdx?_eq_none_iff] at hno
      have := hno p hp
      simp [e] at this
    unfold missU
    split
    · rename_i hfull
      split
      · rename_i x hx
        have hxm : x ∈ P.frames := List.mem_of_getElem? hx
        have he := outE_zero S.quiet T (F.ok x hxm)
        rw [if_pos he]
        obtain ⟨hk, g1, g2, g3⟩ := out_keeps F hnd S hxm
        have hpg := setF_pages (P := P) (x := x) (g := outF A T x.2) hnd hxm outF_page
        have hr := read_keeps (k := k) (n := n) hk.sound (by rw [show (Used.P ⟨0, outA A T x.2, outT A T x.2, setF P x.1 (outF A T x.2)⟩) = setF P x.1 (outF A T x.2) from rfl, hpg]; exact F.pages) hn (fun p hp e => by
          have hm : n ∈ (setF P x.1 (outF A T x.2)).frames.map fun p => p.2.page := by rw [← e]; exact List.mem_map_of_mem hp
          rw [hpg, List.mem_map] at hm
          obtain ⟨q, hq, e2⟩ := hm
          exact hno q hq e2) (fun _ y hy => by
          have hy2 : (setF P x.1 (outF A T x.2)).frames[0]? = some y := hy
          simp only [setF, List.getElem?_map, hx, Option.map_some, if_true, Option.some.injEq] at hy2
          rw [← hy2]
          exact g2)
        exact ⟨hr.1, hk.trans hr.2⟩
      · rename_i hx
        rw [List.getElem?_eq_none_iff] at hx
        have h1 := F.two
        have h2 := F.size
        omega
    · rename_i hfull
      exact read_keeps S F.pages hn hno (fun h => absurd h hfull)
theorem page_keeps {N i : Nat} {A : ADisk} {T : ATape} {P : APool} {n : Int} {k : Nat} (F : Fine N i A T P) (hnd : (P.frames.map (·.1)).Nodup) (S : Sound A T P) : Keeps A T P (pageU A T P n k) none := by
  unfold pageU
  split
  · rename_i hp
    obtain ⟨t, rfl, ht⟩ := isP_nat hp
    rw [S.quiet.up, if_neg (by decide)]
    exact (use_keeps (n := (t : Int).toNat) F hnd S (by simpa using ht)).2
  · exact perm_keeps S (List.Perm.refl _) |> fun h => ⟨h.sound, h.view⟩
theorem set_keeps {N i : Nat} {A : ADisk} {T : ATape} {P : APool} {n st : Int} {s : ByteArray} {k : Nat} (F : Fine N i A T P) (hnd : (P.frames.map (·.1)).Nodup) (hk : k ∉ P.frames.map (·.1)) (S : Sound A T P) :
    ((setU A T P n s st k).e = 0 ∧ (∃ t : Nat, n = (t : Int) ∧ t < 120 ∧ Keeps A T P (setU A T P n s st k) (some t) ∧ Views (setU A T P n s st k).A (setU A T P n s st k).P t s)) ∨ ((setU A T P n s st k).e ≠ 0 ∧ Keeps A T P (setU A T P n s st k) none) := by
  unfold setU
  split
  · rename_i hp
    rw [Bool.and_eq_true] at hp
    obtain ⟨hp, hs⟩ := hp
    obtain ⟨t, rfl, ht⟩ := isP_nat hp
    rw [S.quiet.up, if_neg (by decide), Int.toNat_natCast]
    obtain ⟨h0, hK⟩ := use_keeps (k := k) F hnd S ht
    have hW := step_use (k := k) F S.quiet.up hnd ht
    have hN := useU_nodup (A := A) (T := T) (n := t) hnd hk
    obtain ⟨l, x, e1, e2⟩ := useU_last (A := A) (T := T) (P := P) (n := t) (k := k) (by rw [F.size]; exact F.two) h0
    have hT : (useU A T P t k).T.recs = T.recs := by
      unfold useU
      split
      · split <;> rfl
      · unfold missU
        split
        · split
          · split
            · unfold readU
              split <;> exact outT_recs _ _ _
            · exact outT_recs _ _ _
          · rfl
        · unfold readU
          split <;> rfl
    rw [if_pos h0]
    generalize useU A T P t k = U at *
    have e3 := setLast_frames e1 hN s st.toNat
    have hxm : x ∈ U.P.frames := by rw [e1]; simp
    have hmem : ∀ p ∈ (setLast U.P s st.toNat).frames, (p ∈ U.P.frames ∧ p.2.page ≠ t) ∨ p = (x.1, ⟨x.2.page, s, st.toNat, true⟩) := fun p hp => by
      rw [e3, List.mem_append, List.mem_singleton] at hp
      rcases hp with hp | hp
      · refine .inl ⟨by rw [e1]; simp [hp], fun e => ?_⟩
        have hpg := hW.fine.pages
        rw [e1, List.map_append, List.nodup_append] at hpg
        exact hpg.2.2 p.2.page (List.mem_map_of_mem hp) x.2.page (by simp) (by rw [e, e2])
      · exact .inr hp
    have hback : ∀ p ∈ U.P.frames, p.2.page ≠ t → p ∈ (setLast U.P s st.toNat).frames := fun p hp hne => by
      rw [e3, List.mem_append]
      rw [e1, List.mem_append, List.mem_singleton] at hp
      rcases hp with hp | rfl
      · exact .inl hp
      · exact absurd e2 hne
    have hlast : (x.1, (⟨x.2.page, s, st.toNat, true⟩ : AFrame)) ∈ (setLast U.P s st.toNat).frames := by rw [e3]; simp
    have SS := hK.sound
    left
    refine ⟨h0, t, rfl, ht, ⟨⟨SS.quiet, SS.forced, fun p hp => ?_, SS.disk, fun p hp hd => ?_⟩, fun n' s' hn' hne hv => ?_⟩, fun p hp e => ?_, fun hno => absurd e2 (hno (x.1, (⟨x.2.page, s, st.toNat, true⟩ : AFrame)) hlast)⟩
    · rcases hmem p hp with ⟨h, _⟩ | rfl
      · exact SS.stamps p h
      · show st.toNat ≤ U.T.recs.length
        unfold setOk at hs
        simp only [Bool.and_eq_true, decide_eq_true_eq] at hs
        rw [hT]
        omega
    · rcases hmem p hp with ⟨h, _⟩ | rfl
      · exact SS.clean p h hd
      · cases hd
    · have hv2 := hK.view n' s' hn' (by simp) hv
      have hne2 : n' ≠ t := fun e => hne (by rw [e])
      refine ⟨fun p hp e => ?_, fun hno => hv2.block fun p hp e => ?_⟩
      · rcases hmem p hp with ⟨h, _⟩ | rfl
        · exact hv2.frame p h e
        · exact absurd (e.symm.trans e2) hne2
      · by_cases hpt : p.2.page = t
        · exact hne2 (e.symm.trans hpt)
        · exact hno p (hback p hp hpt) e
    · rcases hmem p hp with ⟨_, h⟩ | rfl
      · exact absurd e h
      · rfl
  · exact .inr ⟨by simp, perm_keeps S (List.Perm.refl _) |> fun h => ⟨h.sound, h.view⟩⟩
/-- The disk's pages stand, and more is forced, or more is in the log. -/
theorem shift_keeps {A B : ADisk} {T T' : ATape} {P : APool} {e : Int} (S : Sound A T P) (ok : ∀ p ∈ P.frames, FrameOk p.2) (hq : Quiet B) (hvis : ∀ n, n < 120 → vis B n = vis A n) (hf : T.forced ≤ T'.forced) (hf2 : T'.forced ≤ T'.recs.length) (hr : T.recs.length ≤ T'.recs.length) : Keeps A T P ⟨e, B, T', P⟩ none := by
  refine ⟨⟨hq, hf2, fun p hp => Nat.le_trans (S.stamps p hp) hr, fun n hn hp => ?_, fun p hp hd => ?_⟩, fun n s hn _ hv => ⟨hv.frame, fun hno => ?_⟩⟩
  · have hp2 : pageE (vis B n).data.toList = true := hp
    show frontN (vis B n).data.toList ≤ (T'.forced : Int)
    rw [hvis n hn] at hp2 ⊢
    have := S.disk n hn hp2
    omega
  · show (pageAt B p.2.page).b = p.2.b
    rw [pageAt_vis (hvis _ (ok p hp).page)]
    exact S.clean p hp hd
  · show (pageAt B n).b = s
    rw [pageAt_vis (hvis n hn)]
    exact hv.block hno
theorem app_keeps {A : ADisk} {T : ATape} {P : APool} (r : Rec) (S : Sound A T P) (ok : ∀ p ∈ P.frames, FrameOk p.2) : Keeps A T P (appU A T P r) none := by
  have hvis : ∀ n, n < 120 → vis (writeA A (120 + (T.recs.length : Int)) (appS T r)) n = vis A n := fun n hn => by
    rcases vis_write (A := A) (120 + (T.recs.length : Int)) (appS T r) n with h | ⟨_, h⟩
    · exact h
    · omega
  have hq := S.quiet.write (120 + (T.recs.length : Int)) (appS T r)
  have hf := S.forced
  unfold appU
  generalize writeE A (120 + (T.recs.length : Int)) (appS T r) = z1 at *
  generalize writeA A (120 + (T.recs.length : Int)) (appS T r) = B at *
  split
  · split
    · refine shift_keeps S ok hq hvis (Nat.le_refl _) ?_ ?_
      · show T.forced ≤ (T.recs ++ [r]).length
        rw [List.length_append]
        exact Nat.le_trans hf (Nat.le_add_right _ _)
      · show T.recs.length ≤ (T.recs ++ [r]).length
        rw [List.length_append]
        exact Nat.le_add_right _ _
    · exact shift_keeps S ok hq hvis (Nat.le_refl _) hf (Nat.le_refl _)
  · exact shift_keeps S ok S.quiet (fun _ _ => rfl) (Nat.le_refl _) hf (Nat.le_refl _)
theorem force_keeps {A : ADisk} {T : ATape} {P : APool} (S : Sound A T P) (ok : ∀ p ∈ P.frames, FrameOk p.2) : Keeps A T P ⟨forceE A T, forceA A T, forceT A T, P⟩ none := by
  have h := forceT_forced S.quiet T
  refine shift_keeps S ok (S.quiet.force T) (fun n _ => by rw [vis_force]) ?_ ?_ ?_ <;> rw [h]
  · exact S.forced
  · exact Nat.le_refl _
  · exact Nat.le_refl _
theorem outU_keeps {N i : Nat} {A : ADisk} {T : ATape} {P : APool} (n : Int) (F : Fine N i A T P) (hnd : (P.frames.map (·.1)).Nodup) (S : Sound A T P) :
    (isP n = true → (outU A T P n).e = 0) ∧ Keeps A T P (outU A T P n) none ∧ (∀ p ∈ (outU A T P n).P.frames, p.2.dirty = true → p ∈ P.frames ∧ (isP n = true → (p.2.page : Int) ≠ n)) := by
  unfold outU
  split
  · rename_i hp
    rw [S.quiet.up, if_neg (by decide)]
    split
    · rename_i x hx
      have hxm := List.mem_of_find?_eq_some hx
      have hxn := List.find?_some hx
      have hxn : (x.2.page : Int) = n := by simpa using hxn
      obtain ⟨hk, g1, g2, g3⟩ := out_keeps F hnd S hxm
      refine ⟨fun _ => outE_zero S.quiet T (F.ok x hxm), ⟨hk.sound, hk.view⟩, fun p hp hd => ?_⟩
      rcases setF_mem2 hnd hxm hp with rfl | ⟨h1, h2⟩
      · have hd2 : (outF A T x.2).dirty = true := hd
        rw [g2] at hd2
        cases hd2
      · refine ⟨h1, fun _ e => h2 (pages_eq F.pages h1 hxm ?_)⟩
        have : (p.2.page : Int) = (x.2.page : Int) := by rw [e, hxn]
        omega
    · rename_i hx
      refine ⟨fun _ => rfl, perm_keeps S (List.Perm.refl _), fun p hp hd => ⟨hp, fun _ e => ?_⟩⟩
      rw [List.find?_eq_none] at hx
      have := hx p hp
      simp [e] at this
  · rename_i hp
    exact ⟨fun h => absurd h hp, perm_keeps S (List.Perm.refl _) |> fun h => ⟨h.sound, h.view⟩, fun p hp' hd => ⟨hp', fun h => absurd h hp⟩⟩
theorem outs_keeps (l : List Int) : ∀ {N i : Nat} {A : ADisk} {T : ATape} {P : APool}, (∀ n ∈ l, isP n = true) → Fine N i A T P → (P.frames.map (·.1)).Nodup → Sound A T P →
    (outs l A T P).e = 0 ∧ Keeps A T P (outs l A T P) none ∧ (∀ p ∈ (outs l A T P).P.frames, p.2.dirty = true → p ∈ P.frames ∧ (p.2.page : Int) ∉ l) ∧ (∃ j, Fine N j (outs l A T P).A (outs l A T P).T (outs l A T P).P) := by
  induction l with
  | nil =>
    intro N i A T P _ F hnd S
    exact ⟨rfl, perm_keeps S (List.Perm.refl _), fun p hp hd => ⟨hp, by simp⟩, i, F⟩
  | cons n l ih =>
    intro N i A T P hl F hnd S
    obtain ⟨h1, h2, h3⟩ := outU_keeps n F hnd S
    have hn := hl n (by simp)
    have hW := (step_out F S.quiet.up hnd n).fine
    have ha := outU_alike A T P n
    obtain ⟨g1, g2, g3, g4⟩ := ih (fun m hm => hl m (by simp [hm])) hW (by rw [ha.blocks]; exact hnd) h2.sound
    have e : outs (n :: l) A T P = outs l (outU A T P n).A (outU A T P n).T (outU A T P n).P := by
      show (if (outU A T P n).e = 0 then _ else _) = _
      rw [if_pos (h1 hn)]
    rw [e]
    refine ⟨g1, h2.trans g2, fun p hp hd => ?_, g4⟩
    obtain ⟨a1, a2⟩ := g3 p hp hd
    obtain ⟨b1, b2⟩ := h3 p a1 hd
    refine ⟨b1, fun hm => ?_⟩
    rcases List.mem_cons.1 hm with h | h
    · exact b2 hn h
    · exact a2 h
theorem dirty_isP {N i : Nat} {A : ADisk} {T : ATape} {P : APool} (F : Fine N i A T P) : ∀ n ∈ dirtyOf P, isP n = true := fun n hn => by
  obtain ⟨p, hp, e, _⟩ := mem_dirty.1 hn
  have := (F.ok p hp).page
  unfold isP
  simp
  omega
/-- Behind Clean nothing is dirty. -/
theorem clean_keeps {N i : Nat} {A : ADisk} {T : ATape} {P : APool} (F : Fine N i A T P) (hnd : (P.frames.map (·.1)).Nodup) (S : Sound A T P) :
    (cleanU A T P).e = 0 ∧ Keeps A T P (cleanU A T P) none ∧ ∀ p ∈ (cleanU A T P).P.frames, p.2.dirty = false := by
  obtain ⟨g1, g2, g3, j, g4⟩ := outs_keeps (dirtyOf P) (dirty_isP F) F hnd S
  unfold cleanU
  rw [if_pos g1]
  generalize outs (dirtyOf P) A T P = U at *
  refine ⟨g2.sound.quiet.err, g2.trans (shift_keeps g2.sound g4.ok g2.sound.quiet.flush (fun n _ => by rw [vis_flush]) (Nat.le_refl _) g2.sound.forced (Nat.le_refl _)), fun p hp => ?_⟩
  cases hd : p.2.dirty with
  | false => rfl
  | true =>
    obtain ⟨a1, a2⟩ := g3 p hp hd
    exact absurd (mem_dirty.2 ⟨p, a1, rfl, hd⟩) a2
/-- What a call that arms nothing leaves of each page. -/
theorem call_keeps {N i : Nat} {A : ADisk} {T : ATape} {P : APool} {k : Nat} {m : Move} (F : Fine N i A T P) (hnd : (P.frames.map (·.1)).Nodup) (hk : k ∉ P.frames.map (·.1)) (S : Sound A T P) (h6 : kindOf m ≠ 6) :
    (((callU m A T P k).e = 0 ∧ kindOf m = 2) ∧ (∃ t : Nat, m.n = (t : Int) ∧ t < 120 ∧ Keeps A T P (callU m A T P k) (some t) ∧ Views (callU m A T P k).A (callU m A T P k).P t (fillB m.bytes))) ∨ (¬ ((callU m A T P k).e = 0 ∧ kindOf m = 2) ∧ Keeps A T P (callU m A T P k) none) := by
  rcases kindOf_cases m with h | h | h | h | h | h | h
  · have e : callU m A T P k = appU A T P (noteR (cutB m.bytes)) := by unfold callU; rw [if_pos h]
    rw [e]
    exact .inr ⟨fun h2 => by omega, app_keeps _ S F.ok⟩
  · have e : callU m A T P k = pageU A T P m.n k := by unfold callU; rw [if_neg (by omega), if_pos h]
    rw [e]
    exact .inr ⟨fun h2 => by omega, page_keeps F hnd S⟩
  · have e : callU m A T P k = setU A T P m.n (fillB m.bytes) m.stamp k := by unfold callU; rw [if_neg (by omega), if_neg (by omega), if_pos h]
    rw [e]
    rcases set_keeps (n := m.n) (st := m.stamp) (s := fillB m.bytes) F hnd hk S with ⟨h0, hx⟩ | ⟨h0, hx⟩
    · exact .inl ⟨⟨h0, h⟩, hx⟩
    · exact .inr ⟨fun h2 => h0 h2.1, hx⟩
  · have e : callU m A T P k = outU A T P m.n := by unfold callU; rw [if_neg (by omega), if_neg (by omega), if_neg (by omega), if_pos h]
    rw [e]
    exact .inr ⟨fun h2 => by omega, (outU_keeps m.n F hnd S).2.1⟩
  · have e : callU m A T P k = cleanU A T P := by unfold callU; rw [if_neg (by omega), if_neg (by omega), if_neg (by omega), if_neg (by omega), if_pos h]
    rw [e]
    exact .inr ⟨fun h2 => by omega, (clean_keeps F hnd S).2.1⟩
  · have e : callU m A T P k = ⟨forceE A T, forceA A T, forceT A T, P⟩ := by unfold callU; rw [if_neg (by omega), if_neg (by omega), if_neg (by omega), if_neg (by omega), if_neg (by omega), if_pos h]
    rw [e]
    exact .inr ⟨fun h2 => by omega, force_keeps S F.ok⟩
  · exact absurd h h6
/-- All frames are clean. -/
def Clear (P : APool) : Prop := ∀ p ∈ P.frames, p.2.dirty = false
theorem out_clear {A : ADisk} {T : ATape} {f : AFrame} (h : f.dirty = false) : outE A T f = 0 ∧ outA A T f = A ∧ outT A T f = T ∧ outF A T f = f := by
  have e : outE A T f = 0 := by unfold outE; rw [h]; rfl
  refine ⟨e, by unfold outA; rw [h]; rfl, by unfold outT; rw [h]; rfl, ?_⟩
  unfold outF
  rw [if_pos e]
  cases f
  simp at h
  simp [h]
theorem frame_clean (n : Nat) (l : List UInt8) : (frameOf n l).dirty = false := by
  unfold frameOf
  split <;> rfl
theorem use_clear {A : ADisk} {T : ATape} {P : APool} {n k : Nat} (hnd : (P.frames.map (·.1)).Nodup) (hc : Clear P) : (useU A T P n k).A = A ∧ (useU A T P n k).T = T ∧ Clear (useU A T P n k).P := by
  have hread : ∀ Q : APool, Clear Q → (readU A T Q n k).A = A ∧ (readU A T Q n k).T = T ∧ Clear (readU A T Q n k).P := fun Q hQ => by
    by_cases hr : readE A n = 0
    · have e : readU A T Q n k = ⟨0, A, T, readP Q k (frameOf n (readB A n).data.toList)⟩ := by unfold readU; rw [if_pos hr]
      rw [e]
      refine ⟨rfl, rfl, fun p hp => ?_⟩
      have hfr := frame_clean n (readB A n).data.toList
      generalize frameOf n (readB A n).data.toList = fr at *
      have hp2 : p ∈ roomOf Q ++ [(k, fr)] := hp
      rw [List.mem_append, List.mem_singleton] at hp2
      rcases hp2 with h | h
      · exact hQ p ((roomOf_sub Q).subset h)
      · rw [h]
        exact hfr
    · have e : readU A T Q n k = ⟨readE A n, A, T, Q⟩ := by unfold readU; rw [if_neg hr]
      rw [e]
      exact ⟨rfl, rfl, hQ⟩
  unfold useU
  split
  · split
    · rename_i x hx
      exact ⟨rfl, rfl, fun p hp => hc p ((hit_step hx).mem_iff.1 hp)⟩
    · exact ⟨rfl, rfl, hc⟩
  · unfold missU
    split
    · split
      · rename_i x hx
        have hxm : x ∈ P.frames := List.mem_of_getElem? hx
        obtain ⟨h1, h2, h3, h4⟩ := out_clear (A := A) (T := T) (hc x hxm)
        rw [h1, h2, h3, h4, if_pos rfl, setF_same (k := x.1) (f := x.2) hnd hxm]
        exact hread P hc
      · exact ⟨rfl, rfl, hc⟩
    · exact hread P hc
/-- A page of a pool that is clean: what it gives, and what it leaves. -/
theorem page_clear {N i : Nat} {A : ADisk} {T : ATape} {P : APool} {t k : Nat} {s : ByteArray} (F : Fine N i A T P) (hnd : (P.frames.map (·.1)).Nodup) (S : Sound A T P) (hc : Clear P) (ht : t < 120) (hv : Views A P t s) :
    (pageU A T P t k).e = 0 ∧ (pageU A T P t k).A = A ∧ (pageU A T P t k).T = T ∧ Clear (pageU A T P t k).P ∧ Sound A T (pageU A T P t k).P ∧ (∀ n z, n < 120 → Views A P n z → Views A (pageU A T P t k).P n z) ∧ ∃ l x, (pageU A T P t k).P.frames = l ++ [x] ∧ x.2.b = s := by
  have e : pageU A T P t k = useU A T P t k := by
    unfold pageU isP
    rw [S.quiet.up]
    simp
    omega
  rw [e]
  obtain ⟨h0, hK⟩ := use_keeps (k := k) F hnd S ht
  obtain ⟨h1, h2, h3⟩ := use_clear (A := A) (T := T) (n := t) (k := k) hnd hc
  obtain ⟨l, x, e1, e2⟩ := useU_last (A := A) (T := T) (P := P) (n := t) (k := k) (by rw [F.size]; exact F.two) h0
  have hs := hK.sound
  have hvw := hK.view
  have hvt := hvw t s ht (by simp) hv
  rw [h1] at hs hvw hvt
  rw [h2] at hs
  exact ⟨h0, h1, h2, h3, hs, fun n z hn hz => hvw n z hn (by simp) hz, l, x, e1, hvt.frame x (by rw [e1]; simp) e2⟩
end Go.Proofs.YtdccbceaajnajaaGreat
