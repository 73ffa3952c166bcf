/- What holds of a pool behind each call: plain laws. A call on both sides: what it is, and what it leaves. -/
import Derived.Test.YtdccbceaajnajaaGreatS16
import Derived.Deep.RegionHeld3
namespace Go.Proofs.YtdccbceaajnajaaGreat
open Go.RowKit
set_option linter.unusedSimpArgs false
set_option linter.unusedVariables false

/-- What holds of a pool of N frames behind i calls. -/
structure Fine (N i : Nat) (A : ADisk) (T : ATape) (P : APool) : Prop where
  size : P.size = N
  two : 2 ≤ N
  most : N ≤ 16
  len : P.frames.length ≤ N
  pages : (P.frames.map fun p => p.2.page).Nodup
  ok : ∀ p ∈ P.frames, FrameOk p.2
  lim : Lim A (i * 40)
  recs : T.recs.length ≤ i
  reads : P.reads ≤ i
/-- What holds behind a call: the disk is up but where the call says that it is down. -/
structure Went (N i : Nat) (U : Used) : Prop where
  fine : Fine N i U.A U.T U.P
  up : U.e ≠ 7 → U.A.down = false
theorem Fine.mono {N i j : Nat} {A : ADisk} {T : ATape} {P : APool} (h : Fine N i A T P) (hij : i ≤ j) : Fine N j A T P :=
  { h with lim := h.lim.mono (by omega), recs := Nat.le_trans h.recs hij, reads := Nat.le_trans h.reads hij }

theorem actE_two (A : ADisk) : actE A = 0 ∨ actE A = 7 := by
  unfold actE
  split
  · exact .inr rfl
  · split
    · exact .inr rfl
    · exact .inl rfl
theorem flush_on {A : ADisk} (h : actE A ≠ 7) : (flushA A).down = false := by
  have h0 : actE A = 0 := (actE_two A).resolve_right h
  unfold flushA
  rw [if_pos h0]
  exact (act_up h0).2
theorem force_on {A : ADisk} {T : ATape} (h : forceE A T ≠ 7) (hd : A.down = false) : (forceA A T).down = false := by
  unfold forceE at h
  unfold forceA
  split
  · rename_i hl
    rw [if_pos hl] at h
    exact flush_on h
  · exact hd
theorem write_on {A : ADisk} {n : Int} {s : ByteArray} (h : writeE A n s ≠ 7) (hd : A.down = false) : (writeA A n s).down = false := by
  unfold writeE at h
  unfold writeA
  split
  · exact hd
  · rename_i hb
    rw [if_neg hb] at h
    have h0 : actE A = 0 := (actE_two A).resolve_right h
    rw [if_pos h0]
    exact (act_up h0).2
theorem out_on {A : ADisk} {T : ATape} {f : AFrame} (h : outE A T f ≠ 7) (hd : A.down = false) : (outA A T f).down = false := by
  have h1 : outE1 A T f ≠ 7 → (outA1 A T f).down = false := by
    intro h1
    unfold outE1 at h1
    unfold outA1
    split
    · rename_i hs
      rw [if_pos hs] at h1
      exact force_on h1 hd
    · exact hd
  unfold outE at h
  unfold outA
  split
  · rename_i hf
    rw [if_pos hf] at h
    split
    · rename_i he
      rw [if_pos he] at h
      exact write_on h (h1 (by rw [he]; decide))
    · rename_i he
      rw [if_neg he] at h
      exact h1 h
  · exact hd
theorem forceT_recs (A : ADisk) (T : ATape) : (forceT A T).recs = T.recs := by
  unfold forceT
  split <;> rfl
theorem outT_recs (A : ADisk) (T : ATape) (f : AFrame) : (outT A T f).recs = T.recs := by
  unfold outT outT1
  split
  · split
    · exact forceT_recs A T
    · rfl
  · rfl
theorem setF_size (P : APool) (k : Nat) (g : AFrame) : (setF P k g).size = P.size ∧ (setF P k g).reads = P.reads := ⟨rfl, rfl⟩

theorem step_force {N i : Nat} {A : ADisk} {T : ATape} {P : APool} (F : Fine N i A T P) (hd : A.down = false) : Went N (i + 1) ⟨forceE A T, forceA A T, forceT A T, P⟩ := by
  refine ⟨⟨F.size, F.two, F.most, F.len, F.pages, F.ok, (F.lim.force T).mono (by omega), ?_, Nat.le_trans F.reads (by omega)⟩, fun h => force_on h hd⟩
  show (forceT A T).recs.length ≤ i + 1
  rw [forceT_recs]
  exact Nat.le_trans F.recs (by omega)
theorem step_arm {N i : Nat} {A : ADisk} {T : ATape} {P : APool} (F : Fine N i A T P) (hd : A.down = false) (x : Int) : Went N (i + 1) ⟨0, { A with armed := x }, T, P⟩ :=
  ⟨⟨F.size, F.two, F.most, F.len, F.pages, F.ok, (F.lim.arm x).mono (by omega), Nat.le_trans F.recs (by omega), Nat.le_trans F.reads (by omega)⟩, fun _ => hd⟩
theorem step_app {N i : Nat} {A : ADisk} {T : ATape} {P : APool} (F : Fine N i A T P) (hd : A.down = false) (r : Rec) : Went N (i + 1) (appU A T P r) := by
  have hL := F.lim.write (120 + (T.recs.length : Int)) (appS T r)
  have hu := fun h => write_on (A := A) (n := 120 + (T.recs.length : Int)) (s := appS T r) h hd
  unfold appU
  generalize writeE A (120 + (T.recs.length : Int)) (appS T r) = z1 at *
  generalize writeA A (120 + (T.recs.length : Int)) (appS T r) = z2 at *
  have hr := F.recs
  split
  · split
    · rename_i h
      refine ⟨⟨F.size, F.two, F.most, F.len, F.pages, F.ok, hL.mono (by omega), ?_, Nat.le_trans F.reads (by omega)⟩, fun _ => hu (by rw [h]; decide)⟩
      show (T.recs ++ [r]).length ≤ i + 1
      rw [List.length_append]
      exact Nat.succ_le_succ hr
    · exact ⟨⟨F.size, F.two, F.most, F.len, F.pages, F.ok, hL.mono (by omega), Nat.le_trans hr (by omega), Nat.le_trans F.reads (by omega)⟩, hu⟩
  · exact ⟨F.mono (by omega), fun _ => hd⟩

theorem outU_step {N i m : Nat} {A : ADisk} {T : ATape} {P : APool} (n : Int) (hnd : (P.frames.map (·.1)).Nodup) (hd : A.down = false) (L : Lim A m) :
    Lim (outU A T P n).A (m + 2) ∧ (outU A T P n).T.recs = T.recs ∧ (outU A T P n).P.reads = P.reads ∧ ((outU A T P n).P.frames.map fun p => p.2.page) = (P.frames.map fun p => p.2.page) ∧ ((outU A T P n).e ≠ 7 → (outU A T P n).A.down = false) := by
  refine ⟨outU_lim L, ?_⟩
  unfold outU
  split
  · rw [hd]
    split
    · rename_i h
      cases h
    · split
      · rename_i x hx
        have hxm := List.mem_of_find?_eq_some hx
        exact ⟨outT_recs A T x.2, rfl, setF_pages hnd hxm outF_page, fun h => out_on h hd⟩
      · exact ⟨rfl, rfl, rfl, fun _ => hd⟩
  · exact ⟨rfl, rfl, rfl, fun _ => hd⟩
theorem Fine.alike {N i j : Nat} {A A' : ADisk} {T T' : ATape} {P P' : APool} (F : Fine N i A T P) (hl : Alike P P') (hL : Lim A' (j * 40)) (hT : T'.recs = T.recs) (hr : P'.reads = P.reads) (hp : (P'.frames.map fun p => p.2.page) = (P.frames.map fun p => p.2.page)) (ok : ∀ p ∈ P'.frames, FrameOk p.2) (hij : i ≤ j) : Fine N j A' T' P' :=
  ⟨hl.size.trans F.size, F.two, F.most, by rw [hl.len]; exact F.len, by rw [hp]; exact F.pages, ok, hL, by rw [hT]; exact Nat.le_trans F.recs hij, by rw [hr]; exact Nat.le_trans F.reads hij⟩
theorem step_out {N i : Nat} {A : ADisk} {T : ATape} {P : APool} (F : Fine N i A T P) (hd : A.down = false) (hnd : (P.frames.map (·.1)).Nodup) (n : Int) : Went N (i + 1) (outU A T P n) := by
  obtain ⟨h1, h2, h3, h4, h5⟩ := outU_step (N := N) (i := i) (m := i * 40) (A := A) (T := T) (P := P) n hnd hd F.lim
  exact ⟨F.alike (outU_alike A T P n) (h1.mono (by omega)) h2 h3 h4 (outU_ok F.ok) (by omega), h5⟩
theorem outs_step (l : List Int) : ∀ {m : Nat} {A : ADisk} {T : ATape} {P : APool}, (P.frames.map (·.1)).Nodup → A.down = false → Lim A m → (∀ p ∈ P.frames, FrameOk p.2) →
    Alike P (outs l A T P).P ∧ Lim (outs l A T P).A (m + 2 * l.length) ∧ (outs l A T P).T.recs = T.recs ∧ (outs l A T P).P.reads = P.reads ∧ ((outs l A T P).P.frames.map fun p => p.2.page) = (P.frames.map fun p => p.2.page) ∧ (∀ p ∈ (outs l A T P).P.frames, FrameOk p.2) ∧ ((outs l A T P).e ≠ 7 → (outs l A T P).A.down = false) := by
  induction l with
  | nil =>
    intro m A T P hnd hd L ok
    exact ⟨Alike.refl P, L, rfl, rfl, rfl, ok, fun _ => hd⟩
  | cons n l ih =>
    intro m A T P hnd hd L ok
    obtain ⟨h1, h2, h3, h4, h5⟩ := outU_step (N := 0) (i := 0) (A := A) (T := T) (P := P) n hnd hd L
    have ha := outU_alike A T P n
    have hk := outU_ok (A := A) (T := T) (P := P) (n := n) ok
    unfold outs
    split
    · rename_i h0
      obtain ⟨g1, g2, g3, g4, g5, g6, g7⟩ := ih (A := (outU A T P n).A) (T := (outU A T P n).T) (P := (outU A T P n).P) (by rw [ha.blocks]; exact hnd) (h5 (by rw [h0]; decide)) h1 hk
      exact ⟨ha.trans g1, g2.mono (by simp; omega), g3.trans h2, g4.trans h3, g5.trans h4, g6, g7⟩
    · exact ⟨ha, h1.mono (by simp; omega), h2, h3, h4, hk, h5⟩
theorem step_clean {N i : Nat} {A : ADisk} {T : ATape} {P : APool} (F : Fine N i A T P) (hd : A.down = false) (hnd : (P.frames.map (·.1)).Nodup) : Went N (i + 1) (cleanU A T P) := by
  obtain ⟨g1, g2, g3, g4, g5, g6, g7⟩ := outs_step (dirtyOf P) (T := T) hnd hd F.lim F.ok
  have hl := dirtyOf_length P
  have h1 := F.len
  have h2 := F.most
  unfold cleanU
  split
  · rename_i h0
    exact ⟨F.alike g1 ((g2.flush).mono (by omega)) g3 g4 g5 g6 (by omega), fun h => flush_on h⟩
  · exact ⟨F.alike g1 (g2.mono (by omega)) g3 g4 g5 g6 (by omega), g7⟩

theorem nodup_snoc {α : Type} {l : List α} {x : α} (h : l.Nodup) (hx : x ∉ l) : (l ++ [x]).Nodup := by
  rw [List.nodup_append]
  refine ⟨h, by simp, fun a ha b hb => ?_⟩
  rw [List.mem_singleton] at hb
  subst hb
  exact fun e => hx (e ▸ ha)
theorem hit_step {P : APool} {i : Nat} {x : Nat × AFrame} (hx : P.frames[i]? = some x) : (hitP P i x).frames.Perm P.frames := by
  have h := erase_perm P.frames i x hx
  exact (List.perm_append_singleton x _).trans h
/-- What use leaves does not tell of the block of the frame, or has one frame at its end that lies there. -/
theorem useU_block (A : ADisk) (T : ATape) (P : APool) (n : Nat) : (∃ U, ∀ k, useU A T P n k = U) ∨ (∃ A' T' P' f, ∀ k, useU A T P n k = ⟨0, A', T', readP P' k f⟩) := by
  unfold useU
  split
  · split
    · exact .inl ⟨_, fun _ => rfl⟩
    · exact .inl ⟨_, fun _ => rfl⟩
  · unfold missU
    split
    · split
      · split
        · unfold readU
          split
          · exact .inr ⟨_, _, _, _, fun _ => rfl⟩
          · exact .inl ⟨_, fun _ => rfl⟩
        · exact .inl ⟨_, fun _ => rfl⟩
      · exact .inl ⟨_, fun _ => rfl⟩
    · unfold readU
      split
      · exact .inr ⟨_, _, _, _, fun _ => rfl⟩
      · exact .inl ⟨_, fun _ => rfl⟩
/-- What room is made of, in front of a page that is read. -/
def roomOf (P : APool) : List (Nat × AFrame) := if P.frames.length = P.size then P.frames.drop 1 else P.frames
theorem roomOf_sub (P : APool) : (roomOf P).Sublist P.frames := by
  unfold roomOf
  split
  · exact List.drop_sublist 1 _
  · exact List.Sublist.refl _
theorem roomOf_len {P : APool} (h : P.frames.length ≤ P.size) (h2 : 2 ≤ P.size) : (roomOf P).length + 1 ≤ P.size := by
  unfold roomOf
  split
  · rw [List.length_drop]; omega
  · omega
theorem page_eq {p : Nat × AFrame} {n k : Nat} {l : List UInt8} (e : p.2.page = (k, frameOf n l).2.page) : p.2.page = n := e.trans (frameOf_page n l)
theorem readU_step {N i : Nat} {A : ADisk} {T : ATape} {P : APool} {n k : Nat} (F : Fine N i A T P) (hd : A.down = false) (hn : n < 120) (hno : ∀ p ∈ P.frames, p.2.page ≠ n) : Went N (i + 1) (readU A T P n k) := by
  have hr := read_up hd hn
  unfold readU
  rw [if_pos hr]
  have hsub := roomOf_sub P
  refine ⟨⟨F.size, F.two, F.most, ?_, ?_, readP_ok F.ok (frameOf_ok _ _ hn), F.lim.mono (by omega), Nat.le_trans F.recs (by omega), ?_⟩, fun _ => hd⟩
  · have := roomOf_len (P := P) (by rw [F.size]; exact F.len) (by rw [F.size]; exact F.two)
    rw [F.size] at this
    show (roomOf P ++ [_]).length ≤ N
    rw [List.length_append]
    exact this
  · show ((roomOf P ++ [(k, frameOf n (readB A n).data.toList)]).map fun p => p.2.page).Nodup
    rw [List.map_append]
    refine nodup_snoc (List.Nodup.sublist (hsub.map _) F.pages) ?_
    intro hm
    rw [List.mem_map] at hm
    obtain ⟨p, hp, e⟩ := hm
    generalize (readB A ↑n).data.toList = z at e
    exact hno p (hsub.subset hp) (page_eq e)
  · show P.reads + 1 ≤ i + 1
    have := F.reads
    omega
theorem step_use {N i : Nat} {A : ADisk} {T : ATape} {P : APool} {n k : Nat} (F : Fine N i A T P) (hd : A.down = false) (hnd : (P.frames.map (·.1)).Nodup) (hn : n < 120) : Went N (i + 1) (useU A T P n k) := by
  unfold useU
  split
  · rename_i j hj
    split
    · rename_i x hx
      have hp := hit_step hx
      exact ⟨⟨F.size, F.two, F.most, by rw [hp.length_eq]; exact F.len, (hp.map (fun p => p.2.page)).nodup_iff.2 F.pages, hitP_ok F.ok (F.ok x (List.mem_of_getElem? hx)), F.lim.mono (by omega), Nat.le_trans F.recs (by omega), Nat.le_trans F.reads (by omega)⟩, fun _ => hd⟩
    · exact ⟨F.mono (by omega), fun _ => hd⟩
  · rename_i hno
    have hno : ∀ p ∈ P.frames, p.2.page ≠ n := fun p hp e => by
      rw [List.findIdx?_eq_none_iff] at hno
      have := hno p hp
      simp [e] at this
    unfold missU
    split
    · split
      · rename_i x hx
        have hxm : x ∈ P.frames := List.mem_of_getElem? hx
        have hpg := setF_pages (P := P) (x := x) (g := outF A T x.2) hnd hxm outF_page
        split
        · rename_i h0
          have hdn := out_up h0 hd
          have hno2 : ∀ p ∈ (setF P x.1 (outF A T x.2)).frames, p.2.page ≠ n := fun p hp e => by
            have : n ∈ (setF P x.1 (outF A T x.2)).frames.map fun p => p.2.page := by rw [← e]; exact List.mem_map_of_mem hp
            rw [hpg, List.mem_map] at this
            obtain ⟨q, hq, e2⟩ := this
            exact hno q hq e2
          have hr := read_up hdn hn
          unfold readU
          rw [if_pos hr]
          have hsub := roomOf_sub (setF P x.1 (outF A T x.2))
          refine ⟨⟨F.size, F.two, F.most, ?_, ?_, readP_ok (setF_ok F.ok (outF_ok (F.ok x hxm))) (frameOf_ok _ _ hn), (F.lim.out T x.2).mono (by omega), by rw [outT_recs]; exact Nat.le_trans F.recs (by omega), ?_⟩, fun _ => hdn⟩
          · have := roomOf_len (P := setF P x.1 (outF A T x.2)) (by rw [setF_length]; show _ ≤ P.size; rw [F.size]; exact F.len) (by show 2 ≤ P.size; rw [F.size]; exact F.two)
            show (roomOf (setF P x.1 (outF A T x.2)) ++ [_]).length ≤ N
            rw [List.length_append]
            have e : (setF P x.1 (outF A T x.2)).size = N := F.size
            rw [e] at this
            exact this
          · show ((roomOf (setF P x.1 (outF A T x.2)) ++ [(k, frameOf n (readB (outA A T x.2) n).data.toList)]).map fun p => p.2.page).Nodup
            rw [List.map_append]
            refine nodup_snoc (List.Nodup.sublist (hsub.map _) (by rw [hpg]; exact F.pages)) ?_
            intro hm
            rw [List.mem_map] at hm
            obtain ⟨p, hp, e⟩ := hm
            generalize (readB (outA A T x.2) ↑n).data.toList = z at e
            exact hno2 p (hsub.subset hp) (page_eq e)
          · show P.reads + 1 ≤ i + 1
            have := F.reads
            omega
        · refine ⟨F.alike ⟨setF_blocks P _ _, rfl⟩ ((F.lim.out T x.2).mono (by omega)) (outT_recs A T x.2) rfl hpg (setF_ok F.ok (outF_ok (F.ok x hxm))) (by omega), fun h => out_on h hd⟩
      · exact ⟨F.mono (by omega), fun _ => hd⟩
    · exact readU_step F hd hn hno
theorem step_page {N i : Nat} {A : ADisk} {T : ATape} {P : APool} {k : Nat} (F : Fine N i A T P) (hd : A.down = false) (hnd : (P.frames.map (·.1)).Nodup) (n : Int) : Went N (i + 1) (pageU A T P n k) := by
  unfold pageU
  split
  · rename_i h
    obtain ⟨t, rfl, ht⟩ := isP_nat h
    rw [hd]
    exact step_use F hd hnd (by simpa using ht)
  · exact ⟨F.mono (by omega), fun _ => hd⟩
/-- The blocks of the frames stay apart. -/
theorem readP_nodup {P : APool} {k : Nat} {f : AFrame} (hnd : (P.frames.map (·.1)).Nodup) (hk : k ∉ P.frames.map (·.1)) : ((readP P k f).frames.map (·.1)).Nodup := by
  show ((roomOf P ++ [(k, f)]).map (·.1)).Nodup
  rw [List.map_append]
  exact nodup_snoc (List.Nodup.sublist ((roomOf_sub P).map _) hnd) fun hm => hk (((roomOf_sub P).map _).subset hm)
theorem readU_nodup {A : ADisk} {T : ATape} {P : APool} {n k : Nat} (hnd : (P.frames.map (·.1)).Nodup) (hk : k ∉ P.frames.map (·.1)) : ((readU A T P n k).P.frames.map (·.1)).Nodup := by
  unfold readU
  split
  · exact readP_nodup hnd hk
  · exact hnd
theorem useU_nodup {A : ADisk} {T : ATape} {P : APool} {n k : Nat} (hnd : (P.frames.map (·.1)).Nodup) (hk : k ∉ P.frames.map (·.1)) : ((useU A T P n k).P.frames.map (·.1)).Nodup := by
  unfold useU
  split
  · split
    · rename_i x hx
      exact ((hit_step hx).map (·.1)).nodup_iff.2 hnd
    · exact hnd
  · unfold missU
    split
    · split
      · split
        · exact readU_nodup (by rw [setF_blocks]; exact hnd) (by rw [setF_blocks]; exact hk)
        · show ((setF P _ _).frames.map (·.1)).Nodup
          rw [setF_blocks]; exact hnd
      · exact hnd
    · exact readU_nodup hnd hk
theorem step_set {N i : Nat} {A : ADisk} {T : ATape} {P : APool} {k : Nat} (F : Fine N i A T P) (hd : A.down = false) (hnd : (P.frames.map (·.1)).Nodup) (hk : k ∉ P.frames.map (·.1)) (n : Int) (s : ByteArray) (st : Int) (hi : i ≤ 1000000) : Went N (i + 1) (setU A T P n s st k) := by
  unfold setU
  split
  · rename_i h
    rw [Bool.and_eq_true] at h
    obtain ⟨hp, hs⟩ := h
    obtain ⟨t, rfl, ht⟩ := isP_nat hp
    rw [hd]
    have hU := step_use (n := (t : Int).toNat) (k := k) F hd hnd (by simpa using ht)
    have hN := useU_nodup (A := A) (T := T) (n := (t : Int).toNat) hnd hk
    have hl := fun h => useU_last (A := A) (T := T) (P := P) (n := (t : Int).toNat) (k := k) (by rw [F.size]; exact F.two) h
    generalize useU A T P (t : Int).toNat k = U at *
    rw [if_neg (by decide)]
    split
    · rename_i h0
      obtain ⟨l, x, e1, e2⟩ := hl h0
      have e3 := setLast_frames e1 hN s st.toNat
      have hxm : x ∈ U.P.frames := by rw [e1]; simp
      have G := hU.fine
      have hsz : (setLast U.P s st.toNat).size = U.P.size ∧ (setLast U.P s st.toNat).reads = U.P.reads := by
        rw [setLast_snoc e1]
        exact ⟨rfl, rfl⟩
      unfold setOk at hs
      simp only [Bool.and_eq_true, decide_eq_true_eq] at hs
      have hpg : ((setLast U.P s st.toNat).frames.map fun p => p.2.page) = U.P.frames.map fun p => p.2.page := by
        rw [e3, e1]
        simp
      refine ⟨⟨hsz.1.trans G.size, G.two, G.most, ?_, by rw [hpg]; exact G.pages, ?_, G.lim, G.recs, by rw [hsz.2]; exact G.reads⟩, fun h => hU.up h⟩
      · show (setLast U.P s st.toNat).frames.length ≤ N
        have := G.len
        rw [e1, List.length_append] at this
        rw [e3, List.length_append]
        exact this
      · intro p hp
        have hp2 : p ∈ (setLast U.P s st.toNat).frames := hp
        rw [e3, List.mem_append, List.mem_singleton] at hp2
        rcases hp2 with hp2 | rfl
        · exact G.ok p (by rw [e1]; simp [hp2])
        · have := F.recs
          exact ⟨(G.ok x hxm).page, hs.1.1, by show st.toNat ≤ 1000000; omega⟩
    · exact hU
  · exact ⟨F.mono (by omega), fun _ => hd⟩
/-- The same pool, its frames lying elsewhere. -/
structure Same (P Q : APool) : Prop where
  frames : Q.frames.map (·.2) = P.frames.map (·.2)
  size : Q.size = P.size
  reads : Q.reads = P.reads
theorem Same.refl (P : APool) : Same P P := ⟨rfl, rfl, rfl⟩
theorem rfVals_same {l m : List (Nat × AFrame)} (h : m.map (·.2) = l.map (·.2)) : rfVals m = rfVals l := by
  have e : ∀ l : List (Nat × AFrame), rfVals l = (l.map (·.2)).flatMap rfCells := fun l => by simp [rfVals, List.flatMap_map]
  rw [e, e, h]
theorem RSys.same {w0 w : World} {b rp : Nat} {ow fo : Option Nat} {R : ADisk} {T : ATape} {P Q : APool} (S : RSys w0 w b ow rp fo R T P) (h : Same P Q) : RSys w0 w b ow rp fo R T Q := by
  obtain ⟨v, e1, e2, e3⟩ := S.pool
  have hl : Q.frames.length = P.frames.length := by have := congrArg List.length h.frames; simpa using this
  refine { S with pool := ⟨v, ?_, e2, ?_⟩ }
  · unfold rpCells at e1 ⊢
    rw [h.size, h.reads]
    exact e1
  · rw [hl, rfVals_same h.frames]
    exact e3
/-- Where the frame of a page that is set lies does not tell. -/
theorem setU_same {A : ADisk} {T : ATape} {P : APool} {n : Int} {s : ByteArray} {st : Int} {k j : Nat} (hk : ((useU A T P n.toNat k).P.frames.map (·.1)).Nodup) (hj : ((useU A T P n.toNat j).P.frames.map (·.1)).Nodup) :
    (setU A T P n s st k).e = (setU A T P n s st j).e ∧ (setU A T P n s st k).A = (setU A T P n s st j).A ∧ (setU A T P n s st k).T = (setU A T P n s st j).T ∧ Same (setU A T P n s st k).P (setU A T P n s st j).P := by
  unfold setU
  split
  · split
    · exact ⟨rfl, rfl, rfl, Same.refl _⟩
    · rcases useU_block A T P n.toNat with ⟨U, hU⟩ | ⟨A', T', P', f, hU⟩
      · rw [hU k, hU j]
        exact ⟨rfl, rfl, rfl, Same.refl _⟩
      · rw [hU k] at hk ⊢
        rw [hU j] at hj ⊢
        simp only [if_true]
        have e1 := setLast_frames (P := readP P' k f) (l := roomOf P') (x := (k, f)) rfl hk s st.toNat
        have e2 := setLast_frames (P := readP P' j f) (l := roomOf P') (x := (j, f)) rfl hj s st.toNat
        refine ⟨trivial, trivial, trivial, ?_, ?_, ?_⟩
        · rw [e1, e2]
          simp
        · rw [setLast_snoc (P := readP P' k f) (l := roomOf P') (x := (k, f)) rfl, setLast_snoc (P := readP P' j f) (l := roomOf P') (x := (j, f)) rfl]
          rfl
        · rw [setLast_snoc (P := readP P' k f) (l := roomOf P') (x := (k, f)) rfl, setLast_snoc (P := readP P' j f) (l := roomOf P') (x := (j, f)) rfl]
          rfl
  · exact ⟨rfl, rfl, rfl, Same.refl _⟩
end Go.Proofs.YtdccbceaajnajaaGreat

namespace Go.Proofs.YtdccbceaajnajaaGreat
open Go.RowKit
set_option linter.unusedSimpArgs false
set_option linter.unusedVariables false

/-- A call of a script. -/
structure Move where
  kind : Int
  n : Int
  stamp : Int
  bytes : ByteArray
theorem cells31 : Tryz.prog.cellsOf 31 = 4 := by kernel_rfl
def moveCells (m : Move) (p : Option Addr) (c : Nat) : Array Value := #[.int .i64 m.kind, .int .i64 m.n, .int .i64 m.stamp, .slice p m.bytes.size c]
def kindOf (m : Move) : Int := (IntKind.u64.wrap m.kind).tmod 7
theorem kindOf_cases (m : Move) : kindOf m = 0 ∨ kindOf m = 1 ∨ kindOf m = 2 ∨ kindOf m = 3 ∨ kindOf m = 4 ∨ kindOf m = 5 ∨ kindOf m = 6 := by
  have h : 0 ≤ IntKind.u64.wrap m.kind := by
    unfold IntKind.wrap
    simp [IntKind.bits, IntKind.signed]
    omega
  unfold kindOf
  rw [Int.tmod_eq_emod_of_nonneg h]
  omega
/-- The text of a note: at most 200 bytes. -/
def cutB (s : ByteArray) : ByteArray := s.extract 0 (min s.size 200)
/-- What a call leaves. -/
def callU (m : Move) (A : ADisk) (T : ATape) (P : APool) (k : Nat) : Used :=
  if kindOf m = 0 then appU A T P (noteR (cutB m.bytes)) else
  if kindOf m = 1 then pageU A T P m.n k else
  if kindOf m = 2 then setU A T P m.n (fillB m.bytes) m.stamp k else
  if kindOf m = 3 then outU A T P m.n else
  if kindOf m = 4 then cleanU A T P else
  if kindOf m = 5 then ⟨forceE A T, forceA A T, forceT A T, P⟩ else ⟨0, { A with armed := max m.n 0 }, T, P⟩
theorem step_call_any {N i : Nat} {A : ADisk} {T : ATape} {P : APool} {k : Nat} (m : Move) (F : Fine N i A T P) (hd : A.down = false) (hnd : (P.frames.map (·.1)).Nodup) (hk : k ∉ P.frames.map (·.1)) (hi : i ≤ 1000000) : Went N (i + 1) (callU m A T P k) := by
  unfold callU
  split
  · exact step_app F hd _
  · split
    · exact step_page F hd hnd _
    · split
      · exact step_set F hd hnd hk _ _ _ hi
      · split
        · exact step_out F hd hnd _
        · split
          · exact step_clean F hd hnd
          · split
            · exact step_force F hd
            · exact step_arm F hd _

theorem alls_old {w0 w : World} {b tb pb : Nat} {ow ot os : Option Nat} {A : ADisk} {T : ATape} {P : APool} (S : Sys w0 w b ow tb ot pb os A T P) {k : Nat} (h : alls b ow tb ot pb os P k) : w0.heap.size ≤ k := by
  rcases h with h | h
  · rcases h with (rfl | h) | rfl | h
    · exact S.log.bb
    · exact S.log.oo k h
    · exact S.log.tt
    · exact S.log.rr k h
  · exact S.pp k h
theorem refs_old {w0 w : World} {b rp : Nat} {ow fo : Option Nat} {R : ADisk} {T : ATape} {P : APool} (S : RSys w0 w b ow rp fo R T P) {k : Nat} (h : refs b ow rp fo k) : w0.heap.size ≤ k := by
  rcases h with (rfl | h) | rfl | h
  · exact S.bb
  · exact S.oo k h
  · exact S.rr
  · exact S.ff k h
theorem Sys.newT {w0 w w' : World} {b tb pb : Nat} {ow ot os : Option Nat} {A : ADisk} {T : ATape} {P : APool} (S : Sys w0 w b ow tb ot pb os A T P) (h : Turn (alls b ow tb ot pb os P) w w') : New w0 w' :=
  S.log.new.turn h fun k hk hs => by have := alls_old S hs; omega
theorem RSys.newT {w0 w w' : World} {b rp : Nat} {ow fo : Option Nat} {R : ADisk} {T : ATape} {P : APool} (S : RSys w0 w b ow rp fo R T P) (h : Turn (refs b ow rp fo) w w') : New w0 w' :=
  S.new.turn h fun k hk hs => by have := refs_old S hs; omega
theorem Only.content {T : TypeId → Prop} {w w' : World} (h : Only T w w') (ht : ¬ T 5) {v : Value} {s : ByteArray} (hc : Content w v s) : Content w' v s :=
  hc.turn h.turn fun k c fr hk e => by
    obtain ⟨c', t, fr', e', h1⟩ := hk
    rw [e] at e'
    injection e' with e'
    injection e' with _ e' _
    exact ht (e' ▸ h1)
theorem sys5 : ¬ sysT 5 := by simp [sysT]
theorem ref5 : ¬ refT 5 := by simp [refT]

/-- Both sides, in one block x, each with a state of its own. -/
structure Two (w0 w : World) (x b : Nat) (ow : Option Nat) (tb : Nat) (ot : Option Nat) (pb : Nat) (os : Option Nat) (rb : Nat) (rw : Option Nat) (rp : Nat) (fo : Option Nat) (A : ADisk) (T : ATape) (P : APool) (R : ADisk) (TR : ATape) (PR : APool) : Prop where
  pair : w.heap[x]? = some (.cells #[.pointer (some ⟨b, 0, none⟩), .pointer (some ⟨tb, 0, none⟩), .pointer (some ⟨pb, 0, none⟩), .pointer (some ⟨rp, 0, none⟩)] 43 (0, 0))
  sys : Sys w0 w b ow tb ot pb os A T P
  ref : RSys w0 w rb rw rp fo R TR PR
theorem Both.two {w0 w : World} {x b tb pb rb rp : Nat} {ow ot os rw fo : Option Nat} {A : ADisk} {T : ATape} {P : APool} (h : Both w0 w x b ow tb ot pb os rb rw rp fo A T P) : Two w0 w x b ow tb ot pb os rb rw rp fo A T P A T P := ⟨h.pair, h.sys, h.ref⟩
theorem Two.both {w0 w : World} {x b tb pb rb rp : Nat} {ow ot os rw fo : Option Nat} {A : ADisk} {T : ATape} {P : APool} (h : Two w0 w x b ow tb ot pb os rb rw rp fo A T P A T P) : Both w0 w x b ow tb ot pb os rb rw rp fo A T P := ⟨h.pair, h.sys, h.ref⟩
section
variable {w0 w w' : World} {x b tb pb rb rp : Nat} {ow ot os rw fo : Option Nat} {A : ADisk} {T : ATape} {P : APool} {R : ADisk} {TR : ATape} {PR : APool}
theorem Two.newer (h : Two w0 w x b ow tb ot pb os rb rw rp fo A T P R TR PR) (hn : New w w') : Two w0 w' x b ow tb ot pb os rb rw rp fo A T P R TR PR :=
  ⟨(Below.block hn x (Array.getElem?_eq_some_iff.1 h.pair).1).trans h.pair, h.sys.newer hn, h.ref.newer hn⟩
theorem Two.cells (h : Two w0 w x b ow tb ot pb os rb rw rp fo A T P R TR PR) : w.cell? ⟨x, 0, none⟩ = some (.pointer (some ⟨b, 0, none⟩)) ∧ w.cell? ⟨x, 1, none⟩ = some (.pointer (some ⟨tb, 0, none⟩)) ∧ w.cell? ⟨x, 2, none⟩ = some (.pointer (some ⟨pb, 0, none⟩)) ∧ w.cell? ⟨x, 3, none⟩ = some (.pointer (some ⟨rp, 0, none⟩)) :=
  have hc := cells_of h.pair
  ⟨hc 0, hc 1, hc 2, hc 3⟩
/-- The program's side moves. -/
theorem Two.left (h : Two w0 w x b ow tb ot pb os rb rw rp fo A T P R TR PR) {ow' ot' os' : Option Nat} {A' : ADisk} {T' : ATape} {P' : APool} (S : Sys w0 w' b ow' tb ot' pb os' A' T' P') (ho : Only sysT w w') : Two w0 w' x b ow' tb ot' pb os' rb rw rp fo A' T' P' R TR PR :=
  ⟨ho.cells h.pair (by simp [sysT]), S, h.ref.kept ho S.log.new⟩
/-- The specification's side moves. -/
theorem Two.right (h : Two w0 w x b ow tb ot pb os rb rw rp fo A T P R TR PR) {rw' fo' : Option Nat} {R' : ADisk} {TR' : ATape} {PR' : APool} (S : RSys w0 w' rb rw' rp fo' R' TR' PR') (ho : Only refT w w') : Two w0 w' x b ow tb ot pb os rb rw' rp fo' A T P R' TR' PR' :=
  ⟨ho.cells h.pair (by simp [refT]), h.sys.kept ho S.new, S⟩
end
/-- The pointer of the pair, and the call, at block q. -/
def movePtr (q : Nat) : Value := .pointer (some ⟨q, 0, none⟩)
/-- The types of both sides. -/
def bothT (t : TypeId) : Prop := sysT t ∨ refT t
theorem Only.imp {T T' : TypeId → Prop} {w w' : World} (h : Only T w w') (hi : ∀ t, T t → T' t) : Only T' w w' :=
  ⟨h.os, h.tape, h.output, h.size, fun k o ho hn => h.block k o ho (fun c t fr e ht => hn c t fr e (hi t ht))⟩
theorem Only.join {w w1 w2 w3 w4 : World} (n : New w w1) (a : Only sysT w1 w2) (n2 : New w2 w3) (b : Only refT w3 w4) : Only bothT w w4 :=
  (((Only.of_new n).trans (a.imp fun _ h => .inl h)).trans (Only.of_new n2)).trans (b.imp fun _ h => .inr h)
/-- What a call returns, and leaves. -/
def DoesBack (w0 : World) (x b tb pb rb rp N i : Nat) (m : Move) (A : ADisk) (T : ATape) (P : APool) (w : World) (e : Ending) (w' : World) : Prop :=
  ∃ k ow ot os rw fo, k ∉ P.frames.map (·.1) ∧ e = .returned (.tuple #[.int .i64 (callU m A T P k).e, .bool true]) ∧ Both w0 w' x b ow tb ot pb os rb rw rp fo (callU m A T P k).A (callU m A T P k).T (callU m A T P k).P ∧ Only bothT w w'
/-- The blocks of the frames lie in memory. -/
theorem frames_lt {w0 w : World} {b tb pb : Nat} {ow ot os : Option Nat} {A : ADisk} {T : ATape} {P : APool} (S : Sys w0 w b ow tb ot pb os A T P) {k : Nat} (hk : w.heap.size ≤ k) : k ∉ P.frames.map (·.1) := fun hm => by
  rw [List.mem_map] at hm
  obtain ⟨p, hp, e⟩ := hm
  obtain ⟨v, e1, _⟩ := S.pool.frames p hp
  have := (Array.getElem?_eq_some_iff.1 e1).1
  omega
/-- The cells of the call. -/
theorem move_cells {w : World} {q : Nat} {m : Move} {p : Option Addr} {c : Nat} (h : w.heap[q]? = some (.cells (moveCells m p c) 31 (0, 0))) : w.cell? ⟨q, 0, none⟩ = some (.int .i64 m.kind) ∧ w.cell? ⟨q, 1, none⟩ = some (.int .i64 m.n) ∧ w.cell? ⟨q, 2, none⟩ = some (.int .i64 m.stamp) ∧ w.cell? ⟨q, 3, none⟩ = some (.slice p m.bytes.size c) :=
  have hc := cells_of h
  ⟨hc 0, hc 1, hc 2, hc 3⟩
theorem eight {a b c d e f g h : Prop} (h1 : a ∧ b ∧ c ∧ d) (h2 : e ∧ f ∧ g ∧ h) : a ∧ b ∧ c ∧ d ∧ e ∧ f ∧ g ∧ h := ⟨h1.1, h1.2.1, h1.2.2.1, h1.2.2.2, h2.1, h2.2.1, h2.2.2.1, h2.2.2.2⟩
theorem sys31 : ¬ sysT 31 := by simp [sysT]
theorem ref31 : ¬ refT 31 := by simp [refT]
end Go.Proofs.YtdccbceaajnajaaGreat
