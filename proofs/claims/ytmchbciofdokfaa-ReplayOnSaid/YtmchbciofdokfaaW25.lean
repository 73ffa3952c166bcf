/- Restart: what its steps keep, and that they end. -/
import Derived.Test.YtmchbciofdokfaaW24
namespace Go.Proofs.Ytmchbciofdokfaa
open Go.RowKit
set_option linter.unusedSimpArgs false
set_option linter.unusedVariables false

def tot (s : Todo) : Nat := (s.open_.map fun o => (s.left o.unit).length + 1).sum
structure TodoOk (n : Nat) (s : Todo) : Prop where
  nodup : (s.open_.map (·.unit)).Nodup
  next : ∀ x ∈ s.open_, x.next = (lastN (s.left x.unit) : Int)
  pos : ∀ m, ∀ k ∈ s.left m, 1 ≤ k ∧ k ≤ n
theorem lastN_mem {l : List Nat} (h : l ≠ []) : lastN l ∈ l := by
  unfold lastN
  rw [List.getLast?_eq_some_getLast h]
  exact List.getLast_mem h
theorem lastN_zero {l : List Nat} (h : ∀ k ∈ l, 1 ≤ k) (h0 : lastN l = 0) : l = [] := by
  apply Classical.byContradiction
  intro hne
  have := h _ (lastN_mem hne)
  omega
theorem map_congr_sum {T : List Opn} {f g : Opn → Nat} (h : ∀ x ∈ T, f x = g x) : (T.map f).sum = (T.map g).sum := by
  rw [List.map_congr_left h]
theorem step_ok {l : List Rec} {n : Nat} {s t : Todo} {r : Rec} (ok : TodoOk n s) (h : Step l s r t) : TodoOk n t ∧ tot s = tot t + 1 := by
  obtain ⟨h1, h2, h3⟩ := ok
  cases h with
  | @over T1 T2 o f a1 a2 =>
    have ho : f o.unit = [] := lastN_zero (fun k hk => (h3 _ k hk).1) (by
      have h := h2 o (show o ∈ T1 ++ o :: T2 by simp)
      simp only at h
      omega)
    refine ⟨⟨?_, fun x hx => h2 x ?_, h3⟩, ?_⟩
    · refine List.Nodup.sublist (List.Sublist.map _ ?_) h1
      exact List.Sublist.append_left (List.sublist_cons_self _ _) _
    · show x ∈ T1 ++ o :: T2
      have hx : x ∈ T1 ++ T2 := hx
      rw [List.mem_append] at hx ⊢
      exact hx.imp id (fun h => by simp [h])
    · simp [tot, ho]
      omega
  | @undo T1 T2 o f a1 a2 a3 =>
    have hne : f o.unit ≠ [] := fun e => a1 o (by simp) (by
      have h := h2 o (show o ∈ T1 ++ o :: T2 by simp)
      simp only [e] at h
      simpa [lastN] using h)
    have hn : ∀ x ∈ T1 ++ T2, x.unit ≠ o.unit := fun x hx e => by
      have h1 : ((T1 ++ o :: T2).map (·.unit)).Nodup := h1
      have hp : (o :: (T1 ++ T2)).Perm (T1 ++ o :: T2) := List.perm_middle.symm
      have h4 := (hp.map (·.unit)).nodup_iff.2 h1
      rw [List.map_cons, List.nodup_cons] at h4
      exact h4.1 (e ▸ List.mem_map_of_mem hx)
    have hpop : ∀ x ∈ T1 ++ T2, popL f o.unit x.unit = f x.unit := fun x hx => by unfold popL; rw [if_neg (hn x hx)]
    have hlen : (f o.unit).dropLast.length + 1 = (f o.unit).length := by
      rw [List.length_dropLast]
      have := List.length_pos_iff.2 hne
      omega
    refine ⟨⟨?_, fun x hx => ?_, fun m k hk => ?_⟩, ?_⟩
    · have e : (T1 ++ ⟨o.unit, (lastN (f o.unit).dropLast : Int), o.ready⟩ :: T2).map (·.unit) = (T1 ++ o :: T2).map (·.unit) := by simp
      show ((T1 ++ _ :: T2).map (·.unit)).Nodup
      rw [e]
      exact h1
    · have hx : x ∈ T1 ++ ⟨o.unit, (lastN (f o.unit).dropLast : Int), o.ready⟩ :: T2 := hx
      show x.next = (lastN (popL f o.unit x.unit) : Int)
      rw [List.mem_append, List.mem_cons] at hx
      rcases hx with hx | rfl | hx
      · rw [hpop x (List.mem_append.2 (.inl hx))]
        exact h2 x (show x ∈ T1 ++ o :: T2 by simp [hx])
      · simp [popL]
      · rw [hpop x (List.mem_append.2 (.inr hx))]
        exact h2 x (show x ∈ T1 ++ o :: T2 by simp [hx])
    · have hk : k ∈ popL f o.unit m := hk
      unfold popL at hk
      split at hk
      · exact h3 m k ((List.dropLast_sublist _).subset hk)
      · exact h3 m k hk
    · have e1 : (T1.map fun x => (popL f o.unit x.unit).length + 1) = T1.map fun x => (f x.unit).length + 1 := List.map_congr_left fun x hx => by rw [hpop x (by simp [hx])]
      have e2 : (T2.map fun x => (popL f o.unit x.unit).length + 1) = T2.map fun x => (f x.unit).length + 1 := List.map_congr_left fun x hx => by rw [hpop x (by simp [hx])]
      simp only [tot, List.map_append, List.map_cons, List.sum_append, List.sum_cons, e1, e2]
      have e3 : popL f o.unit o.unit = (f o.unit).dropLast := by simp [popL]
      rw [e3]
      omega
theorem steps_ok {l : List Rec} {n : Nat} {s t : Todo} {O : List Rec} (ok : TodoOk n s) (h : Steps l s O t) : TodoOk n t ∧ O.length + tot t = tot s := by
  induction h with
  | nil => exact ⟨ok, by simp⟩
  | snoc _ k ih =>
    obtain ⟨h1, h2⟩ := ih
    obtain ⟨h3, h4⟩ := step_ok h1 k
    refine ⟨h3, ?_⟩
    rw [List.length_append, List.length_singleton]
    omega
/-- Where restart begins. -/
def todo0 (W : PW) (o : List Opn) : Todo := ⟨o.filter fun x => decide (x.ready = ByteArray.empty), fun n => (W.unit n).left⟩
theorem todo0_ok {l : List Rec} {W : PW} {o : List Opn} (G : Good l W) (h : IsOpens W.unit o) : TodoOk l.length (todo0 W o) := by
  refine ⟨?_, fun x hx => ?_, fun m k hk => ?_⟩
  · have h1 : (o.map (·.unit)).Nodup := h.1.imp fun h => by omega
    exact List.Nodup.sublist (List.Sublist.map _ (List.filter_sublist)) h1
  · have := ((h.2 x).1 (List.mem_filter.1 hx).1).2
    rw [this]
    rfl
  · obtain ⟨h1, h2, _⟩ := G.left m k hk
    exact ⟨h1, h2⟩
/-- A world of which less is left. -/
def withLeft (W : PW) (f : Int → List Nat) : PW := { W with unit := fun n => ⟨(W.unit n).st, f n, (W.unit n).text, (W.unit n).seen⟩ }
theorem withLeft_self (W : PW) : withLeft W (fun n => (W.unit n).left) = W := rfl
/-- What restart returns. -/
def RestartIs (l : List Rec) (w : World) (e : Ending) (w' : World) : Prop :=
  (walkW l = none ∧ e = .returned (.tuple #[.slice none 0 0, .int .i64 50]) ∧ New w w') ∨
  (∃ W o O t v, walkW l = some W ∧ IsOpens W.unit o ∧ Steps l (todo0 W o) O t ∧ t.open_ = [] ∧ e = .returned (.tuple #[v, .int .i64 0]) ∧ Recs w' v O ∧ New w w')
theorem len_tot (s : Todo) : s.open_.length ≤ tot s := by
  have key : ∀ T : List Opn, T.length ≤ (T.map fun o => (s.left o.unit).length + 1).sum := fun T => by
    induction T with
    | nil => simp
    | cons a T ih =>
      rw [List.map_cons, List.sum_cons, List.length_cons]
      omega
  exact key _
theorem tot_bound {n : Nat} {s : Todo} (ok : TodoOk n s) (h1 : s.open_.length ≤ 500) (h2 : ∀ m, (s.left m).length ≤ 500) : tot s ≤ 250500 := by
  have key : ∀ T : List Opn, (T.map fun o => (s.left o.unit).length + 1).sum ≤ T.length * 501 := fun T => by
    induction T with
    | nil => simp
    | cons a T ih =>
      rw [List.map_cons, List.sum_cons, List.length_cons]
      have := h2 a.unit
      omega
  have := key s.open_
  unfold tot
  omega
end Go.Proofs.Ytmchbciofdokfaa
