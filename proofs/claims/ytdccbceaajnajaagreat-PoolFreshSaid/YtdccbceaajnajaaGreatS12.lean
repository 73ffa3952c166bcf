/- The specification's pool: Dirty. Dirty pages in order; the specification's Clean. -/
import Derived.Test.YtdccbceaajnajaaGreatS10
namespace Go.Proofs.YtdccbceaajnajaaGreat
open Go.RowKit
set_option linter.unusedSimpArgs false
set_option linter.unusedVariables false

/-- Has a page a dirty frame? -/
def isDirty (P : APool) (n : Nat) : Bool := match P.frames.find? (fun p => decide ((p.2.page : Int) = (n : Int))) with
  | some x => x.2.dirty
  | none => false
def dirtyR (P : APool) (j : Nat) : List Int := ((List.range j).filter (isDirty P)).map fun n : Nat => (n : Int)
theorem dirtyR_succ (P : APool) (j : Nat) : dirtyR P (j + 1) = dirtyR P j ++ if isDirty P j then [(j : Int)] else [] := by
  unfold dirtyR
  rw [List.range_succ, List.filter_append, List.map_append]
  cases h : isDirty P j <;> simp [h]
theorem dirtyR_length (P : APool) (j : Nat) : (dirtyR P j).length ≤ j := by
  unfold dirtyR
  rw [List.length_map]
  exact Nat.le_trans (List.length_filter_le _ _) (by simp)

set_option maxHeartbeats 1600000 in
set_option maxRecDepth 100000 in
theorem refDirty_any (w0 : World) (b : Nat) (ow : Option Nat) (rp : Nat) (fo : Option Nat) (R : ADisk) (T : ATape) (P : APool) (w : World) (S : RSys w0 w b ow rp fo R T P) (hl : P.frames.length ≤ 100000) : Calls Tryz.prog 52 #[.pointer (some ⟨rp, 0, none⟩)] w fun e w' => ∃ v, e = .returned v ∧ w'.ownsRow w.heap.size 3 1 v (dirtyR P 120).length ((dirtyR P 120).map fun n : Int => Value.int .i64 n) ∧ New w w' := by
  have HS := hid S
  obtain ⟨p, c, hh, hown, -⟩ := rsys_full S
  have hc := cells_of hh
  unfold rpCells at hc
  have OWN := hid hown
  have HL := hid hl
  have HC : Hid (∀ w', New w w' → w'.cell? ⟨rp, 5, none⟩ = some (.slice p P.frames.length c)) := hid fun w' hn => (hn.cell rp 5 (Array.getElem?_eq_some_iff.1 hh).1).trans (hc 5)
  clear S hown hl hh hc
  go_enter Tryz.func52, Tryz.ntmps52
  go_wp2
  go_loopw [3, 4, 5] (fun v i _ wr => ∃ j : Nat, j ≤ 120 ∧ i = .int .i64 j ∧ Hid (New w wr) ∧ ∃ d : Nat, Hid (d = (dirtyR P j).length) ∧ (∃ q k, v = .slice q d k) ∧ Hid (wr.ownsRow w.heap.size 3 1 v d ((dirtyR P j).map fun n : Int => Value.int .i64 n))) (fun _ i _ _ => 120 - (intOf i).toNat)
  case atStart => exact ⟨0, Nat.zero_le _, rfl, hid (New.refl _), 0, hid rfl, ⟨_, _, rfl⟩, hid (World.ownsRow_nil _ _ _ _)⟩
  case round =>
    obtain ⟨j, hj, rfl, hn, d, hdl, ⟨q, k, rfl⟩, hown⟩ := hrel
    by_cases hlt : j < 120
    · have hc5 := HC.out wr hn.out
      have HDB : Hid (d ≤ 120) := hid (by have := hdl.out; have := dirtyR_length P j; omega)
      have HSC := hid (dirtyR_succ P j)
      have HCASE := hid (find_case P.frames (j : Int))
      go_wp2_with fail
      refine (refFind_any w0 b ow rp fo R T P _ _ (HS.out.newer hn.out) HL.out).mono ?_
      rintro e w' ⟨rfl, rfl⟩
      have hno : isDirty P j = false → Hid (dirtyR P (j + 1) = dirtyR P j) := fun h => hid (by rw [HSC.out, h]; simp)
      have hyes : isDirty P j = true → Hid (dirtyR P (j + 1) = dirtyR P j ++ [(j : Int)]) := fun h => hid (by rw [HSC.out, h]; rfl)
      rcases HCASE.out with ⟨hn1, hn2⟩ | ⟨i, x, hi, hx, hn1, hn2, hpg⟩
      · have HTK := hno (by unfold isDirty; rw [hn1])
        rw [hn2]
        have q0 : decide ((0 : Int) ≤ -1) = false := by decide
        clear hno hyes hn1 hn2
        go_wp2
        go_roundw
        case rel => exact ⟨j + 1, by omega, by go_num, hn, d, hid (by rw [HTK.out]; exact hdl.out), ⟨_, _, rfl⟩, hid (by rw [HTK.out]; exact hown.out)⟩
        case measure => simp [intOf]; omega
      · have hdd : isDirty P j = x.2.dirty := by unfold isDirty; rw [hn1]
        rw [hdd] at hno hyes
        have ho := own_old OWN.out hn.out
        obtain ⟨g, cap, e, _, hg⟩ := ho.form (by omega)
        injection e with e1 e8 e9
        subst e1
        clear e8 e9
        have hxi : P.frames[i] = x := by rw [List.getElem?_eq_getElem hi] at hx; injection hx
        have d3 := ho.cellAt (i * 4 + 3) (by omega)
        rw [(rfVals_get P.frames i hi).2.2.2, hxi] at d3
        have q9 : P.frames.length ≤ 100000 := HL.out
        have q0 : decide ((0 : Int) ≤ (i : Int)) = true := by simp
        rw [hn2]
        clear ho hxi hx hn1 hn2 hdd hpg
        cases hdr : x.2.dirty with
        | false =>
          rw [hdr] at hno d3
          have HTK := hno rfl
          clear hno hyes
          go_wp2
          go_roundw
          case rel => exact ⟨j + 1, by omega, by go_num, hn, d, hid (by rw [HTK.out]; exact hdl.out), ⟨_, _, rfl⟩, hid (by rw [HTK.out]; exact hown.out)⟩
          case measure => simp [intOf]; omega
        | true =>
          rw [hdr] at hyes d3
          have HTK := hyes rfl
          clear hno hyes
          have N1 : Hid (New wr (wr.alloc (.cells #[.int .i64 (j : Int)] 3))) := hid ((New.refl wr).alloc _ _)
          go_wp2_with (at_builtin; refine app_int rfl _ _ rfl w.heap.size _ d _ rfl (own_old hown.out N1.out) ⟨wr.heap.size, 0, none⟩ (j : Int) rfl ?cn ?cb ?cc ?_)
          case cn => exact cells_of (heap_alloc_new wr _) 0
          case cb => have := HDB.out; omega
          case cc => exact Nat.le_trans hn.out.size N1.out.size
          intro v4 w4 own4 grow4 blk4
          obtain ⟨p4, c4, rfl⟩ := own_len own4
          have N4 : Hid (New w w4) := hid ((hn.out.trans N1.out).grown grow4 (Nat.le_trans hn.out.size N1.out.size) (fun k hk => (hown.out.lt k hk).1))
          have OWN4 := hid own4
          clear own4 grow4 blk4 d3 hc5
          go_wp2
          go_roundw
          case rel => exact ⟨j + 1, by omega, by go_num, N4, d + 1, hid (by rw [HTK.out, hdl.out]; simp), ⟨_, _, rfl⟩, hid (by rw [HTK.out, List.map_append]; exact OWN4.out)⟩
          case measure => simp [intOf]; omega
    · obtain rfl : j = 120 := by omega
      go_wp2
      go_ret
      refine ⟨_, rfl, ?_, hn.out⟩
      have := hown.out
      rw [hdl.out] at this
      rw [hdl.out]
      exact this
end Go.Proofs.YtdccbceaajnajaaGreat

namespace Go.Proofs.YtdccbceaajnajaaGreat
open Go.RowKit
set_option linter.unusedSimpArgs false
set_option linter.unusedVariables false

theorem find_nodup {l : List (Nat × AFrame)} (hnd : (l.map fun p => p.2.page).Nodup) {x : Nat × AFrame} (hx : x ∈ l) : l.find? (fun p => decide ((p.2.page : Int) = (x.2.page : Int))) = some x := by
  induction l with
  | nil => cases hx
  | cons y l ih =>
    simp only [List.map_cons, List.nodup_cons] at hnd
    rcases List.mem_cons.1 hx with rfl | hx
    · rw [List.find?_cons_of_pos (by simp)]
    · have hne : y.2.page ≠ x.2.page := fun e => hnd.1 (by rw [e]; exact List.mem_map.2 ⟨x, hx, rfl⟩)
      rw [List.find?_cons_of_neg (by simp; omega)]
      exact ih hnd.2 hx
theorem isDirty_iff {P : APool} (hnd : (P.frames.map fun p => p.2.page).Nodup) (n : Nat) : isDirty P n = true ↔ ∃ p ∈ P.frames, p.2.page = n ∧ p.2.dirty = true := by
  constructor
  · intro h
    unfold isDirty at h
    split at h
    · rename_i x hx
      refine ⟨x, List.mem_of_find?_eq_some hx, ?_, h⟩
      have := List.find?_some hx
      simp at this
      omega
    · cases h
  · rintro ⟨p, hp, rfl, hd⟩
    unfold isDirty
    rw [find_nodup hnd hp]
    exact hd
theorem dirty_same {P : APool} (hnd : (P.frames.map fun p => p.2.page).Nodup) (hlt : ∀ p ∈ P.frames, p.2.page < 120) : dirtyOf P = dirtyR P 120 := by
  have hR : (dirtyR P 120).Pairwise (fun a b => a < b) := by
    unfold dirtyR
    rw [List.pairwise_map]
    exact List.Pairwise.imp (fun h => by omega) (List.Pairwise.filter _ List.pairwise_lt_range)
  have hRn : (dirtyR P 120).Nodup := List.Pairwise.imp (fun h => by omega) hR
  have hDn : ((dirtyL P.frames).map fun p => (p.2.page : Int)).Nodup := by
    have h1 : ((dirtyL P.frames).map fun p => p.2.page).Nodup := List.Nodup.sublist (List.Sublist.map _ List.filter_sublist) hnd
    have h2 : ((dirtyL P.frames).map fun p => (p.2.page : Int)) = ((dirtyL P.frames).map fun p => p.2.page).map fun n : Nat => (n : Int) := by rw [List.map_map]; rfl
    rw [h2]
    unfold List.Nodup at h1 ⊢
    rw [List.pairwise_map]
    exact h1.imp fun h e => h (by omega)
  unfold dirtyOf sortI
  refine List.Perm.eq_of_pairwise (le := fun a b => decide (a ≤ b) = true) (fun a b _ _ h1 h2 => by simp only [decide_eq_true_eq] at h1 h2; omega) (List.pairwise_mergeSort (fun a b c h1 h2 => by simp at *; omega) (fun a b => by simp; omega) _) (hR.imp fun h => by simp; omega) ?_
  refine (List.mergeSort_perm _ _).trans ?_
  rw [List.perm_ext_iff_of_nodup hDn hRn]
  intro a
  unfold dirtyR dirtyL
  simp only [List.mem_map, List.mem_filter, List.mem_range]
  constructor
  · rintro ⟨p, ⟨hp, hd⟩, rfl⟩
    exact ⟨p.2.page, ⟨hlt p hp, (isDirty_iff hnd _).2 ⟨p, hp, rfl, hd⟩⟩, rfl⟩
  · rintro ⟨n, ⟨hn, hd⟩, rfl⟩
    obtain ⟨p, hp, rfl, hd2⟩ := (isDirty_iff hnd n).1 hd
    exact ⟨p, ⟨hp, hd2⟩, rfl⟩

/-- What holds in front of the next page of the specification's Clean. -/
structure RCleaning (w0 wr : World) (b : Nat) (rp : Nat) (fo : Option Nat) (P : APool) (U : Used) (m : Nat) : Prop where
  sys : ∃ ow, RSys w0 wr b ow rp fo U.A U.T U.P
  alike : Alike P U.P
  pages : U.P.frames.map (fun p => p.2.page) = P.frames.map fun p => p.2.page
  ok : ∀ p ∈ U.P.frames, FrameOk p.2
  lim : Lim U.A m
  up : U.A.down = false
  zero : U.e = 0
def RCleanBack (w0 : World) (b : Nat) (rp : Nat) (fo : Option Nat) (U : Used) (w : World) (e : Ending) (w' : World) : Prop :=
  ∃ ow', e = .returned (.int .i64 U.e) ∧ RSys w0 w' b ow' rp fo U.A U.T U.P ∧ Only refT w w'
theorem setF_pages {P : APool} {x : Nat × AFrame} {g : AFrame} (hnd : (P.frames.map (·.1)).Nodup) (hx : x ∈ P.frames) (hg : g.page = x.2.page) : (setF P x.1 g).frames.map (fun p => p.2.page) = P.frames.map fun p => p.2.page := by
  unfold setF
  simp only [List.map_map]
  apply List.map_congr_left
  intro p hp
  simp only [Function.comp]
  split
  · rename_i e
    have : p = x := nodup_eq hnd hp hx e
    rw [this]
    exact hg
  · rfl
theorem outF_page {A : ADisk} {T : ATape} {f : AFrame} : (outF A T f).page = f.page := by
  unfold outF
  split <;> rfl
theorem dirtyOf_mem {P : APool} {n : Int} (h : n ∈ dirtyOf P) : ∃ p ∈ P.frames, (p.2.page : Int) = n := by
  unfold dirtyOf sortI at h
  have h2 := (List.mergeSort_perm _ _).mem_iff.1 h
  unfold dirtyL at h2
  simp only [List.mem_map, List.mem_filter] at h2
  obtain ⟨p, ⟨hp, _⟩, e⟩ := h2
  exact ⟨p, hp, e⟩

set_option maxHeartbeats 1600000 in
set_option maxRecDepth 100000 in
theorem refClean_any (w0 : World) (b : Nat) (ow : Option Nat) (rp : Nat) (fo : Option Nat) (R : ADisk) (T : ATape) (P : APool) (m : Nat) (w : World) (S : RSys w0 w b ow rp fo R T P) (hl : P.frames.length ≤ 16) (hnd : (P.frames.map (·.1)).Nodup) (hpn : (P.frames.map fun p => p.2.page).Nodup) (ok : ∀ p ∈ P.frames, FrameOk p.2) (hd : R.down = false) (L : Lim R m) (hm : m ≤ 50000) :
    Calls Tryz.prog 32 #[.pointer (some ⟨rp, 0, none⟩)] w (RCleanBack w0 b rp fo (cleanU R T P) w) := by
  obtain ⟨p, c, hc, hf, -, -⟩ := rsys_open S
  unfold rpCells at hc
  have HS := hid S
  have hdk := S.disk
  have HDL : Hid ((dirtyOf P).length ≤ 16) := hid (Nat.le_trans (dirtyOf_length P) hl)
  have HSAME := hid (dirty_same hpn (fun p hp => (ok p hp).page))
  have C0 : Hid (RCleaning w0 w b rp fo P ⟨0, R, T, P⟩ m) := hid ⟨⟨ow, S⟩, Alike.refl P, rfl, ok, L, hd, rfl⟩
  obtain ⟨U, hU⟩ : ∃ U, cleanU R T P = U := ⟨_, rfl⟩
  obtain ⟨l, hdl⟩ : ∃ l, dirtyOf P = l := ⟨_, rfl⟩
  have hu := hU
  unfold cleanU at hu
  rw [hdl] at hu HDL HSAME
  rw [hU]
  have HU := hid hu
  have HDD := hid hdl
  have HND := hid hnd
  clear S ok L hU hu hdl hnd hpn
  go_enter Tryz.func32, Tryz.ntmps32
  go_wp2_with fail
  refine (refDown_any b ow R _ hdk).mono ?_
  rintro e w' ⟨rfl, rfl⟩
  rw [hd]
  go_wp2_with fail
  refine (refDirty_any w0 b ow rp fo R T P _ HS.out (by omega)).mono ?_
  rintro e w1 ⟨v1, rfl, hi1, n1⟩
  rw [← HSAME.out] at hi1
  obtain ⟨vp, vc, rfl⟩ := own_len hi1
  have C1 : Hid (RCleaning w0 w1 b rp fo P ⟨0, R, T, P⟩ m) := hid { C0.out with sys := ⟨ow, HS.out.newer n1⟩ }
  have O1 : Hid (Only refT w w1) := hid (Only.of_new n1)
  have OWN := hid hi1
  clear hdk hc hf n1 hi1 hd
  go_wp2
  go_loopw [4, 5] (fun i _ wr => ∃ j : Nat, j ≤ l.length ∧ i = .int .i64 j ∧ Hid (Only refT w wr) ∧ Hid (wr.ownsRow w.heap.size 3 1 (.slice vp l.length vc) l.length (l.map fun n : Int => Value.int .i64 n)) ∧ Hid (RCleaning w0 wr b rp fo P (outs (l.take j) R T P) (m + 2 * j))) (fun i _ _ => l.length - (intOf i).toNat)
  case atStart => exact ⟨0, Nat.zero_le _, rfl, O1, OWN, by simpa [outs] using C1⟩
  case round =>
    obtain ⟨j, hj, rfl, hon, hown, hcl⟩ := hrel
    have q9 : l.length ≤ 16 := HDL.out
    by_cases hlt : j < l.length
    · obtain ⟨g, cap, e, _, hg⟩ := hown.out.form (by omega)
      injection e with e1 e8 e9
      subst e1
      clear e8 e9
      have d0 := hown.out.cellAt j (by omega)
      rw [List.getElem?_map, List.getElem?_eq_getElem hlt] at d0
      simp only [Option.map_some] at d0
      have HTK : Hid (outs (l.take (j + 1)) R T P = outU (outs (l.take j) R T P).A (outs (l.take j) R T P).T (outs (l.take j) R T P).P l[j]) := hid (by
        rw [← List.take_append_getElem hlt, outs_snoc, if_pos hcl.out.zero])
      have HST : Hid ((outU (outs (l.take j) R T P).A (outs (l.take j) R T P).T (outs (l.take j) R T P).P l[j]).e ≠ 0 → outs l R T P = outU (outs (l.take j) R T P).A (outs (l.take j) R T P).T (outs (l.take j) R T P).P l[j]) := hid fun h => by
        have e1 : l = l.take (j + 1) ++ l.drop (j + 1) := (List.take_append_drop _ _).symm
        have e2 := outs_stuck (l.take (j + 1)) (l.drop (j + 1)) R T P (by rw [HTK.out]; exact h)
        rw [← e1] at e2
        rw [e2, HTK.out]
      have HMEM : Hid (∃ p ∈ P.frames, (p.2.page : Int) = l[j]) := hid (dirtyOf_mem (by rw [HDD.out]; exact List.getElem_mem hlt))
      generalize hn : l[j] = n at *
      clear hn
      obtain ⟨V, hV⟩ : ∃ V, outs (l.take j) R T P = V := ⟨_, rfl⟩
      rw [hV] at HTK HST hcl
      clear hV
      obtain ⟨⟨ow1, hS1⟩, hal, hpg, hok, hlim, hup, hzero⟩ := hcl.out
      have hlenV : V.P.frames.length ≤ 16 := by rw [hal.len]; exact hl
      have hndV : (V.P.frames.map (·.1)).Nodup := by rw [hal.blocks]; exact HND.out
      obtain ⟨i, x, hi, hx, hf1, hf2, hpx⟩ : ∃ i x, i < V.P.frames.length ∧ V.P.frames[i]? = some x ∧ V.P.frames.find? (fun p => decide ((p.2.page : Int) = n)) = some x ∧ findN V.P.frames n = (i : Int) ∧ (x.2.page : Int) = n := by
        rcases find_case V.P.frames n with ⟨h1, _⟩ | h
        · exfalso
          obtain ⟨q, hq, e⟩ := HMEM.out
          have : q.2.page ∈ V.P.frames.map fun p => p.2.page := by rw [hpg]; exact List.mem_map.2 ⟨q, hq, rfl⟩
          obtain ⟨q2, hq2, e2⟩ := List.mem_map.1 this
          have := List.find?_eq_none.1 h1 q2 hq2
          simp at this
          omega
        · exact h
      have hxm : x ∈ V.P.frames := List.mem_of_getElem? hx
      have hip : isP n = true := by
        have := (hok x hxm).page
        unfold isP
        simp
        omega
      have hou : outU V.A V.T V.P n = ⟨outE V.A V.T x.2, outA V.A V.T x.2, outT V.A V.T x.2, setI V.P i (outF V.A V.T x.2)⟩ := by
        unfold outU
        rw [hip, hup, hf1]
        simp only [if_true, Bool.false_eq_true, if_false]
        rw [setF_setI hndV hx]
      have hal2 := hal.trans (outU_alike V.A V.T V.P n)
      have hok2 := outU_ok (A := V.A) (T := V.T) (n := n) hok
      have hlim2 := outU_lim (T := V.T) (P := V.P) (n := n) hlim
      have hpg2 : (setI V.P i (outF V.A V.T x.2)).frames.map (fun p => p.2.page) = P.frames.map fun p => p.2.page := by
        rw [← setF_setI hndV hx, setF_pages hndV hxm outF_page]
        exact hpg
      have HUP2 : Hid (outE V.A V.T x.2 = 0 → (outA V.A V.T x.2).down = false) := hid fun h => out_up h hup
      have HS1 := hid hS1
      have HOKX := hid (hok x hxm)
      have HLIM := hid hlim
      have HUP := hid hup
      have HI := hid (And.intro hi hx)
      have HPG2 := hid hpg2
      rw [hou] at HTK HST hal2 hok2 hlim2
      have HAL2 := hid hal2
      have HOK2 := hid hok2
      have HLIM2 := hid hlim2
      have HLV := hid hlenV
      obtain ⟨pr, pc, hcr, hfr, -, -⟩ := rsys_open hS1
      clear hcl hS1 hal hpg hok hlim hzero hou hal2 hok2 hlim2 hpg2 hndV hlenV hxm hip hpx hf1 hi hx hup hcr hfr
      go_wp2_with fail
      refine (refFind_any w0 b ow1 rp fo V.A V.T V.P n _ HS1.out (by have := HLV.out; omega)).mono ?_
      rintro e w' ⟨rfl, rfl⟩
      rw [hf2]
      go_wp2_with fail
      refine (refOut_any w0 b ow1 rp fo V.A V.T V.P i x (m + 2 * j) _ HS1.out (by have := HLV.out; omega) HI.out.1 HI.out.2 HOKX.out HUP.out HLIM.out (by omega)).mono ?_
      rintro e w2 ⟨ow2, rfl, hS2, ht2, -⟩
      have HON2 := hid (hon.out.trans (HS1.out.only ht2))
      have HOWN2 : Hid (w2.ownsRow w.heap.size 3 1 (.slice (some ⟨g, 0, none⟩) l.length vc) l.length (l.map fun n : Int => Value.int .i64 n)) := hid (own_only hown.out (HS1.out.only ht2) (by simp [refT]))
      have HS2 := hid hS2
      clear hS2 ht2 d0 hf2
      by_cases h0 : outE V.A V.T x.2 = 0
      · have q0 : (outE V.A V.T x.2 == 0) = true := by simpa using h0
        have q1 : (outE V.A V.T x.2 != 0) = false := by simpa using h0
        have HZ := hid h0
        clear h0
        go_wp2
        go_roundw
        case rel => exact ⟨j + 1, by omega, by go_num, HON2, HOWN2, hid (by rw [HTK.out]; exact ⟨⟨ow2, HS2.out⟩, HAL2.out, HPG2.out, HOK2.out, HLIM2.out, HUP2.out HZ.out, HZ.out⟩)⟩
        case measure => simp [intOf]; omega
      · have q0 : (outE V.A V.T x.2 == 0) = false := by simpa using h0
        have q1 : (outE V.A V.T x.2 != 0) = true := by simpa using h0
        have hu := HU.out
        have hst := HST.out h0
        rw [hst, if_neg h0] at hu
        have HU2 := hid hu
        clear hu hst h0
        go_wp2
        go_ret
        rw [← HU2.out]
        exact ⟨ow2, rfl, HS2.out, HON2.out⟩
    · obtain rfl : j = l.length := by omega
      rw [List.take_length] at hcl
      obtain ⟨V, hV⟩ : ∃ V, outs l R T P = V := ⟨_, rfl⟩
      have hu := HU.out
      rw [hV] at hcl hu
      rw [if_pos hcl.out.zero] at hu
      have HU2 := hid hu
      obtain ⟨⟨ow1, hS1⟩, hal, hpg, hok, hlim, hup, hzero⟩ := hcl.out
      have HS1 := hid hS1
      have HLIM := hid hlim
      obtain ⟨p3, c3, hc3, hf3, -, -⟩ := rsys_open hS1
      unfold rpCells at hc3
      clear hu hV hcl hS1 hal hpg hok hlim hup hzero hown
      go_wp2_with fail
      refine (refFlush_any b ow1 V.A _ HS1.out.disk (by have := HLIM.out.falls; omega) (by have := HLIM.out.acts; omega) (by have := HLIM.out.waits; omega)).mono ?_
      intro e w2 hm2
      obtain ⟨ow2, he2, hS2, ht2, -⟩ := HS1.out.moved hm2
      subst he2
      have HS2 := hid hS2
      have HON2 := hid (hon.out.trans (HS1.out.only ht2))
      clear hm2 hS2 ht2
      go_wp2
      go_ret
      rw [← HU2.out]
      exact ⟨ow2, rfl, HS2.out, HON2.out⟩
end Go.Proofs.YtdccbceaajnajaaGreat
