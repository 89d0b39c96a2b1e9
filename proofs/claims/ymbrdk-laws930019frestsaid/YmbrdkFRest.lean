import Derived.Test.YmbrdkFLines
set_option linter.unusedSimpArgs false
set_option linter.unusedVariables false
namespace Go.Proofs.Ymbrdk
open Go.RowKit

theorem Strss.firstR {w : World} {a : Option Addr} {len cap : Nat} {L : List (List ByteArray)} (h : Strss w a len cap L) (hp : 0 < len) :
    ∃ b off a' len' cap' ss, a = some ⟨b, off, none⟩ ∧ L[0]? = some ss ∧ b < w.heap.size ∧ w.cell? ⟨b, off, none⟩ = some (.slice a' len' cap') ∧ Strs w a' len' cap' ss := by
  obtain ⟨b, off, a', len', cap', ss, ha, hs, hb, hc, hS⟩ := h.nth 0 hp
  exact ⟨b, off, a', len', cap', ss, ha, hs, hb, by simpa using hc, hS⟩

theorem Strs.end0 {w : World} {a : Option Addr} {len cap : Nat} {ss : List ByteArray} (h : Strs w a len cap ss) : Strs w a 0 0 (ss.drop len) := by
  have e : ss.drop len = [] := List.drop_of_length_le (by rw [h.hlen]; exact Nat.le_refl _)
  rw [e]
  exact ⟨rfl, Nat.le_refl _, Nat.zero_le _, fun s hs => by (cases hs), fun h => absurd h (Nat.lt_irrefl _), Cells.nil _ _⟩

theorem wrap_first {width : Int} {l : List ByteArray} {R : List (List ByteArray)} (hG : GP (l :: R) width (l :: R).length) (hf : ∀ s ∈ l, (s.size : Int) ≤ width) : wrapL width l = [l] := by
  obtain ⟨h1, h2⟩ := wrapL_spec width l hf
  exact greedy_unique _ _ h1 (GP.one hG.head.1 hG.head.2) (by rw [h2]; simp)
theorem wrap_rest {width : Int} {l : List ByteArray} {R : List (List ByteArray)} (hG : GP (l :: R) width (l :: R).length) (hf : ∀ s ∈ R.flatten, (s.size : Int) ≤ width) : wrapL width R.flatten = R := by
  obtain ⟨h1, h2⟩ := wrapL_spec width R.flatten hf
  exact greedy_unique _ _ h1 hG.tail h2

set_option maxHeartbeats 6000000 in
theorem fRest_walk (a0 : Option Addr) (len0 cap0 : Nat) (z0 : List ByteArray) (a1 : Int) (w : World) (w0 : Strs w a0 len0 cap0 z0) (w1 : (Lit.int .u8 a1).wf = true) :
    Calls Ydkm.prog 8 #[.slice a0 len0 cap0, .int .u8 a1] w fun e w' => e = .returned (.bool true) ∧ Below w.heap.size w w' := by
  obtain ⟨hb1, hb2⟩ := bounds_u8 w1
  clear w1
  have hle := w0.le
  have hmx := w0.max
  have hl := hide w0.hlen
  unfold maxLen at hmx
  by_cases hbig : 4096 < len0
  · go_enter Ydkm.func8, Ydkm.ntmps8
    go_wp2
    go_ret
    exact ⟨rfl, Below.refl _ _⟩
  obtain ⟨r, hr, hr5⟩ : ∃ r : Nat, a1 % 32 = (r : Int) ∧ r < 32 := ⟨(a1 % 32).toNat, by omega, by omega⟩
  go_enter Ydkm.func8, Ydkm.ntmps8
  go_wp2_with fail
  refine (flongest_any _ _ _ z0 _ w0).mono ?_
  rintro e w' ⟨⟨m, rfl, hlong, hm63⟩, hw⟩
  obtain rfl := hw.symm
  by_cases hm : 1048576 < m
  · clear hlong
    go_wp2
    go_ret
    exact ⟨rfl, Below.refl _ _⟩
  have HLG := hide hlong
  clear hlong
  go_wp2_with fail
  refine (wrap_any _ _ _ z0 _ _ w0 (by omega) (by omega) (by omega)).mono ?_
  rintro e x1 ⟨⟨v, rfl, hfit, hwr⟩ | ⟨-, s, hs, hgt⟩, hbx⟩
  rotate_left
  · have := (unhide HLG).1 s hs; omega
  obtain ⟨hGP, hflat⟩ := wrapL_spec _ _ hfit
  generalize wrapL ((m : Int) + (r : Int)) z0 = L at *
  obtain ⟨a7, cap7, rfl, hS7, -⟩ := hwr.strss (fun l h s hs => w0.sz s (mem_of_flat hflat l h s hs))
  have hS0 := w0.below hbx
  have hle7 := hS7.le
  have hmx7 := hS7.max
  unfold maxLen at hmx7
  clear hwr
  by_cases hl0 : len0 < 1
  · have hz : z0 = [] := List.eq_nil_of_length_eq_zero (by have := unhide hl; omega)
    obtain rfl : L = [] := hGP.nil_of_flat (by rw [hflat, hz])
    have hq : (([] : List (List ByteArray)).length : Int) = 0 := rfl
    clear hGP hflat hfit hz
    go_wp2
    go_ret
    exact ⟨rfl, hbx⟩
  obtain ⟨l0, R, rfl⟩ : ∃ l0 R, L = l0 :: R := by
    cases L with
    | nil =>
      exfalso
      have h0 : z0 = [] := by simpa using hflat.symm
      have h1 := unhide hl
      rw [h0] at h1
      simp at h1
      omega
    | cons l R => exact ⟨l, R, rfl⟩
  have hz0e : z0 = l0 ++ R.flatten := by rw [← hflat]; simp
  have htake : z0.take l0.length = l0 := by rw [hz0e]; simp
  have hdrop : z0.drop l0.length = R.flatten := by rw [hz0e]; simp
  have hnl : l0.length ≤ len0 := by have h1 := unhide hl; rw [hz0e, List.length_append] at h1; omega
  have hnp : 0 < l0.length := List.length_pos_iff.2 hGP.head.1
  obtain ⟨b7, off7, a8, n, cap8, ss8, rfl, hss8, hbl8, hc8, hS8⟩ := hS7.firstR (by simp)
  obtain rfl : ss8 = l0 := by simpa using hss8.symm
  have hn8 := hS8.hlen
  rw [hn8] at htake hdrop hnl hnp
  have HW2 : Hid (wrapL ((m : Int) + (r : Int)) (z0.take n) = [ss8]) := by
    show _ = _
    rw [htake]
    exact wrap_first hGP (fun s hs => hfit s (by rw [hz0e]; exact List.mem_append_left _ hs))
  have HW3 : Hid (wrapL ((m : Int) + (r : Int)) (z0.drop n) = R) := by
    show _ = _
    rw [hdrop]
    exact wrap_rest hGP (fun s hs => hfit s (by rw [hz0e]; exact List.mem_append_right _ hs))
  have HRM : Hid (∀ l ∈ R, ∀ s ∈ l, s ∈ z0) := fun l hl' s hs => by rw [hz0e]; exact List.mem_append_right _ (List.mem_flatten.2 ⟨l, hl', hs⟩)
  have HLM : Hid (∀ s ∈ ss8, s ∈ z0) := fun s hs => by rw [hz0e]; exact List.mem_append_left _ hs
  have HBAD : Hid (∃ s ∈ z0, (m : Int) - 1 < s.size) := by
    rcases (unhide HLG).2 with h | ⟨s, hs, h⟩
    · obtain ⟨s, hs⟩ : ∃ s, s ∈ z0 := by
        cases z0 with
        | nil => have := unhide hl; simp at this; omega
        | cons s t => exact ⟨s, by simp⟩
      exact ⟨s, hs, by omega⟩
    · exact ⟨s, hs, by omega⟩
  have HN8 := hide hn8
  clear hss8 htake hdrop hz0e hGP hflat hfit hn8
  generalize hN : (ss8 :: R).length = N at *
  have HN := hide hN
  have hNp : 0 < N := by rw [← hN]; simp
  clear hN
  have hq1 : ((len0 : Int) == 0) = false := beq_eq_false_iff_ne.2 (by omega)
  have hq2 : ((N : Int) == 0) = false := beq_eq_false_iff_ne.2 (by omega)
  have hq3 : ((n : Int) == 0) = false := beq_eq_false_iff_ne.2 (by omega)
  have hT2 := hS0.takeTo n (by omega)
  have hq4 : ((n : Int)).toNat = n := by omega
  go_wp2_with fail
  refine (wrap_any _ _ _ (z0.take n) _ _ hT2 (by omega) (by omega) (by omega)).mono ?_
  rintro e x2 ⟨⟨v2, rfl, hfit2, hwr2⟩ | ⟨-, s, hs, hgt⟩, hbx2⟩
  rotate_left
  · have := (unhide HLG).1 s (List.mem_of_mem_take hs); omega
  rw [unhide HW2] at hwr2
  obtain ⟨a6, cap6, rfl, hS6, -⟩ := hwr2.strss (fun l h s hs => w0.sz s (by simp at h; subst h; exact unhide HLM s hs))
  obtain ⟨b6, off6, a66, n6, cap66, ss6, rfl, hss6, hbl6, hc6, hS66⟩ := hS6.firstR (by simp)
  obtain rfl : ss6 = ss8 := by simpa using hss6.symm
  obtain rfl : n6 = n := by have h1 := hS66.hlen; have h2 := unhide HN8; omega
  have hle6 := hS6.le
  have hmx6 := hS6.max
  unfold maxLen at hmx6
  have hq5 : (([ss6] : List (List ByteArray)).length : Int) = 1 := rfl
  have hq6 : ((([ss6] : List (List ByteArray)).length : Int) != 1) = false := rfl
  have hS88 := hS8.below hbx2
  have HS4 := hide (fun nn => hS66.below (below_drewN (Below.refl _ _) nn))
  have HS5 := hide (fun nn => hS88.below (below_drewN (Below.refl _ _) nn))
  have hc8' : x2.cell? ⟨b7, off7, none⟩ = some (.slice a8 n6 cap8) := (hbx2.cell (p := ⟨b7, off7, none⟩) hbl8).trans hc8
  clear hss6 hfit2 hwr2 hT2 hS66 hS88 hS6 hS8 hc8
  generalize hone : ([ss6] : List (List ByteArray)).length = one at *
  have hone1 : one = 1 := by rw [← hone]; rfl
  subst hone1
  clear hone hq5 hq6
  have hi7 : (0 : Int) < (N : Int) := by omega
  go_wp2_with fail
  go_quiet ((go_at_call 19; exact Calls.quiet_of (fsame_yes _ _ _ _ _ ss6 _ (unhide HS4 _) (unhide HS5 _))))
  have hbA := below_drewN (hbx.trans (hbx2.mono hbx.size)) nq
  have hS0b := (hS0.below hbx2).below (below_drewN (Below.refl _ _) nq)
  have hS7b := (hS7.below hbx2).below (below_drewN (Below.refl _ _) nq)
  generalize x2.drewN nq = X at *
  clear hS0 hS7 hc8' hbx hbx2 HS4 HS5
  obtain ⟨b0, off0, rfl⟩ := hS0b.form (by omega)
  by_cases hcap : n6 < cap0
  · skip
    go_wp2_with fail
    refine (wrap_any _ _ _ (z0.drop n6) _ _ (hS0b.dropTo n6 (by omega)) (by omega) (by omega) (by omega)).mono ?_
    rintro e x3 ⟨⟨v3, rfl, hfit3, hwr3⟩ | ⟨-, s, hs, hgt⟩, hbx3⟩
    rotate_left
    · have := (unhide HLG).1 s (List.mem_of_mem_drop hs); omega
    rw [unhide HW3] at hwr3
    obtain ⟨a9, cap9, rfl, hS9, -⟩ := hwr3.strss (fun l h s hs => w0.sz s (unhide HRM l h s hs))
    have hle9 := hS9.le
    have hmx9 := hS9.max
    unfold maxLen at hmx9
    clear hfit3 hwr3
    have hbX := hbA.trans (hbx3.mono hbA.size)
    have hS0c := hS0b.below hbx3
    have hS7c := hS7b.below hbx3
    clear hS0b hS7b hbA hbx3
    have hneR : ((R.length : Int) != (N : Int) - 1) = false := by have := unhide HN; simp; simp at this; omega
    generalize hRl : R.length = NR at *
    have HRL := hide hRl
    clear hRl
    have hNR : NR + 1 = N := by have h1 := unhide HN; have h2 := unhide HRL; simp at h1; omega
    go_wp2
    go_loopw [103] (fun i wr => ∃ (k : Nat), k ≤ NR ∧ i = .int .i64 k ∧ Below x3.heap.size x3 wr) (fun i _ => NR - (intOf i).toNat)
    case atStart => exact ⟨0, Nat.zero_le _, rfl, Below.refl _ _⟩
    case round =>
      obtain ⟨k, hk, rfl, hbr⟩ := hrel
      by_cases hlt : k < NR
      · obtain ⟨b4, off4, a4, len4, cap4, ss4, ha4, hss4, hbl4, hc4, hS4⟩ := (hS9.below hbr).nth k hlt
        obtain ⟨b5, off5, a5, len5, cap5, ss5, ha5, hss5, hbl5, hc5, hS5⟩ := (hS7c.below hbr).nth (k + 1) (by omega)
        first | subst ha4 | (simp at ha4; obtain ⟨rfl, rfl⟩ := ha4)
        first | subst ha5 | (simp at ha5; obtain ⟨rfl, rfl⟩ := ha5)
        obtain rfl : ss5 = ss4 := by
          have h5 : (ss6 :: R)[k + 1]? = R[k]? := by simp
          rw [h5, hss4] at hss5
          exact (Option.some.inj hss5).symm
        obtain rfl : len5 = len4 := by have h1 := hS4.hlen; have h2 := hS5.hlen; omega
        have HS4 := hide (fun nn => hS4.below (below_drewN (Below.refl _ _) nn))
        have HS5 := hide (fun nn => hS5.below (below_drewN (Below.refl _ _) nn))
        clear hss4 hss5 hS4 hS5
        have hi1 : (0 : Int) ≤ (k : Int) := by omega
        have hi2 : (k : Int) < (NR : Int) := by omega
        have hi3 : (0 : Int) ≤ (k : Int) + 1 := by omega
        have hi4 : (k : Int) + 1 < (N : Int) := by omega
        have hi5 : ((k : Int) + 1).toNat = k + 1 := by omega
        go_wp2_with fail
        go_quiet ((go_at_call 19; exact Calls.quiet_of (fsame_yes _ _ _ _ _ ss5 _ (unhide HS4 _) (unhide HS5 _))))
        go_wp2
        go_roundw
        case rel => exact ⟨k + 1, by omega, by go_num, below_drewN hbr _⟩
        case measure => simp [intOf]; omega
      · have hS0d := hS0c.below hbr
        have hbY := hbX.trans (hbr.mono hbX.size)
        clear hS0c
        go_wp2_with fail
        refine (wrap_any _ _ _ z0 _ _ hS0d (by omega) (by omega) (by omega)).mono ?_
        rintro e x5 ⟨⟨v5, rfl, hfit5, hwr5⟩ | ⟨rfl, -⟩, hbx5⟩
        · exfalso
          obtain ⟨s, hs, hgt⟩ := unhide HBAD
          have := hfit5 s hs
          omega
        · have HB := hide (hbY.trans (hbx5.mono hbY.size))
          have hnl := Go.Lib.run_eql_slice_nil (P := Ydkm.prog) x5 29 22 .none 0 0 0 0 Ydkm.underlying29
          clear hbY hbx5
          go_wp2
          go_ret
          exact ⟨rfl, unhide HB⟩
  · obtain rfl : len0 = n6 := by omega
    obtain rfl : cap0 = len0 := by omega
    go_wp2_with fail
    refine (wrap_any _ _ _ (z0.drop cap0) _ _ hS0b.end0 (by omega) (by omega) (by omega)).mono ?_
    rintro e x3 ⟨⟨v3, rfl, hfit3, hwr3⟩ | ⟨-, s, hs, hgt⟩, hbx3⟩
    rotate_left
    · have := (unhide HLG).1 s (List.mem_of_mem_drop hs); omega
    rw [unhide HW3] at hwr3
    obtain ⟨a9, cap9, rfl, hS9, -⟩ := hwr3.strss (fun l h s hs => w0.sz s (unhide HRM l h s hs))
    have hle9 := hS9.le
    have hmx9 := hS9.max
    unfold maxLen at hmx9
    clear hfit3 hwr3
    have hbX := hbA.trans (hbx3.mono hbA.size)
    have hS0c := hS0b.below hbx3
    have hS7c := hS7b.below hbx3
    clear hS0b hS7b hbA hbx3
    have hneR : ((R.length : Int) != (N : Int) - 1) = false := by have := unhide HN; simp; simp at this; omega
    generalize hRl : R.length = NR at *
    have HRL := hide hRl
    clear hRl
    have hNR : NR + 1 = N := by have h1 := unhide HN; have h2 := unhide HRL; simp at h1; omega
    go_wp2
    go_loopw [103] (fun i wr => ∃ (k : Nat), k ≤ NR ∧ i = .int .i64 k ∧ Below x3.heap.size x3 wr) (fun i _ => NR - (intOf i).toNat)
    case atStart => exact ⟨0, Nat.zero_le _, rfl, Below.refl _ _⟩
    case round =>
      obtain ⟨k, hk, rfl, hbr⟩ := hrel
      by_cases hlt : k < NR
      · obtain ⟨b4, off4, a4, len4, cap4, ss4, ha4, hss4, hbl4, hc4, hS4⟩ := (hS9.below hbr).nth k hlt
        obtain ⟨b5, off5, a5, len5, cap5, ss5, ha5, hss5, hbl5, hc5, hS5⟩ := (hS7c.below hbr).nth (k + 1) (by omega)
        first | subst ha4 | (simp at ha4; obtain ⟨rfl, rfl⟩ := ha4)
        first | subst ha5 | (simp at ha5; obtain ⟨rfl, rfl⟩ := ha5)
        obtain rfl : ss5 = ss4 := by
          have h5 : (ss6 :: R)[k + 1]? = R[k]? := by simp
          rw [h5, hss4] at hss5
          exact (Option.some.inj hss5).symm
        obtain rfl : len5 = len4 := by have h1 := hS4.hlen; have h2 := hS5.hlen; omega
        have HS4 := hide (fun nn => hS4.below (below_drewN (Below.refl _ _) nn))
        have HS5 := hide (fun nn => hS5.below (below_drewN (Below.refl _ _) nn))
        clear hss4 hss5 hS4 hS5
        have hi1 : (0 : Int) ≤ (k : Int) := by omega
        have hi2 : (k : Int) < (NR : Int) := by omega
        have hi3 : (0 : Int) ≤ (k : Int) + 1 := by omega
        have hi4 : (k : Int) + 1 < (N : Int) := by omega
        have hi5 : ((k : Int) + 1).toNat = k + 1 := by omega
        go_wp2_with fail
        go_quiet ((go_at_call 19; exact Calls.quiet_of (fsame_yes _ _ _ _ _ ss5 _ (unhide HS4 _) (unhide HS5 _))))
        go_wp2
        go_roundw
        case rel => exact ⟨k + 1, by omega, by go_num, below_drewN hbr _⟩
        case measure => simp [intOf]; omega
      · have hS0d := hS0c.below hbr
        have hbY := hbX.trans (hbr.mono hbX.size)
        clear hS0c
        go_wp2_with fail
        refine (wrap_any _ _ _ z0 _ _ hS0d (by omega) (by omega) (by omega)).mono ?_
        rintro e x5 ⟨⟨v5, rfl, hfit5, hwr5⟩ | ⟨rfl, -⟩, hbx5⟩
        · exfalso
          obtain ⟨s, hs, hgt⟩ := unhide HBAD
          have := hfit5 s hs
          omega
        · have HB := hide (hbY.trans (hbx5.mono hbY.size))
          have hnl := Go.Lib.run_eql_slice_nil (P := Ydkm.prog) x5 29 22 .none 0 0 0 0 Ydkm.underlying29
          clear hbY hbx5
          go_wp2
          go_ret
          exact ⟨rfl, unhide HB⟩
end Go.Proofs.Ymbrdk
