import Derived.Test.YmbrdkFFuncs
set_option linter.unusedSimpArgs false
set_option linter.unusedVariables false
namespace Go.Proofs.Ymbrdk
open Go.RowKit

theorem Strs.firstW {w : World} {a : Option Addr} {len cap : Nat} {ss : List ByteArray} (h : Strs w a len cap ss) (hp : 0 < len) :
    ∃ b off s, a = some ⟨b, off, none⟩ ∧ ss[0]? = some s ∧ s.size ≤ maxLen ∧ b < w.heap.size ∧ w.cell? ⟨b, off, none⟩ = some (.string s) := by
  obtain ⟨b, off, s, ha, hs, hz, hb, hc⟩ := h.nth 0 hp
  exact ⟨b, off, s, ha, hs, hz, hb, by simpa using hc⟩

set_option maxHeartbeats 3000000 in
theorem fGreedy_walk (a0 : Option Addr) (len0 cap0 : Nat) (z0 : List ByteArray) (a1 : Int) (w : World) (w0 : Strs w a0 len0 cap0 z0) (w1 : (Lit.int .u8 a1).wf = true) :
    Calls Ydkm.prog 7 #[.slice a0 len0 cap0, .int .u8 a1] w fun e w' => e = .returned (.bool true) ∧ Below w.heap.size w w' := by
  obtain ⟨hb1, hb2⟩ := bounds_u8 w1
  clear w1
  have hle := w0.le
  have hmx := w0.max
  have hl := hide w0.hlen
  unfold maxLen at hmx
  by_cases hbig : 4096 < len0
  · go_enter Ydkm.func7, Ydkm.ntmps7
    go_wp2
    go_ret
    exact ⟨rfl, Below.refl _ _⟩
  obtain ⟨r, hr, hr5⟩ : ∃ r : Nat, a1 % 32 = (r : Int) ∧ r < 32 := ⟨(a1 % 32).toNat, by omega, by omega⟩
  go_enter Ydkm.func7, Ydkm.ntmps7
  go_wp2_with fail
  refine (flongest_any _ _ _ z0 _ w0).mono ?_
  rintro e w' ⟨⟨m, rfl, hlong, hm63⟩, hw⟩
  obtain rfl := hw.symm
  by_cases hm : 1048576 < m
  · clear hlong
    go_wp2
    go_ret
    exact ⟨rfl, Below.refl _ _⟩
  have HLG := hide hlong
  clear hlong
  go_wp2_with fail
  refine (wrap_any _ _ _ z0 _ _ w0 (by omega) (by omega) (by omega)).mono ?_
  rintro e x1 ⟨⟨v, rfl, hfit, hwr⟩ | ⟨-, s, hs, hgt⟩, hbx⟩
  rotate_left
  · have := (unhide HLG).1 s hs; omega
  obtain ⟨hGP, hflat⟩ := wrapL_spec _ _ hfit
  generalize wrapL ((m : Int) + (r : Int)) z0 = L at *
  obtain ⟨a7, cap7, rfl, hS7, -⟩ := hwr.strss (fun l h s hs => w0.sz s (mem_of_flat hflat l h s hs))
  have hS0 := w0.below hbx
  have hle7 := hS7.le
  have hmx7 := hS7.max
  unfold maxLen at hmx7
  have HGP := hide hGP
  have HFL := hide hflat
  have HFT := hide hfit
  clear hGP hflat hfit hwr
  generalize hN : L.length = N at *
  have HN := hide hN
  clear hN
  go_wp2
  go_loop [9, 10, 38] (fun at_ pv i => ∃ (K A P : Nat), K ≤ N ∧ i = .int .i64 K ∧ at_ = .int .i64 A ∧ pv = .int .i64 P ∧ A ≤ len0 ∧ P ≤ 1048607 ∧ Hid (A = ((L.take K).flatten).length) ∧ Hid (∀ l, 0 < K → L[K - 1]? = some l → P = jlen l)) (fun _ _ i => N - (intOf i).toNat)
  case atStart => exact ⟨0, 0, 0, Nat.zero_le _, rfl, rfl, rfl, Nat.zero_le _, Nat.zero_le _, rfl, fun l h => absurd h (Nat.lt_irrefl _)⟩
  case round =>
    obtain ⟨K, A, P, hK, rfl, rfl, rfl, hA, hP, HA, HP⟩ := hrel
    by_cases hlt : K < N
    · obtain ⟨b, off, a', len', cap', ss, rfl, hss, hbl, hc, hS⟩ := hS7.nth K hlt
      have hsl := hS.hlen
      have hsle := hS.le
      have hsmx := hS.max
      unfold maxLen at hsmx
      obtain ⟨hne, hjl⟩ := (unhide HGP).1 K ss hlt hss
      have hpos : 0 < len' := by rw [← hsl]; exact List.length_pos_iff.2 hne
      obtain ⟨b3, off3, s3, rfl, hs3, -, hbl3, hc3⟩ := hS.firstW hpos
      have hs3z : s3.size ≤ m := by
        refine (unhide HLG).1 s3 ?_
        exact mem_of_flat (unhide HFL) ss (List.mem_of_getElem? hss) s3 (List.mem_of_getElem? hs3)
      have hAl : A + len' ≤ len0 := by
        have h1 := flatTakeLen L (K + 1)
        rw [flatSucc hss, List.length_append, unhide HFL, unhide hl, hsl, ← unhide HA] at h1
        exact h1
      have HSL := hide hsl
      have HSS := hide hss
      clear hsl hss hne
      have hd1 : ((len' : Int) == 0) = false := beq_eq_false_iff_ne.2 (by omega)
      have hbrk : 0 < K → ¬ ((P : Int) + 1 + s3.size ≤ (m : Int) + r) := by
        intro h0 hcon
        obtain ⟨l, hl'⟩ : ∃ l, L[K - 1]? = some l := ⟨L[K-1]'(by have := unhide HN; omega), List.getElem?_eq_getElem _⟩
        have h1 := unhide HP l h0 hl'
        have h2 := (unhide HGP).2 (K - 1) l ss s3 (by omega) hl' (by rw [show K - 1 + 1 = K by omega]; exact unhide HSS) hs3
        omega
      have HS3 := hide hs3
      have HBRK := hide hbrk
      clear hs3 hbrk
      have hjb : szs ss + (len' - 1) ≤ m + r := by have h1 := unhide HSL; unfold jlen at hjl; omega
      have main : ∀ (Q : Prop), Q → Q := fun _ h => h
      by_cases hK0 : K < 1
      · clear main
        go_wp2
        go_loop [9, 13, 73] (fun at_ t i => ∃ (j T : Nat), j ≤ len' ∧ i = .int .i64 j ∧ at_ = .int .i64 ((A + j : Nat) : Int) ∧ t = .int .i64 T ∧ T ≤ m + r ∧ Hid (T = szs (ss.take j) + (len' - 1))) (fun _ _ i => len' - (intOf i).toNat)
        case atStart => exact ⟨0, len' - 1, Nat.zero_le _, rfl, rfl, by congr 1; omega, by omega, by simp [Hid, szs]⟩
        case round =>
          obtain ⟨j, T, hj, rfl, rfl, rfl, hT, HT⟩ := hrel
          by_cases hltj : j < len'
          · obtain ⟨b4, off4, s4, ha4, hs4, -, hbl4, hc4⟩ := hS.nth j hltj
            simp at ha4
            obtain ⟨rfl, rfl⟩ := ha4
            have hfl := flatAt (unhide HSS) hs4
            rw [unhide HFL, ← unhide HA] at hfl
            obtain ⟨b5, off5, s5, rfl, hs5, -, hbl5, hc5⟩ := hS0.nth (A + j) (by omega)
            obtain rfl : s5 = s4 := by rw [hfl] at hs5; exact (Option.some.inj hs5).symm
            have hst := szs_take_succ hs4
            have hsl2 := szs_take_le ss (j + 1)
            have hT2 : T + s5.size ≤ m + r := by have := unhide HT; omega
            have HST := hide hst
            clear hs4 hs5 hfl hst hsl2
            have hi1 : (0 : Int) ≤ (A : Int) + (j : Int) := by omega
            have hi2 : (A : Int) + (j : Int) < (len0 : Int) := by omega
            have hi3 : ((A : Int) + (j : Int)).toNat = A + j := by omega
            go_wp2
            go_round
            case rel => exact ⟨j + 1, T + s5.size, by omega, by go_num, by go_num, by go_num, hT2, by have h1 := unhide HT; have h2 := unhide HST; show _ = _; omega⟩
            case measure => simp [intOf]; omega
          · obtain rfl : j = len' := by omega
            have hTe : Hid (T = jlen ss) := by
              have h1 := unhide HT
              rw [List.take_of_length_le (by have := unhide HSL; omega)] at h1
              show _ = _
              unfold jlen; have := unhide HSL; omega
            have hjl2 : ¬ (m : Int) + r < T := by omega
            go_wp2
            go_round
            case rel =>
              refine ⟨K + 1, A + j, T, by omega, by go_num, by go_num, rfl, by omega, by omega, ?_, fun l _ hl' => ?_⟩
              · have h1 := unhide HA; have h2 := unhide HSL; show _ = _; rw [flatSucc (unhide HSS), List.length_append]; omega
              · have h1 := unhide HSS
                simp at hl'
                rw [hl'] at h1
                obtain rfl := Option.some.inj h1
                exact unhide hTe
            case measure => simp [intOf]; omega
      · have hbr := unhide HBRK (by omega)
        clear main
        go_wp2
        go_loop [9, 13, 73] (fun at_ t i => ∃ (j T : Nat), j ≤ len' ∧ i = .int .i64 j ∧ at_ = .int .i64 ((A + j : Nat) : Int) ∧ t = .int .i64 T ∧ T ≤ m + r ∧ Hid (T = szs (ss.take j) + (len' - 1))) (fun _ _ i => len' - (intOf i).toNat)
        case atStart => exact ⟨0, len' - 1, Nat.zero_le _, rfl, rfl, by congr 1; omega, by omega, by simp [Hid, szs]⟩
        case round =>
          obtain ⟨j, T, hj, rfl, rfl, rfl, hT, HT⟩ := hrel
          by_cases hltj : j < len'
          · obtain ⟨b4, off4, s4, ha4, hs4, -, hbl4, hc4⟩ := hS.nth j hltj
            simp at ha4
            obtain ⟨rfl, rfl⟩ := ha4
            have hfl := flatAt (unhide HSS) hs4
            rw [unhide HFL, ← unhide HA] at hfl
            obtain ⟨b5, off5, s5, rfl, hs5, -, hbl5, hc5⟩ := hS0.nth (A + j) (by omega)
            obtain rfl : s5 = s4 := by rw [hfl] at hs5; exact (Option.some.inj hs5).symm
            have hst := szs_take_succ hs4
            have hsl2 := szs_take_le ss (j + 1)
            have hT2 : T + s5.size ≤ m + r := by have := unhide HT; omega
            have HST := hide hst
            clear hs4 hs5 hfl hst hsl2
            have hi1 : (0 : Int) ≤ (A : Int) + (j : Int) := by omega
            have hi2 : (A : Int) + (j : Int) < (len0 : Int) := by omega
            have hi3 : ((A : Int) + (j : Int)).toNat = A + j := by omega
            go_wp2
            go_round
            case rel => exact ⟨j + 1, T + s5.size, by omega, by go_num, by go_num, by go_num, hT2, by have h1 := unhide HT; have h2 := unhide HST; show _ = _; omega⟩
            case measure => simp [intOf]; omega
          · obtain rfl : j = len' := by omega
            have hTe : Hid (T = jlen ss) := by
              have h1 := unhide HT
              rw [List.take_of_length_le (by have := unhide HSL; omega)] at h1
              show _ = _
              unfold jlen; have := unhide HSL; omega
            have hjl2 : ¬ (m : Int) + r < T := by omega
            go_wp2
            go_round
            case rel =>
              refine ⟨K + 1, A + j, T, by omega, by go_num, by go_num, rfl, by omega, by omega, ?_, fun l _ hl' => ?_⟩
              · have h1 := unhide HA; have h2 := unhide HSL; show _ = _; rw [flatSucc (unhide HSS), List.length_append]; omega
              · have h1 := unhide HSS
                simp at hl'
                rw [hl'] at h1
                obtain rfl := Option.some.inj h1
                exact unhide hTe
            case measure => simp [intOf]; omega
    · have hAe : Hid (A = len0) := by
        have h1 := unhide HA
        rw [List.take_of_length_le (by have := unhide HN; omega), unhide HFL, unhide hl] at h1
        exact h1
      go_wp2
      go_ret
      exact ⟨ret_bool (by rw [unhide hAe]; simp), hbx⟩
end Go.Proofs.Ymbrdk
