import Derived.Test.YmbrdkFFuncs
import Derived.Deep.QuietTactic
import Derived.BigQuiet
set_option linter.unusedSimpArgs false
set_option linter.unusedVariables false
namespace Go.Proofs.Ymbrdk
open Go.RowKit

theorem drewN_add (w : World) (n m : Nat) : (w.drewN n).drewN m = w.drewN (n + m) := World.drewN_drewN _ _ _

set_option maxHeartbeats 800000 in
theorem fsame_yes (a a' : Option Addr) (len cap cap' : Nat) (ss : List ByteArray) (w : World) (hs : Strs w a len cap ss) (hs' : Strs w a' len cap' ss) :
    Calls Ydkm.prog 19 #[.slice a len cap, .slice a' len cap'] w fun e w' => e = .returned (.bool true) ∧ ∃ m, w' = w.drewN m := by
  have hle := hs.le
  have hmx := hs.max
  unfold maxLen at hmx
  have hne : ((len : Int) != (len : Int)) = false := by simp
  go_enter Ydkm.func19, Ydkm.ntmps19
  go_wp2
  go_loopw [13] (fun i wr => ∃ k : Nat, k ≤ len ∧ i = .int .i64 k ∧ Hid (∃ m, wr = w.drewN m)) (fun i _ => len - (intOf i).toNat)
  case atStart => exact ⟨0, Nat.zero_le _, rfl, 0, rfl⟩
  case round =>
    obtain ⟨k, hk, rfl, HW⟩ := hrel
    obtain ⟨m, hm⟩ := unhide HW
    subst hm
    clear HW
    by_cases hlt : k < len
    · obtain ⟨b3, off3, s3, rfl, hs3, -, hbl3, hc3⟩ := hs.nth k hlt
      obtain ⟨b4, off4, s4, ha4, hs4, -, hbl4, hc4⟩ := hs'.nth k hlt
      first | subst ha4 | (simp at ha4; obtain ⟨rfl, rfl⟩ := ha4)
      obtain rfl : s4 = s3 := by rw [hs3] at hs4; exact (Option.some.inj hs4).symm
      clear hs3 hs4
      go_wp2_with fail
      go_quiet (fail)
      go_wp2
      go_roundw
      case rel => exact ⟨k + 1, by omega, by go_num, _, rfl⟩
      case measure => simp [intOf]; omega
    · go_wp2
      go_ret
      exact ⟨rfl, m, rfl⟩

theorem Strs.cutF {w : World} {b off : Nat} {len cap : Nat} {ss : List ByteArray} (h : Strs w (some ⟨b, off, none⟩) len cap ss) (k n : Nat) (hk : k + n ≤ len) : Strs w (some ⟨b, off + k, none⟩) n (cap - k) ((ss.drop k).take n) := by
  have h1 := h.dropTo k (by omega)
  have hle := h.le
  exact h1.takeTo n (by omega)

set_option maxHeartbeats 1600000 in
theorem fend_any (a : Option Addr) (len cap : Nat) (ss : List ByteArray) (t n : Nat) (width : Int) (w : World) (hs : Strs w a len cap ss) (h1 : 1 ≤ n) (h2 : t + n ≤ len) (hw1 : width ≤ 9223372036854775807)
    (h3 : (jlen ((ss.drop t).take n) : Int) ≤ width) (h4 : ∀ s, ss[t + n]? = some s → width < (jlen ((ss.drop t).take n) : Int) + 1 + s.size) :
    Calls Ydkm.prog 18 #[.slice a len cap, .int .i64 t, .int .i64 width] w fun e w' => e = .returned (.int .i64 ((t + n : Nat) : Int)) ∧ w' = w := by
  have hle := hs.le
  have hmx := hs.max
  have HL := hide hs.hlen
  unfold maxLen at hmx
  have hJ : ∀ j, j ≤ n → (jlen ((ss.drop t).take j) : Int) ≤ width := fun j hj => by
    have : jlen ((ss.drop t).take j) ≤ jlen ((ss.drop t).take n) := by
      have e : (ss.drop t).take j = ((ss.drop t).take n).take j := by rw [List.take_take, Nat.min_eq_left hj]
      rw [e]; exact jlen_take_le _ _
    omega
  have HJ := hide hJ
  have H4 := hide h4
  clear hJ h4
  obtain ⟨b, off, s0, rfl, hs0, hz0, hb0, hc0⟩ := hs.nth t (by omega)
  have hd0 : (ss.drop t)[0]? = some s0 := by rw [List.getElem?_drop]; exact hs0
  have e0 := jlen_take_succ hd0
  have hj1 := unhide HJ 1 (by omega)
  have E0 : Hid (jlen ((ss.drop t).take 1) = s0.size) := by
    have e1 : jlen (List.take 0 (ss.drop t)) = 0 := by simp [jlen, szs]
    show _ = _
    rw [e0, e1]; simp
  have hs0w : (s0.size : Int) ≤ width := by have := unhide E0; omega
  unfold maxLen at hz0
  clear hs0 hd0 e0 hj1
  go_enter Ydkm.func18, Ydkm.ntmps18
  go_wp2
  go_loop [7, 8] (fun lf en => ∃ (j E : Nat) (x : Int), 1 ≤ j ∧ j ≤ n ∧ en = .int .i64 E ∧ lf = .int .i64 x ∧ Hid (E = t + j) ∧ E ≤ t + n ∧ 0 ≤ x ∧ x ≤ width ∧ Hid (x = width - jlen ((ss.drop t).take j))) (fun _ en => t + n - (intOf en).toNat)
  case atStart => exact ⟨1, t + 1, _, by omega, by omega, by go_num, rfl, rfl, by omega, by omega, by omega, by have := unhide E0; show _ = _; omega⟩
  case round =>
    obtain ⟨j, E, x, hj1, hjn, rfl, rfl, HE, hEn, hx0, hx1, HX⟩ := hrel
    by_cases hlt : j < n
    · obtain ⟨b', off', s, ha, hss, hsz, hb, hc⟩ := hs.nth E (by have := unhide HE; omega)
      simp at ha
      obtain ⟨rfl, rfl⟩ := ha
      have hds : (ss.drop t)[j]? = some s := by rw [List.getElem?_drop, ← unhide HE]; exact hss
      have hjs := jlen_take_succ hds
      rw [if_neg (by omega)] at hjs
      have hjw := unhide HJ (j + 1) (by omega)
      have hfit : (s.size : Int) ≤ x - 1 := by have := unhide HX; omega
      have HJS := hide hjs
      unfold maxLen at hsz
      have hE1 : E < len := by have := unhide HE; omega
      have hE2 : E + 1 ≤ t + n := by have := unhide HE; omega
      clear hss hds hjs hjw
      go_wp2
      go_round
      case rel => exact ⟨j + 1, E + 1, x - 1 - s.size, by omega, by omega, by go_num, by first | rfl | go_num, by have := unhide HE; show _ = _; omega, by omega, by omega, by omega, by have h1 := unhide HX; have h2 := unhide HJS; show _ = _; omega⟩
      case measure => simp [intOf]; omega
    · obtain rfl : j = n := by omega
      have hEe := unhide HE
      by_cases hend : E < len
      · obtain ⟨b', off', s, ha, hss, hsz, hb, hc⟩ := hs.nth E hend
        simp at ha
        obtain ⟨rfl, rfl⟩ := ha
        have h5 := unhide H4 s (by rw [← hEe]; exact hss)
        have hnf : ¬ (s.size : Int) ≤ x - 1 := by have := unhide HX; omega
        have HEE := hide hEe
        unfold maxLen at hsz
        clear hss h5 hEe
        go_wp2
        go_ret
        exact ⟨ret_int (by have := unhide HEE; omega), rfl⟩
      · have HEE := hide hEe
        have hnd : decide ((E : Int) < (len : Int)) = false := by simp; omega
        clear hEe
        go_wp2
        go_ret
        exact ⟨ret_int (by have := unhide HEE; omega), rfl⟩

theorem line_cut {L : List (List ByteArray)} {z : List ByteArray} {K A : Nat} {ss : List ByteArray} (hf : L.flatten = z) (hs : L[K]? = some ss) (hA : A = ((L.take K).flatten).length) : (z.drop A).take ss.length = ss ∧ z.drop (A + ss.length) = (L.drop (K + 1)).flatten := by
  obtain ⟨hK, rfl⟩ := List.getElem?_eq_some_iff.1 hs
  have e : L = L.take K ++ L[K] :: L.drop (K + 1) := by rw [List.getElem_cons_drop, List.take_append_drop]
  have e2 : z = (L.take K).flatten ++ (L[K] ++ (L.drop (K + 1)).flatten) := by
    rw [← hf]
    conv => lhs; rw [e]
    rw [List.flatten_append, List.flatten_cons]
  have e3 : z.drop A = L[K] ++ (L.drop (K + 1)).flatten := by
    rw [e2, hA]; simp
  refine ⟨by rw [e3]; simp, ?_⟩
  rw [← List.drop_drop, e3]; simp

theorem next_word {L : List (List ByteArray)} {z : List ByteArray} {width : Int} {K A : Nat} {ss : List ByteArray} {s : ByteArray} (hG : GP L width L.length) (hf : L.flatten = z) (hs : L[K]? = some ss) (hA : A = ((L.take K).flatten).length) (hn : z[A + ss.length]? = some s) : width < (jlen ss : Int) + 1 + s.size := by
  have h1 := (line_cut hf hs hA).2
  have h2 : (L.drop (K + 1)).flatten[0]? = some s := by rw [← h1, List.getElem?_drop]; exact hn
  cases hd : L.drop (K + 1) with
  | nil => rw [hd] at h2; simp at h2
  | cons r R =>
    have hr : L[K + 1]? = some r := by
      have := congrArg (fun l => l[0]?) hd
      simp only [List.getElem?_drop] at this
      simpa using this
    have hrl := ltGet hr
    have hne := (hG.1 (K + 1) r hrl hr).1
    rw [hd, List.flatten_cons, List.getElem?_append_left (List.length_pos_iff.2 hne)] at h2
    exact hG.2 K ss r s hrl hs hr h2

set_option maxHeartbeats 3000000 in
theorem fLines_walk (a0 : Option Addr) (len0 cap0 : Nat) (z0 : List ByteArray) (a1 : Int) (w : World) (w0 : Strs w a0 len0 cap0 z0) (w1 : (Lit.int .i64 a1).wf = true) :
    Calls Ydkm.prog 6 #[.slice a0 len0 cap0, .int .i64 a1] w fun e w' => e = .returned (.bool true) ∧ Below w.heap.size w w' := by
  obtain ⟨hb1, hb2⟩ := bounds_i64 w1
  clear w1
  have hle := w0.le
  have hmx := w0.max
  have hl := hide w0.hlen
  unfold maxLen at hmx
  by_cases hbig : 4096 < len0
  · go_enter Ydkm.func6, Ydkm.ntmps6
    go_wp2
    go_ret
    exact ⟨rfl, Below.refl _ _⟩
  go_enter Ydkm.func6, Ydkm.ntmps6
  go_wp2_with fail
  refine (wrap_any _ _ _ z0 _ _ w0 hb2 hb1 (by omega)).mono ?_
  rintro e x1 ⟨⟨v, rfl, hfit, hwr⟩ | ⟨rfl, hbad⟩, hbx⟩
  · obtain ⟨hGP, hflat⟩ := wrapL_spec _ _ hfit
    generalize wrapL a1 z0 = L at *
    obtain ⟨a7, cap7, rfl, hS7, hnn⟩ := hwr.strss (fun l h s hs => w0.sz s (mem_of_flat hflat l h s hs))
    have hS0 := w0.below hbx
    have hle7 := hS7.le
    have hmx7 := hS7.max
    unfold maxLen at hmx7
    have HGP := hide hGP
    have HFL := hide hflat
    have HFT := hide hfit
    have HNN := hide hnn
    clear hGP hflat hfit hwr hnn
    generalize hN : L.length = N at *
    have HN := hide hN
    clear hN
    go_wp2
    go_loop [24] (fun i => ∃ (k : Nat), k ≤ len0 ∧ i = .int .i64 k) (fun i => len0 - (intOf i).toNat)
    case atStart => exact ⟨0, Nat.zero_le _, rfl⟩
    case round =>
      obtain ⟨k, hk, rfl⟩ := hrel
      by_cases hlt : k < len0
      · obtain ⟨b, off, s, rfl, hss, hsz, hb, hc⟩ := hS0.nth k hlt
        have hsw := unhide HFT s (List.mem_of_getElem? hss)
        clear hss
        go_wp2
        go_round
        case rel => exact ⟨k + 1, by omega, by go_num⟩
        case measure => simp [intOf]; omega
      · by_cases hl0 : len0 < 1
        · have ha7 : Hid (a7 = none) := by
            have h1 := unhide HFL
            have h2 : z0 = [] := List.eq_nil_of_length_eq_zero (by have := unhide hl; omega)
            rw [h2] at h1
            exact (unhide HNN).2 ((unhide HGP).mono (k' := L.length) (by have := unhide HN; omega) |>.nil_of_flat h1)
          have hnl := Go.Lib.run_eql_slice_nil (P := Ydkm.prog) x1 29 22 a7 N cap7 0 0 Ydkm.underlying29
          go_wp2
          go_ret
          exact ⟨ret_bool (by rw [unhide ha7]; rfl), hbx⟩
        · have hl0' : ((len0 : Int) == 0) = false := beq_eq_false_iff_ne.2 (by omega)
          go_wp2
          go_loopw [9, 48] (fun at_ i wr => ∃ (K A : Nat), K ≤ N ∧ i = .int .i64 K ∧ at_ = .int .i64 A ∧ A ≤ len0 ∧ Hid (A = ((L.take K).flatten).length) ∧ Below x1.heap.size x1 wr) (fun _ i _ => N - (intOf i).toNat)
          case atStart => exact ⟨0, 0, Nat.zero_le _, rfl, rfl, Nat.zero_le _, rfl, Below.refl _ _⟩
          case round =>
            obtain ⟨K, A, hK, rfl, rfl, hA, HA, hbr⟩ := hrel
            by_cases hltK : K < N
            · obtain ⟨b, off, a', len', cap', ss, rfl, hss, hbl, hc, hS⟩ := (hS7.below hbr).nth K hltK
              have hsl := hS.hlen
              obtain ⟨hne, hjl⟩ := (unhide HGP).1 K ss (by have := unhide HN; omega) hss
              have hpos : 0 < len' := by rw [← hsl]; exact List.length_pos_iff.2 hne
              have hAl : A + len' ≤ len0 := by
                have h1 := flatTakeLen L (K + 1)
                rw [flatSucc hss, List.length_append, unhide HFL, unhide hl, hsl, ← unhide HA] at h1
                exact h1
              obtain ⟨hcut, -⟩ := line_cut (unhide HFL) hss (unhide HA)
              rw [hsl] at hcut
              have hS0r := hS0.below hbr
              have h4 : ∀ s, z0[A + len']? = some s → a1 < (jlen ((z0.drop A).take len') : Int) + 1 + s.size := fun s hs => by
                rw [hcut]
                exact next_word (by rw [unhide HN]; exact unhide HGP) (unhide HFL) hss (unhide HA) (by rw [hsl]; exact hs)
              have hjl' : (jlen ((z0.drop A).take len') : Int) ≤ a1 := by rw [hcut]; exact hjl
              obtain ⟨b0, off0, rfl⟩ := hS0r.form (by omega)
              have hSc := hS0r.cutF A len' hAl
              rw [hcut] at hSc
              have HSS := hide hss
              have HSL := hide hsl
              have HSC := hide hSc
              have H4 := hide h4
              have HJL := hide hjl'
              clear hss hsl hSc h4 hjl' hcut hne
              go_wp2_with fail
              refine (fend_any _ _ _ z0 A len' a1 _ hS0r hpos hAl hb2 (unhide HJL) (unhide H4)).mono ?_
              rintro e w' ⟨rfl, hw⟩
              obtain rfl := hw.symm
              have hi3 : ((A : Int) + (len' : Int)).toNat = A + len' := by omega
              go_wp2_with fail
              refine (fsame_yes _ _ _ _ _ ss _ hS (unhide HSC)).mono ?_
              rintro e w2 ⟨rfl, nd, rfl⟩
              go_wp2
              go_roundw
              case rel =>
                refine ⟨K + 1, A + len', by omega, by go_num, by go_num, by omega, ?_, below_drewN hbr _⟩
                have h1 := unhide HA; have h2 := unhide HSL; show _ = _; rw [flatSucc (unhide HSS), List.length_append]; omega
              case measure => simp [intOf]; omega
            · have hAe : Hid (A = len0) := by
                have h1 := unhide HA
                rw [List.take_of_length_le (by have := unhide HN; omega), unhide HFL, unhide hl] at h1
                exact h1
              have HB := hide (hbx.trans (hbr.mono hbx.size))
              go_wp2
              go_ret
              exact ⟨ret_bool (by rw [unhide hAe]; simp), unhide HB⟩
  · have hS0 := w0.below hbx
    have HBAD := hide hbad
    clear hbad
    have hnl := Go.Lib.run_eql_slice_nil (P := Ydkm.prog) x1 29 22 .none 0 0 0 0 Ydkm.underlying29
    go_wp2
    go_loop [24] (fun i => ∃ (k : Nat), k ≤ len0 ∧ i = .int .i64 k ∧ Hid (∀ (j : Nat) s, j < k → z0[j]? = some s → (s.size : Int) ≤ a1)) (fun i => len0 - (intOf i).toNat)
    case atStart => exact ⟨0, Nat.zero_le _, rfl, fun j s h => absurd h (Nat.not_lt_zero _)⟩
    case round =>
      obtain ⟨k, hk, rfl, HF⟩ := hrel
      by_cases hlt : k < len0
      · obtain ⟨b, off, s, rfl, hss, hsz, hb, hc⟩ := hS0.nth k hlt
        have HS := hide hss
        unfold maxLen at hsz
        clear hss
        by_cases hsw : a1 < (s.size : Int)
        · go_wp2
          go_ret
          exact ⟨rfl, hbx⟩
        · go_wp2
          go_round
          case rel =>
            refine ⟨k + 1, by omega, by go_num, fun j s' hj hs' => ?_⟩
            by_cases hjk : j < k
            · exact unhide HF j s' hjk hs'
            · obtain rfl : j = k := by omega
              have h1 := unhide HS
              rw [hs'] at h1
              obtain rfl := Option.some.inj h1
              omega
          case measure => simp [intOf]; omega
      · exfalso
        obtain ⟨s, hs, hgt⟩ := unhide HBAD
        obtain ⟨j, hj, rfl⟩ := List.getElem_of_mem hs
        have := unhide HF j _ (by have := unhide hl; omega) (List.getElem?_eq_getElem hj)
        omega
end Go.Proofs.Ymbrdk
