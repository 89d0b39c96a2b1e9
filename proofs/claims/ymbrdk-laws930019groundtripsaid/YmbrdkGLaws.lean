import Derived.Test.YmbrdkGFuncs
set_option linter.unusedSimpArgs false
set_option linter.unusedVariables false
namespace Go.Proofs.Ymbrdk
open Go.RowKit

theorem split_head : ∀ (t cur : List UInt8) (y : List UInt8) (rest : List (List UInt8)), splitGo cur t = y :: rest →
    (∃ x c t', t = x ++ c :: t' ∧ c.toNat = 10 ∧ (∀ d ∈ x, d.toNat ≠ 10) ∧ y = cur ++ x ∧ rest = splitGo [] t') ∨ ((∀ d ∈ t, d.toNat ≠ 10) ∧ y = cur ++ t ∧ y ≠ [] ∧ rest = [])
  | [], cur, y, rest, h => by
    rw [splitGo_end] at h
    by_cases hc : cur = []
    · rw [if_pos hc] at h; cases h
    · rw [if_neg hc] at h
      injection h with h1 h2
      subst h1
      exact .inr ⟨fun d hd => (by cases hd), by simp, hc, h2.symm⟩
  | c :: t, cur, y, rest, h => by
    by_cases hc : c.toNat = 10
    · rw [splitGo_nl _ _ _ hc] at h
      injection h with h1 h2
      exact .inl ⟨[], c, t, rfl, hc, fun d hd => (by cases hd), by simp [h1], h2.symm⟩
    · rw [splitGo_other _ _ _ hc] at h
      rcases split_head t (cur ++ [c]) y rest h with ⟨x, c', t', rfl, hc', hx, rfl, hr⟩ | ⟨hx, rfl, hne, hr⟩
      · refine .inl ⟨c :: x, c', t', rfl, hc', fun d hd => ?_, by simp, hr⟩
        rcases List.mem_cons.1 hd with rfl | hd
        · exact hc
        · exact hx d hd
      · refine .inr ⟨fun d hd => ?_, by simp, hne, hr⟩
        rcases List.mem_cons.1 hd with rfl | hd
        · exact hc
        · exact hx d hd
theorem split_empty : ∀ (t cur : List UInt8), splitGo cur t = [] → t = []
  | [], _, _ => rfl
  | c :: t, cur, h => by
    exfalso
    by_cases hc : c.toNat = 10
    · rw [splitGo_nl _ _ _ hc] at h; cases h
    · rw [splitGo_other _ _ _ hc] at h
      have h1 := split_empty t _ h
      subst h1
      rw [splitGo_end, if_neg (by simp)] at h
      cases h

theorem drop_textsG {ps : List ByteArray} {K : Nat} {q : ByteArray} (h : ps[K]? = some q) : (texts ps).drop K = q.data.toList :: (texts ps).drop (K + 1) := by
  have hl : K < (texts ps).length := by rw [texts_length]; exact (List.getElem?_eq_some_iff.1 h).1
  rw [List.drop_eq_getElem_cons hl]
  obtain ⟨hK, rfl⟩ := List.getElem?_eq_some_iff.1 h
  simp [texts]

theorem gare_step {ps : List ByteArray} {s q : ByteArray} {K P : Nat} (hD : (texts ps).drop K = splitGo [] (s.data.toList.drop P)) (hq : ps[K]? = some q) (hP : P ≤ s.size) :
    P + q.size ≤ s.size ∧ (∀ j (hj : j < q.size) (hk : P + j < s.size), q[j] = s[P + j] ∧ q[j].toNat ≠ 10) ∧
    ((P + q.size < s.size ∧ (∀ (hk : P + q.size < s.size), s[P + q.size].toNat = 10) ∧ (texts ps).drop (K + 1) = splitGo [] (s.data.toList.drop (P + q.size + 1))) ∨
      (P + q.size = s.size ∧ 0 < q.size ∧ K + 1 = ps.length)) := by
  have hD' := hD
  rw [drop_textsG hq] at hD'
  have hsl : s.data.toList.length = s.size := by simp
  have hql : q.data.toList.length = q.size := by simp
  have key : ∀ (x : List UInt8) (tl : List UInt8), s.data.toList.drop P = x ++ tl → q.data.toList = x → (∀ d ∈ x, d.toNat ≠ 10) → ∀ j (hj : j < q.size) (hk : P + j < s.size), q[j] = s[P + j] ∧ q[j].toNat ≠ 10 := by
    intro x tl h1 h2 h3 j hj hk
    have e1 : s.data.toList[P + j]? = q.data.toList[j]? := by
      rw [← List.getElem?_drop, h1, h2, List.getElem?_append_left (by rw [← h2, hql]; exact hj)]
    rw [List.getElem?_eq_getElem (by omega), List.getElem?_eq_getElem (by omega)] at e1
    have e2 : q[j] = s[P + j] := (Option.some.inj e1).symm
    refine ⟨e2, h3 _ ?_⟩
    rw [← h2]
    have : q[j] = q.data.toList[j]'(by omega) := rfl
    rw [this]; exact List.getElem_mem _
  rcases split_head _ _ _ _ hD'.symm with ⟨x, c, t', h1, hc, hx, hy, hr⟩ | ⟨hx, hy, hne, hr⟩
  · rw [List.nil_append] at hy
    have hl := congrArg List.length h1
    rw [List.length_drop, List.length_append, List.length_cons, ← hy, hql, hsl] at hl
    refine ⟨by omega, key x _ h1 hy hx, .inl ⟨by omega, fun hk => ?_, ?_⟩⟩
    · have e1 : s.data.toList[P + q.size]? = some c := by
        rw [← List.getElem?_drop, h1, ← hy, List.getElem?_append_right (by omega), hql]; simp
      rw [List.getElem?_eq_getElem (by omega)] at e1
      have e2 : s[P + q.size] = c := Option.some.inj e1
      rw [e2]; exact hc
    · rw [hr]
      congr 1
      have : s.data.toList.drop (P + q.size + 1) = (s.data.toList.drop P).drop (q.size + 1) := by rw [List.drop_drop]; congr 1
      rw [this, h1, ← hy, List.drop_append, List.drop_of_length_le (by omega), hql]
      simp
  · rw [List.nil_append] at hy
    have hl := congrArg List.length hy
    rw [List.length_drop, hql, hsl] at hl
    have hqp : 0 < q.size := by rw [← hql]; exact List.length_pos_iff.2 hne
    refine ⟨by omega, key _ [] (by rw [List.append_nil]) hy (by simpa using hx), .inr ⟨by omega, hqp, ?_⟩⟩
    have h2 := congrArg List.length hr
    rw [List.length_drop, texts_length] at h2
    have := (List.getElem?_eq_some_iff.1 hq).1
    simp at h2
    omega

set_option maxHeartbeats 1600000 in
theorem gare_any (s : ByteArray) (a : Option Addr) (n cap : Nat) (ps : List ByteArray) (w : World) (hs : s.size ≤ 1073741824) (hS : Strs w a n cap ps) (hT : texts ps = splitGo [] s.data.toList) :
    Calls Ydkm.prog 24 #[.string s, .slice a n cap] w fun e w' => e = .returned (.bool true) ∧ Below w.heap.size w w' := by
  have hle := hS.le
  have hmx := hS.max
  have HL := hide hS.hlen
  unfold maxLen at hmx
  have HT := hide hT
  clear hT
  go_enter Ydkm.func24, Ydkm.ntmps24
  go_wp2
  go_loopw [5, 6] (fun p kk wr => ∃ (P K : Nat), p = .int .i64 P ∧ kk = .int .i64 K ∧ P ≤ s.size ∧ K ≤ n ∧ Hid ((texts ps).drop K = splitGo [] (s.data.toList.drop P)) ∧ Below w.heap.size w wr) (fun _ kk _ => n - (intOf kk).toNat)
  case atStart => exact ⟨0, 0, rfl, rfl, Nat.zero_le _, Nat.zero_le _, by have := unhide HT; simpa [Hid] using this, Below.refl _ _⟩
  case round =>
    obtain ⟨P, K, rfl, rfl, hP, hK, HD, hb⟩ := hrel
    by_cases hlt : K < n
    · obtain ⟨b, off, q, rfl, hq, -, hbl, hc⟩ := (hS.below hb).nth K hlt
      obtain ⟨hA, hB, hC⟩ := gare_step (unhide HD) hq hP
      have HB := hide hB
      have HCC := hide hC
      clear hB hC hq
      go_wp2
      go_loopw [8] (fun j wr => ∃ (j' : Nat), j' ≤ q.size ∧ j = .int .i64 j' ∧ Below w.heap.size w wr) (fun j _ => q.size - (intOf j).toNat)
      case atStart => exact ⟨0, Nat.zero_le _, rfl, hb⟩
      case round =>
        obtain ⟨j', hj', rfl, hbz⟩ := hrel
        by_cases hlt2 : j' < q.size
        · have hk1 : P + j' < s.size := by omega
          obtain ⟨hq1, hq2⟩ := unhide HB j' hlt2 hk1
          have hd : ((q[j'].toNat : Int) == 10) = false := by simp; omega
          have hi1 : (0 : Int) ≤ (P : Int) + (j' : Int) := by omega
          have hi2 : (P : Int) + (j' : Int) < (s.size : Int) := by omega
          have hi3 : ((P : Int) + (j' : Int)).toNat = P + j' := by omega
          have hq3 : s[P + j'] = q[j'] := hq1.symm
          clear hq1 hq2
          go_wp2_with fail
          go_quiet (fail)
          go_wp2
          go_roundw
          case rel => exact ⟨j' + 1, by omega, by go_num, below_drewN hbz _⟩
          case measure => simp [intOf]; omega
        · obtain rfl : j' = q.size := by omega
          rcases unhide HCC with ⟨hC1, hC2, hC3⟩ | ⟨hC1, hC2, hC3⟩
          · have hq := hC2 hC1
            have HC3 := hide hC3
            clear hC2 hC3
            have hi1 : (0 : Int) ≤ (P : Int) + (q.size : Int) := by omega
            have hi2 : (P : Int) + (q.size : Int) < (s.size : Int) := by omega
            have hi3 : ((P : Int) + (q.size : Int)).toNat = P + q.size := by omega
            go_wp2
            go_roundw
            case rel => exact ⟨P + q.size + 1, K + 1, by go_num, by go_num, by omega, by omega, HC3, hbz⟩
            case measure => simp [intOf]; omega
          · have hi2 : (s.size : Int) ≤ (P : Int) + (q.size : Int) := by omega
            have hd1 : ((q.size : Int) == 0) = false := beq_eq_false_iff_ne.2 (by omega)
            have hd2 : ((K : Int) != (n : Int) - 1) = false := by have := unhide HL; simp; omega
            have HC1 := hide hC1
            have HC3 := hide hC3
            clear hC1 hC3
            go_wp2
            go_roundw
            case rel =>
              refine ⟨P + q.size, K + 1, by go_num, by go_num, by omega, by omega, ?_, hbz⟩
              show _ = _
              have h1 := unhide HC1
              have h3 := unhide HC3
              rw [List.drop_of_length_le (by rw [texts_length]; omega), List.drop_of_length_le (by simp; omega)]
              rfl
            case measure => simp [intOf]; omega
    · have hPe : Hid (P = s.size) := by
        have h1 := unhide HD
        rw [List.drop_of_length_le (by rw [texts_length]; have := unhide HL; omega)] at h1
        have h2 := split_empty _ _ h1.symm
        have h3 := congrArg List.length h2
        rw [List.length_drop] at h3
        have h4 : s.data.toList.length = s.size := by simp
        show _ = _
        simp only [List.length_nil] at h3
        omega
      go_wp2
      go_ret
      exact ⟨ret_bool (by rw [unhide hPe]; simp), hb⟩

set_option maxHeartbeats 1600000 in
theorem gExact_walk (a0 : Option Addr) (len0 cap0 : Nat) (z0 : List ByteArray) (a1 : Bool) (w : World) (w0 : Strs w a0 len0 cap0 z0) :
    Calls Ydkm.prog 9 #[.slice a0 len0 cap0, .bool a1] w fun e w' => e = .returned (.bool true) ∧ Below w.heap.size w w' := by
  have hl := hide w0.hlen
  go_enter Ydkm.func9, Ydkm.ntmps9
  go_wp2_with fail
  refine (gbig_any _ _ _ z0 _ w0).mono ?_
  rintro e w' ⟨hx, hw⟩
  obtain rfl := hw.symm
  rcases hx with ⟨hn, rfl⟩ | ⟨hsm, rfl⟩
  · go_wp2
    go_ret
    exact ⟨rfl, Below.refl _ _⟩
  obtain ⟨hs1, hs2⟩ := hsm
  have hs3 : len0 ≤ 1024 := by have := unhide hl; omega
  go_wp2_with fail
  refine (gtext_any _ _ _ z0 _ _ w0 (by omega)).mono ?_
  rintro e x1 ⟨r, rfl, HR, hb1⟩
  have hrz : r.size ≤ 66560 := by
    have h1 := congrArg List.length (unhide HR)
    have h2 := gtPre_length z0 a1 len0
    have h3 := szs_take_le z0 len0
    have h4 : r.data.toList.length = r.size := by simp
    omega
  clear HR
  go_wp2_with fail
  refine (splitLines_any _ _ (by omega)).mono ?_
  rintro e x2 ⟨v, ps, rfl, ho, HT, hpl, hz, hb2, hnil⟩
  obtain ⟨b1, c1, rfl, hS, hnn⟩ := Own.strs ho (fun s h => by have := hz s h; unfold maxLen; omega)
  have hle := hS.le
  have HZ := hide hz
  have HNN := hide (hnn.trans hnil)
  clear ho hz hnil hnn
  have hbx := hb1.trans (hb2.mono hb1.size)
  clear hb1 hb2
  have HE : Hid (b1.isNone = ((r.size : Int) == 0)) := by
    have h1 := unhide HNN
    have h2 := unhide HT
    show _ = _
    by_cases hr0 : r.size = 0
    · have h3 : r.data.toList = [] := List.eq_nil_of_length_eq_zero (by simpa using hr0)
      rw [h3] at h2
      have h4 : ps = [] := by
        have := congrArg List.length h2
        rw [texts_length] at this
        simp [splitGo] at this
        exact this
      rw [h1.2 h4, hr0]; rfl
    · have h4 : ps ≠ [] := fun h => by
        rw [h] at h2
        have := split_empty _ _ h2.symm
        have h5 := congrArg List.length this
        rw [show r.data.toList.length = r.size by simp] at h5
        exact hr0 h5
      cases b1 with
      | none => exact absurd (h1.1 rfl) h4
      | some a => exact (beq_eq_false_iff_ne.2 (by omega)).symm
  have hnl := Go.Lib.run_eql_slice_nil (P := Ydkm.prog) x2 22 9 b1 ps.length c1 0 0 Ydkm.underlying22
  have hq : (b1.isNone == ((r.size : Int) == 0)) = true := by rw [unhide HE]; simp
  go_wp2_with fail
  refine (gare_any _ _ _ _ ps _ (by omega) hS (unhide HT)).mono ?_
  rintro e x3 ⟨rfl, hb3⟩
  have HB := hide (hbx.trans (hb3.mono hbx.size))
  clear hbx hb3
  go_wp2
  go_ret
  exact ⟨rfl, unhide HB⟩
end Go.Proofs.Ymbrdk
