/-
  The one greedy breaking: plain facts; rows of headers; slices of bools.
-/
import Derived.Test.YmbrdlWrapP
import Derived.Test.YmbrdlKit2
import Derived.Test.YmbrdlKFuncs
import Derived.Deep.Grids
set_option linter.unusedSimpArgs false
set_option linter.unusedVariables false
namespace Go.Proofs.Ymbrdl
open Go.RowKit

/-- A slice of bools that is read. -/
structure Bools (w : World) (a : Option Addr) (len cap : Nat) (bs : List Bool) : Prop where
  hlen : bs.length = len
  le : len ≤ cap
  max : cap ≤ maxLen
  cells : Cells w a (bs.map Value.bool)
theorem Bools.nth {w : World} {a : Option Addr} {len cap : Nat} {bs : List Bool} (h : Bools w a len cap bs) (i : Nat) (hi : i < len) :
    ∃ b off c, a = some ⟨b, off, none⟩ ∧ b < w.heap.size ∧ w.cell? ⟨b, off + i, none⟩ = some (.bool c) := by
  have hl := h.hlen
  have hk' : i < bs.length := by omega
  obtain ⟨b, off, ha, hlt, hc⟩ := h.cells i (by simpa using hk')
  exact ⟨b, off, bs[i], ha, hlt, by simpa using hc⟩
section
variable {H : Type} {enc : TypeId × Value → H} {P : Program} {W : World}
theorem bools_of {t e : TypeId} {a : Option Addr} {len cap : Nat} {d : DataW H} {p : List MemPlace} (ht : P.underlying t = some (.slice e)) (he : P.underlying e = some .bool) (hc : P.cellsOf e = 1)
    (h : DataW.Trod enc P W 0 (fun _ => true) true t (.slice a len cap) d p) : ∃ bs, Bools W a len cap bs := by
  obtain ⟨fuel, hf⟩ := h
  rcases Go.Deep.open_bools ht he hc (by simpa [Value.cells] using hf) with ⟨hcs, _⟩ | ⟨a', len', cap', B, hcs, _, hl, hm, _, hcell⟩
  · simp at hcs
    obtain ⟨rfl, rfl, rfl⟩ := hcs
    exact ⟨[], rfl, Nat.le_refl _, Nat.zero_le _, Cells.nil _ _⟩
  · simp at hcs
    obtain ⟨rfl, rfl, rfl⟩ := hcs
    refine ⟨(List.range len).map B, by simp, hl, hm, fun i hi => ?_⟩
    simp at hi
    obtain ⟨b, off, rfl, hlt, hcc⟩ := plain_of_cell (hcell 0 (by omega)) (hcell i (by omega))
    exact ⟨b, off, rfl, hlt, by simpa using hcc⟩
end

/-- A row of headers that the call owns; the words lie in the memory of W0. -/
def HeadsK (W0 w : World) (v : Value) (L : List (List ByteArray)) : Prop :=
  ∃ hs : List Value, hs.length = L.length ∧ Own w W0.heap.size 22 v hs ∧ ∀ k (h : k < L.length), ∃ a len cap, hs[k]? = some (.slice a len cap) ∧ Strs W0 a len cap L[k]
theorem HeadsK.nil (W0 w : World) : HeadsK W0 w (.slice none 0 0) [] := ⟨[], rfl, Own.nil _ _ _, fun k h => absurd h (Nat.not_lt_zero _)⟩
/-- The headers themselves. -/
def Hd (W0 : World) (hs : List Value) (L : List (List ByteArray)) : Prop := hs.length = L.length ∧ ∀ k (h : k < L.length), ∃ a len cap, hs[k]? = some (.slice a len cap) ∧ Strs W0 a len cap L[k]
theorem Hd.nil (W0 : World) : Hd W0 [] [] := ⟨rfl, fun k h => absurd h (Nat.not_lt_zero _)⟩
theorem Hd.push {W0 : World} {L : List (List ByteArray)} {hs : List Value} {a : Option Addr} {len cap : Nat} {ss : List ByteArray} (h : Hd W0 hs L) (hS : Strs W0 a len cap ss) : Hd W0 (hs ++ [.slice a len cap]) (L ++ [ss]) := by
  refine ⟨by simp [h.1], fun k hk => ?_⟩
  by_cases hkl : k < L.length
  · obtain ⟨a', l', c', he, hS'⟩ := h.2 k hkl
    exact ⟨a', l', c', by rw [List.getElem?_append_left (by rw [h.1]; omega)]; exact he, by rw [List.getElem_append_left hkl]; exact hS'⟩
  · simp at hk
    obtain rfl : k = L.length := by omega
    exact ⟨a, len, cap, by rw [← h.1]; simp, by simpa using hS⟩
theorem Hd.strss {W0 w : World} {v : Value} {L : List (List ByteArray)} {hs : List Value} (h : Hd W0 hs L) (hown : Own w W0.heap.size 22 v hs) (hb : Below W0.heap.size W0 w) : ∃ a cap, v = .slice a L.length cap ∧ Strss w a L.length cap L := by
  obtain ⟨hl, hr⟩ := h
  obtain ⟨a, cap, hv, hle, hmx, hf, hn, hc⟩ := Own.read hown
  rw [hl] at hv hle
  refine ⟨a, cap, hv, rfl, hle, hmx, fun hp => ?_, fun k hk => ?_⟩
  · obtain ⟨b, hb⟩ := hf hp
    exact ⟨b, 0, hb⟩
  · obtain ⟨b, off, ha, hlt, hcc⟩ := hc k (by omega)
    obtain ⟨a', len', cap', he, hS⟩ := hr k hk
    rw [List.getElem?_eq_getElem (by omega)] at he
    simp at he
    rw [he] at hcc
    exact ⟨b, off, a', len', cap', ha, hlt, hcc, hS.below hb⟩
theorem StrsK.cut {w : World} {b off : Nat} {len cap : Nat} {ss : List ByteArray} (h : Strs w (some ⟨b, off, none⟩) len cap ss) (k n : Nat) (hk : k + n ≤ len) : Strs w (some ⟨b, off + k, none⟩) n (cap - k) ((ss.drop k).take n) := by
  have h1 := h.dropTo k (by omega)
  have hle := h.le
  exact h1.takeTo n (by omega)

/-- Two rows that lie in two blocks. -/
def Two (v v' : Value) : Prop := ∀ g, v.ownBlock = some g → v'.ownBlock = some g → False
theorem Two.nil : Two (.slice none 0 0) (.slice none 0 0) := fun g h => by simp [Value.ownBlock] at h
theorem Two.left {v v' : Value} (h : Two v v') : v.ownBlock = none ∨ v.ownBlock ≠ v'.ownBlock := by
  cases hv : v.ownBlock with
  | none => exact .inl rfl
  | some g => exact .inr fun he => h g hv he.symm
theorem Two.symm {v v' : Value} (h : Two v v') : Two v' v := fun g h1 h2 => h g h2 h1
/-- The left row has grown. -/
theorem Two.grown {w : World} {B : Nat} {e : TypeId} {v v' u : Value} {xs : List Value} (h : Two v v') (hown : Own w B e v' xs) (hat : u.ownBlock = v.ownBlock ∨ u.ownBlock = some (w.heap.size + 1)) : Two u v' := by
  intro g h1 h2
  rcases hat with hat | hat
  · exact h g (by rw [← hat]; exact h1) h2
  · rw [hat] at h1
    have := (World.ownsRow.lt hown g h2).2
    simp at h1
    omega

/-- The running line. -/
def run (z : List ByteArray) (s q : Nat) : List ByteArray := (z.drop s).take (q - s)
theorem run_snoc {z : List ByteArray} {s q : Nat} {x : ByteArray} (h : s ≤ q) (hx : z[q]? = some x) : run z s (q + 1) = run z s q ++ [x] := by
  unfold run
  rw [show q + 1 - s = q - s + 1 by omega, List.take_add_one, List.getElem?_drop, show s + (q - s) = q by omega, hx]; rfl
theorem run_one {z : List ByteArray} {q : Nat} {x : ByteArray} (hx : z[q]? = some x) : run z q (q + 1) = [x] := by
  rw [run_snoc (Nat.le_refl _) hx]; simp [run]
theorem run_ne {z : List ByteArray} {s q : Nat} (h : s < q) (hq : q ≤ z.length) : run z s q ≠ [] := by
  intro h0
  have := congrArg List.length h0
  unfold run at this
  rw [List.length_take, List.length_drop] at this
  simp at this
  omega
theorem run_flat {z : List ByteArray} {O : List (List ByteArray)} {s q : Nat} (h : O.flatten = z.take s) (hs : s ≤ q) : (O ++ [run z s q]).flatten = z.take q := by
  rw [List.flatten_append, h, run]
  have : z.take q = z.take (s + (q - s)) := by rw [show s + (q - s) = q by omega]
  rw [this, List.take_add]; simp

/-- The state behind q words: the breaking that packs (G, gs), the other one (O, os). -/
structure KSt (width : Int) (z : List ByteArray) (q : Nat) (G O : List (List ByteArray)) (gs os used : Nat) (same : Bool) : Prop where
  zero : q = 0 → G = [] ∧ O = [] ∧ gs = 0 ∧ os = 0 ∧ same = true
  lt : 0 < q → gs < q ∧ os < q
  wrap : 0 < q → G ++ wrapGo width (run z gs q) (width - used) (z.drop q) = wrapL width z
  us : 0 < q → used = jlen (run z gs q)
  fit : (used : Int) ≤ width
  flat : O.flatten = z.take os
  glen : G.length ≤ q ∧ O.length ≤ q
  eq : 0 < q → (same = true ↔ G ++ [run z gs q] = O ++ [run z os q])

theorem KSt.init (width : Int) (z : List ByteArray) (h : 0 ≤ width) : KSt width z 0 [] [] 0 0 0 true :=
  ⟨fun _ => ⟨rfl, rfl, rfl, rfl, rfl⟩, fun h => absurd h (Nat.lt_irrefl _), fun h => absurd h (Nat.lt_irrefl _), fun h => absurd h (Nat.lt_irrefl _), by omega, by simp, ⟨Nat.le_refl _, Nat.le_refl _⟩, fun h => absurd h (Nat.lt_irrefl _)⟩
theorem KSt.first {width : Int} {z : List ByteArray} {q : Nat} {G O : List (List ByteArray)} {gs os used : Nat} {same : Bool} {s : ByteArray} (h : KSt width z q G O gs os used same) (hq : q = 0) (hs : z[q]? = some s) (hf : (s.size : Int) ≤ width) : KSt width z (q + 1) G O gs os s.size same := by
  obtain ⟨rfl, rfl, rfl, rfl, rfl⟩ := h.zero hq
  subst hq
  have hr := run_one hs
  refine ⟨fun h => absurd h (by omega), fun _ => ⟨by omega, by omega⟩, fun _ => ?_, fun _ => by rw [hr, jlen_one], hf, by simp, ⟨by simp, by simp⟩, fun _ => by simp⟩
  obtain ⟨z', rfl⟩ : ∃ z', z = s :: z' := by
    cases z with
    | nil => simp at hs
    | cons a t => simp at hs; subst hs; exact ⟨t, rfl⟩
  rw [hr, wrapL, wrapGo_open]; rfl

theorem snoc_inj {α : Type} {a b : List α} {x y : α} (h : a ++ [x] = b ++ [y]) : a = b ∧ x = y := by
  have := List.append_inj' h rfl
  exact ⟨this.1, by simpa using this.2⟩
/-- The next word joins the running line, or begins a new one. -/
def put (brk : Bool) (G : List (List ByteArray)) (r : List ByteArray) (s : ByteArray) : List (List ByteArray) := if brk then G ++ [r] ++ [[s]] else G ++ [r ++ [s]]
theorem put_inj {bg bo : Bool} {G O : List (List ByteArray)} {rg ro : List ByteArray} {s : ByteArray} (hg : rg ≠ []) (ho : ro ≠ []) : put bg G rg s = put bo O ro s ↔ (bg = bo ∧ G ++ [rg] = O ++ [ro]) := by
  constructor
  · intro h
    unfold put at h
    cases bg <;> cases bo <;> simp only [if_true, if_false, Bool.false_eq_true] at h
    · obtain ⟨h1, h2⟩ := snoc_inj h
      obtain ⟨h3, _⟩ := snoc_inj h2
      exact ⟨rfl, by rw [h1, h3]⟩
    · obtain ⟨_, h2⟩ := snoc_inj h
      have := congrArg List.length h2
      simp at this
      exact absurd this hg
    · obtain ⟨_, h2⟩ := snoc_inj h
      have := congrArg List.length h2
      simp at this
      exact absurd this ho
    · exact ⟨rfl, (snoc_inj h).1⟩
  · rintro ⟨rfl, h⟩
    obtain ⟨rfl, rfl⟩ := snoc_inj h
    rfl

/-- One word more. -/
theorem KSt.step {width : Int} {z : List ByteArray} {q : Nat} {G O : List (List ByteArray)} {gs os used : Nat} {same : Bool} {s : ByteArray} (h : KSt width z q G O gs os used same) (hq : 0 < q) (hs : z[q]? = some s) (hf : (s.size : Int) ≤ width) (bg flip : Bool)
    (hb : bg = true ↔ width < (used : Int) + 1 + s.size) :
    KSt width z (q + 1) (if bg then G ++ [run z gs q] else G) (if bg != flip then O ++ [run z os q] else O) (if bg then q else gs) (if bg != flip then q else os) (if bg then s.size else used + (1 + s.size)) (if flip then false else same) := by
  obtain ⟨h1, h2⟩ := h.lt hq
  have hql : q < z.length := lt_of_get hs
  have hrg := run_ne h1 (Nat.le_of_lt hql)
  have hro := run_ne h2 (Nat.le_of_lt hql)
  have hw := h.wrap hq
  have hu := h.us hq
  have hfit := h.fit
  have hgl := h.glen
  have hd : z.drop q = s :: z.drop (q + 1) := by
    rw [List.drop_eq_getElem_cons hql]
    congr 1
    have := List.getElem?_eq_getElem hql
    rw [hs] at this
    exact (Option.some.inj this).symm
  rw [hd] at hw
  have eG : (if bg then G ++ [run z gs q] else G) ++ [run z (if bg then q else gs) (q + 1)] = put bg G (run z gs q) s := by
    cases bg
    · simp only [if_false, Bool.false_eq_true, put]; rw [run_snoc (by omega) hs]
    · simp only [if_true, put]; rw [run_one hs]
  have eO : (if bg != flip then O ++ [run z os q] else O) ++ [run z (if bg != flip then q else os) (q + 1)] = put (bg != flip) O (run z os q) s := by
    cases bg != flip
    · simp only [if_false, Bool.false_eq_true, put]; rw [run_snoc (by omega) hs]
    · simp only [if_true, put]; rw [run_one hs]
  refine ⟨fun h => absurd h (by omega), fun _ => ⟨by split <;> omega, by split <;> omega⟩, fun _ => ?_, fun _ => ?_, ?_, ?_, ⟨?_, ?_⟩, fun _ => ?_⟩
  · cases bg
    · simp only [if_false, Bool.false_eq_true]
      have hn : ¬ width < (used : Int) + 1 + s.size := fun hc => by simpa using hb.2 hc
      rw [wrapGo_fit hrg (by omega)] at hw
      rw [run_snoc (by omega) hs, ← hw]
      congr 2
      omega
    · simp only [if_true]
      have hy := hb.1 rfl
      rw [wrapGo_break hrg (by omega)] at hw
      rw [run_one hs, ← hw]; simp
  · cases bg
    · simp only [if_false, Bool.false_eq_true]
      rw [run_snoc (by omega) hs, jlen_snoc hrg, ← hu]; omega
    · simp only [if_true]
      rw [run_one hs, jlen_one]
  · cases bg
    · have hn : ¬ width < (used : Int) + 1 + s.size := fun hc => by simpa using hb.2 hc
      simp only [if_false, Bool.false_eq_true]; omega
    · simp only [if_true]; exact hf
  · split
    · exact run_flat h.flat (by omega)
    · exact h.flat
  · split
    · simp; omega
    · omega
  · split
    · simp; omega
    · omega
  · rw [eG, eO, put_inj hrg hro, ← h.eq hq]
    cases bg <;> cases flip <;> cases same <;> simp

/-- All words are seen. -/
theorem KSt.last {width : Int} {z : List ByteArray} {q : Nat} {G O : List (List ByteArray)} {gs os used : Nat} {same : Bool} (h : KSt width z q G O gs os used same) (hq : 0 < q) (hl : q = z.length) (hfit : ∀ s ∈ z, (s.size : Int) ≤ width) :
    GP (G ++ [z.drop gs]) width (G ++ [z.drop gs]).length ∧ (GP (O ++ [z.drop os]) width (O ++ [z.drop os]).length ↔ same = true) := by
  obtain ⟨h1, h2⟩ := h.lt hq
  have hrg := run_ne h1 (Nat.le_of_eq hl)
  have hr : ∀ s, run z s q = z.drop s := fun s => by
    unfold run
    rw [List.take_of_length_le (by rw [List.length_drop]; omega)]
  have hw := h.wrap hq
  rw [List.drop_of_length_le (by omega), wrapGo_end, if_neg hrg] at hw
  obtain ⟨hg, hf⟩ := wrapL_spec width z hfit
  rw [← hw, hr] at hg hf
  have he := h.eq hq
  rw [hr, hr] at he
  have hfo : (O ++ [z.drop os]).flatten = z := by rw [List.flatten_append, h.flat]; simp
  refine ⟨hg, ⟨fun ho => he.2 (greedy_unique _ _ hg ho (by rw [hf, hfo])), fun hs => by rw [← he.1 hs]; exact hg⟩⟩
end Go.Proofs.Ymbrdl
