/- What stays in a slot: the plain law. No program in sight. -/
import Derived.Test.YtdjnomeabadbnaaDoorShelfF
namespace Go.Proofs.YtdjnomeabadbnaaDoor
open Go.RowKit

structure Sty where
  slot : Int
  prod : ByteArray
  fr : Int
  til : Int
def noSty : Sty := ⟨-1, ⟨#[]⟩, 0, 0⟩
def slotAt (vs : List Ver) (i s : Nat) : ByteArray := (vLay vs i).getD s ⟨#[]⟩
def prodAt (vs : List Ver) (d : Int) (s : Nat) : ByteArray := match lastLe vs d vs.length with
  | none => ⟨#[]⟩
  | some k => slotAt vs k s
def begAt (vs : List Ver) (i : Nat) : Int := if i < vs.length then (if vDay vs i < 20 then vDay vs i else 20) else 20
def keptM (out : List Sty) (y : Sty) : List Sty := if y.prod.toList.isEmpty then out else out ++ [y]
def styStep (vs : List Ver) (s i : Nat) (x : List Sty × Sty) : List Sty × Sty :=
  if begAt vs (i + 1) ≤ vDay vs i then x
  else if x.2.slot = (s : Int) ∧ x.2.til = vDay vs i ∧ x.2.prod.toList = (slotAt vs i s).toList then (x.1, ⟨x.2.slot, x.2.prod, x.2.fr, begAt vs (i + 1)⟩)
  else (keptM x.1 x.2, ⟨s, slotAt vs i s, vDay vs i, begAt vs (i + 1)⟩)
def stySlot (vs : List Ver) (s : Nat) (out : List Sty) : Nat → List Sty × Sty
  | 0 => (out, noSty)
  | i + 1 => styStep vs s i (stySlot vs s out i)
def stysTo (vs : List Ver) : Nat → List Sty
  | 0 => []
  | s + 1 => keptM (stySlot vs s (stysTo vs s) vs.length).1 (stySlot vs s (stysTo vs s) vs.length).2
structure StyOk (vs : List Ver) (s : Nat) (y : Sty) : Prop where
  slot : y.slot = s
  lo : 0 ≤ y.fr
  lt : y.fr < y.til
  hi : y.til ≤ 20
  all : ∀ d : Int, y.fr ≤ d → d < y.til → (prodAt vs d s).toList = y.prod.toList
  before : 0 < y.fr → (prodAt vs (y.fr - 1) s).toList ≠ y.prod.toList
  after : y.til < 20 → (prodAt vs y.til s).toList ≠ y.prod.toList
theorem vers_mono {vs : List Ver} (h : VersOk vs) : ∀ (i j : Nat), i < j → j < vs.length → vDay vs i < vDay vs j := by
  intro i j hij
  induction j with
  | zero => omega
  | succ j ih =>
    intro hj
    have h1 := (h.all (j + 1) hj).up (by omega)
    rw [Nat.add_sub_cancel] at h1
    by_cases hi : i = j
    · subst hi; exact h1
    · have := ih (by omega) (by omega); omega
theorem begAt_le (vs : List Ver) (i : Nat) : begAt vs i ≤ 20 := by
  unfold begAt; split
  · split <;> omega
  · omega
theorem prod_in {vs : List Ver} (h : VersOk vs) (i : Nat) (hi : i < vs.length) (s : Nat) (d : Int) (h0 : vDay vs i ≤ d) (h1 : d < begAt vs (i + 1)) : prodAt vs d s = slotAt vs i s := by
  unfold prodAt
  rw [lastLe_some vs d vs.length i hi (fun j h2 h3 => ?_) h0]
  unfold begAt at h1
  rw [if_pos (by omega)] at h1
  have hd : d < vDay vs (i + 1) := by split at h1 <;> omega
  by_cases hj : j = i + 1
  · subst hj; exact hd
  · have := vers_mono h (i + 1) j (by omega) h3; omega
theorem prod_first {vs : List Ver} (h : VersOk vs) (s : Nat) (d : Int) (hd : d < vDay vs 0) : (prodAt vs d s).toList = [] := by
  unfold prodAt
  rw [lastLe_none vs d vs.length (fun i hi => ?_)]
  · show (⟨#[]⟩ : ByteArray).toList = []
    kernel_rfl
  · by_cases h0 : i = 0
    · subst h0; exact hd
    · have := vers_mono h 0 i (by omega) hi; omega
/-- What is known of the open stay behind i versions. -/
structure LastOk (vs : List Ver) (s i : Nat) (y : Sty) : Prop where
  slot : y.slot = s
  lo : 0 ≤ y.fr
  lt : y.fr < y.til
  til : y.til = begAt vs i
  all : ∀ d : Int, y.fr ≤ d → d < y.til → (prodAt vs d s).toList = y.prod.toList
  before : 0 < y.fr → ¬ y.prod.toList = [] → (prodAt vs (y.fr - 1) s).toList ≠ y.prod.toList
def StyInv (vs : List Ver) (s i : Nat) (P : Sty → Prop) (x : List Sty × Sty) : Prop :=
  (∀ y ∈ x.1, P y) ∧ ((x.2 = noSty ∧ ∀ j, j < i → 20 ≤ vDay vs j) ∨ LastOk vs s i x.2)
theorem kept_all {P : Sty → Prop} {out : List Sty} {y : Sty} (h : ∀ z ∈ out, P z) (hy : ¬ y.prod.toList = [] → P y) : ∀ z ∈ keptM out y, P z := by
  unfold keptM
  split
  · exact h
  · rename_i hn
    intro z hz
    rcases List.mem_append.1 hz with hz | hz
    · exact h z hz
    · simp only [List.mem_cons, List.not_mem_nil, or_false] at hz
      subst hz
      exact hy (fun e => hn (by rw [e]; rfl))
theorem sty_step {vs : List Ver} (h : VersOk vs) (s i : Nat) (hi : i < vs.length) (P : Sty → Prop) (hP : ∀ y, StyOk vs s y → P y) (x : List Sty × Sty) (hx : StyInv vs s i P x) : StyInv vs s (i + 1) P (styStep vs s i x) := by
  obtain ⟨out, y⟩ := x
  obtain ⟨ho, hl⟩ := hx
  simp only at ho hl
  have hlo := (h.all i hi).lo
  unfold styStep
  simp only
  by_cases hs : begAt vs (i + 1) ≤ vDay vs i
  · rw [if_pos hs]
    have h20 : 20 ≤ vDay vs i := by
      unfold begAt at hs
      split at hs
      · rename_i h2
        have := vers_mono h i (i + 1) (by omega) h2
        split at hs <;> omega
      · exact hs
    refine ⟨ho, ?_⟩
    rcases hl with ⟨he, h2⟩ | hl
    · refine .inl ⟨he, fun j hj => ?_⟩
      by_cases hji : j = i
      · subst hji; exact h20
      · exact h2 j (by omega)
    · refine .inr ⟨hl.slot, hl.lo, hl.lt, ?_, hl.all, hl.before⟩
      rw [hl.til]
      have e1 : begAt vs i = 20 := by unfold begAt; rw [if_pos hi, if_neg (by omega)]
      have e2 : begAt vs (i + 1) = 20 := by
        unfold begAt
        split
        · rename_i h2
          have := vers_mono h i (i + 1) (by omega) h2
          rw [if_neg (by omega)]
        · rfl
      show begAt vs i = begAt vs (i + 1)
      rw [e1, e2]
  · rw [if_neg hs]
    have hle := begAt_le vs (i + 1)
    have h20 : vDay vs i < 20 := by omega
    have hbi : begAt vs i = vDay vs i := by unfold begAt; rw [if_pos hi, if_pos h20]
    have hnew : ∀ d : Int, vDay vs i ≤ d → d < begAt vs (i + 1) → (prodAt vs d s).toList = (slotAt vs i s).toList := fun d h1 h2 => by rw [prod_in h i hi s d h1 h2]
    rcases hl with ⟨he, h2⟩ | hl
    · have hi0 : i = 0 := by
        by_cases h0 : i = 0
        · exact h0
        · have h3 := h2 0 (by omega)
          have h4 := vers_mono h 0 i (by omega) hi
          omega
      subst hi0
      subst he
      rw [if_neg (fun e => by have h9 := e.1; have h8 : noSty.slot = -1 := rfl; omega)]
      refine ⟨kept_all ho (fun hn => absurd (by show (⟨#[]⟩ : ByteArray).toList = []; kernel_rfl) hn), .inr ⟨rfl, hlo, by show vDay vs 0 < begAt vs (0 + 1); omega, rfl, hnew, fun h0 hn => ?_⟩⟩
      show (prodAt vs (vDay vs 0 - 1) s).toList ≠ _
      rw [prod_first h s _ (by omega)]
      exact fun e => hn e.symm
    · by_cases hc : y.slot = (s : Int) ∧ y.til = vDay vs i ∧ y.prod.toList = (slotAt vs i s).toList
      · rw [if_pos hc]
        refine ⟨ho, .inr ⟨hl.slot, hl.lo, by have := hl.lt; have := hc.2.1; show y.fr < begAt vs (i + 1); omega, rfl, fun d h1 h2 => ?_, hl.before⟩⟩
        show _ = y.prod.toList
        by_cases hd : d < y.til
        · exact hl.all d h1 hd
        · rw [hnew d (by have := hc.2.1; omega) h2, hc.2.2]
      · rw [if_neg hc]
        have hto : y.til = vDay vs i := by rw [hl.til, hbi]
        have hne : y.prod.toList ≠ (slotAt vs i s).toList := fun e => hc ⟨hl.slot, hto, e⟩
        refine ⟨kept_all ho (fun hn => hP y ⟨hl.slot, hl.lo, hl.lt, by omega, hl.all, fun h0 => hl.before h0 hn, fun _ => ?_⟩), .inr ⟨rfl, hlo, by show vDay vs i < begAt vs (i + 1); omega, rfl, hnew, fun h0 hn => ?_⟩⟩
        · rw [hto, hnew (vDay vs i) (by omega) (by omega)]
          exact fun e => hne e.symm
        · have h1 := hl.lt
          show (prodAt vs (vDay vs i - 1) s).toList ≠ (slotAt vs i s).toList
          rw [hl.all (vDay vs i - 1) (by omega) (by omega)]
          exact hne
theorem sty_slot {vs : List Ver} (h : VersOk vs) (s : Nat) (P : Sty → Prop) (hP : ∀ y, StyOk vs s y → P y) (out : List Sty) (ho : ∀ y ∈ out, P y) (i : Nat) (hi : i ≤ vs.length) : StyInv vs s i P (stySlot vs s out i) := by
  induction i with
  | zero => exact ⟨ho, .inl ⟨rfl, fun j hj => by omega⟩⟩
  | succ i ih => exact sty_step h s i (by omega) P hP _ (ih (by omega))
theorem stys_ok {vs : List Ver} (h : VersOk vs) (n : Nat) : ∀ y ∈ stysTo vs n, ∃ s, s < n ∧ StyOk vs s y := by
  induction n with
  | zero => intro y hy; simp [stysTo] at hy
  | succ n ih =>
    have h1 := sty_slot h n (fun y => ∃ s, s < n + 1 ∧ StyOk vs s y) (fun y hy => ⟨n, by omega, hy⟩) (stysTo vs n) (fun y hy => by obtain ⟨s, hs, h2⟩ := ih y hy; exact ⟨s, by omega, h2⟩) vs.length (Nat.le_refl _)
    obtain ⟨h2, h3⟩ := h1
    simp only [stysTo]
    refine kept_all h2 (fun hn => ?_)
    rcases h3 with ⟨he, _⟩ | hl
    · exact absurd (by rw [he]; show (⟨#[]⟩ : ByteArray).toList = []; kernel_rfl) hn
    · have e : begAt vs vs.length = 20 := by unfold begAt; rw [if_neg (by omega)]
      have ht := hl.til
      rw [e] at ht
      exact ⟨n, by omega, hl.slot, hl.lo, hl.lt, by omega, hl.all, fun h0 => hl.before h0 hn, fun h4 => by omega⟩
theorem keptM_len (out : List Sty) (y : Sty) : (keptM out y).length ≤ out.length + 1 := by
  unfold keptM; split <;> simp
theorem stySlot_len (vs : List Ver) (s : Nat) (out : List Sty) (i : Nat) : (stySlot vs s out i).1.length ≤ out.length + i := by
  induction i with
  | zero => simp [stySlot]
  | succ i ih =>
    simp only [stySlot, styStep]
    split
    · omega
    · split
      · simp; omega
      · have := keptM_len (stySlot vs s out i).1 (stySlot vs s out i).2
        simp; omega
theorem stysTo_len (vs : List Ver) (n : Nat) : (stysTo vs n).length ≤ n * (vs.length + 1) := by
  induction n with
  | zero => simp [stysTo]
  | succ n ih =>
    simp only [stysTo]
    have h1 := keptM_len (stySlot vs n (stysTo vs n) vs.length).1 (stySlot vs n (stysTo vs n) vs.length).2
    have h2 := stySlot_len vs n (stysTo vs n) vs.length
    rw [Nat.add_mul]
    omega
end Go.Proofs.YtdjnomeabadbnaaDoor
