/- Quotas, as the stream makes them. -/
import Derived.Test.YthikknnadmebgaaGreatDoorPkSBb
import Derived.Test.YthikknnadmebgaaGreatDoorPkSBf
import Derived.Test.YthikknnadmebgaaGreatDoorPkSAm
import Derived.WalkLawsBesides
import Derived.Deep.DeepCutAuto
namespace Go.Proofs.YthikknnadmebgaaGreatDoor
open Go.RowKit
variable {lw : Nat}

abbrev qkeys : Array Value := #[.string ⟨#[99, 111, 108, 100]⟩, .string ⟨#[115, 97, 108, 116]⟩, .string ⟨#[115, 119, 101, 101, 116]⟩]
theorem qkeys_get (i : Nat) (h : i < 3) : ∃ s : ByteArray, qkeys[i]? = some (.string s) ∧ s.size ≤ 5 := by
  have : i = 0 ∨ i = 1 ∨ i = 2 := by omega
  rcases this with rfl | rfl | rfl <;> exact ⟨_, rfl, by decide⟩
theorem encQuo_len (x : Quo) : (encQuo x).length = 3 := rfl
def QuoSm (x : Quo) : Prop := x.group.size ≤ 5 ∧ (-1 ≤ x.least ∧ x.least ≤ 3) ∧ (0 ≤ x.most ∧ x.most ≤ 61)
end Go.Proofs.YthikknnadmebgaaGreatDoor

/-! What is wrong with quotas: the document's answer, and the program's. -/
namespace Go.Proofs.YthikknnadmebgaaGreatDoor
open Go.RowKit
attribute [local go_sem ↓] Go.wp_at_zero Go.wp_at_succ

structure QuOk (x : Quo) : Prop where
  key : keyB x.group = true
  p0 : 0 ≤ x.least
  p1 : x.least ≤ x.most
  p2 : x.most ≤ 60
def QuAt (N : List Quo) (j : Nat) (hj : j < N.length) : Prop := QuOk N[j] ∧ ∀ (_ : 0 < j), leB N[j].group (N[j - 1]'(by omega)).group = false
def QusOk (N : List Quo) : Prop := ∀ j (hj : j < N.length), QuAt N j hj
def QuPost (ok : Prop) (w : World) (e : Ending) (w' : World) : Prop := ∃ r : Int, e = .returned (.int .i64 r) ∧ (r = 0 → ok) ∧ w.grownBy w' none
theorem quo_cells {w : World} {a : Option Addr} {L : List Quo} (h : CellsAt w a (flat encQuo L)) (k : Nat) (hk : k < L.length) : ∃ b off, a = some ⟨b, off, none⟩ ∧ w.cell? ⟨b, off + k * 3, none⟩ = some (.string L[k].group) ∧ w.cell? ⟨b, off + k * 3 + 1, none⟩ = some (.int .i64 L[k].least) ∧ w.cell? ⟨b, off + k * 3 + 2, none⟩ = some (.int .i64 L[k].most) := by
  obtain ⟨b, off, e, hcs⟩ := flat_cells (enc := encQuo) (m := 3) (fun _ => rfl) (by decide) h (by omega)
  exact ⟨b, off, e, hcs k hk 0 _ rfl, hcs k hk 1 _ rfl, hcs k hk 2 _ rfl⟩
end Go.Proofs.YthikknnadmebgaaGreatDoor

/-! Package shelf: counts that are right, and what keeps the quotas. -/
namespace Go.Proofs.YthikknnadmebgaaGreatDoor
open Go.RowKit
attribute [local go_sem ↓] Go.wp_at_zero Go.wp_at_succ

theorem CountsOk.all_of (os : List Offer) (cs : List Int) (h : cs.length = os.length) (g : ∀ j (hj : j < os.length), 0 ≤ cs.getD j 0 ∧ cs.getD j 0 ≤ os[j].profits.length) : CountsOk os cs := ⟨h, g⟩
set_option maxRecDepth 100000 in
set_option maxHeartbeats 1000000 in
theorem refCountsFault_any (os : List Offer) (cs : List Int) (a ca : Option Addr) (vs : List OV) (c cc : Nat) (w : World) (h : OffsAt w a vs os) (hc : CellsAt w ca (ints cs)) (hb : ∀ x ∈ cs, -1 ≤ x ∧ x ≤ 11) (hl : os.length ≤ 30) (hl2 : cs.length ≤ 40) :
    Calls Tryz.prog 64 #[.slice a os.length c, .slice ca cs.length cc] w fun e w' => (∃ r : Int, e = .returned (.int .i64 r) ∧ (r = 0 → CountsOk os cs)) ∧ w = w' := by
  have H := Lib.hid h
  have HC := Lib.hid hc
  have HB := Lib.hid hb
  clear h hc hb
  go_enter Tryz.func64, Tryz.ntmps64
  by_cases hne : cs.length = os.length
  · have hne' : (cs.length : Int) = (os.length : Int) := by omega
    obtain ⟨m, hm⟩ : ∃ m, m = cs.length := ⟨_, rfl⟩
    have HM := Lib.hid hm
    have HNE := Lib.hid hne
    rw [← hm] at hl2
    rw [← hne, ← hm] at hl
    rw [← hne, ← hm]
    clear hm hne hne'
    go_wp2_with (fail)
    go_loop [14] (fun i => ∃ k : Nat, k ≤ m ∧ i = .int .i64 k ∧ (∀ j (hj : j < os.length), j < k → 0 ≤ cs.getD j 0 ∧ cs.getD j 0 ≤ os[j].profits.length)) (fun i => m - (intOf i).toNat)
    case atStart => exact ⟨0, Nat.zero_le _, rfl, fun j _ h => absurd h (Nat.not_lt_zero _)⟩
    case round =>
      obtain ⟨k, hk, rfl, hok⟩ := hrel
      by_cases hlt : k < m
      · have hko : k < os.length := by have := HNE.out; have := HM.out; omega
        obtain ⟨b, off, v, rfl, hr, _, _, d2, _⟩ := H.out.at k hko
        obtain ⟨n0, n1⟩ := HB.out (cs.getD k 0) (by
          have hkc : k < cs.length := by have := HM.out; omega
          rw [List.getD_eq_getElem?_getD, List.getElem?_eq_getElem hkc]; exact List.getElem_mem hkc)
        obtain ⟨b', off', rfl, d0⟩ := HC.out k _ (ints_get cs k (by have := HM.out; omega))
        have hpn := hr.pn
        obtain ⟨pa, hpa⟩ : ∃ x, x = v.pa := ⟨_, rfl⟩
        obtain ⟨pc, hpc⟩ : ∃ x, x = v.pc := ⟨_, rfl⟩
        obtain ⟨pn, hp⟩ : ∃ x, x = v.pn := ⟨_, rfl⟩
        have hnx : Hid (0 ≤ cs.getD k 0 → cs.getD k 0 ≤ v.pn → ∀ j (hj : j < os.length), j < k + 1 → 0 ≤ cs.getD j 0 ∧ cs.getD j 0 ≤ os[j].profits.length) := fun e1 e2 j hj hjk => by
          by_cases e : j = k
          · subst e; rw [← hpn]; exact ⟨e1, e2⟩
          · exact hok j hj (by omega)
        obtain ⟨n, hn⟩ : ∃ n, n = cs.getD k 0 := ⟨_, rfl⟩
        rw [← hn] at n0 n1 d0 hnx
        rw [← hp] at hnx
        rw [← hpa, ← hpc, ← hp] at d2
        clear hr hpn hpa hpc hp hn hok
        by_cases q1 : n < 0
        · go_wp2_with (fail)
          go_ret
          exact ⟨⟨1, rfl, (fun e => by cases e)⟩, rfl⟩
        · by_cases q2 : (pn : Int) < n
          · go_wp2_with (fail)
            go_ret
            exact ⟨⟨1, rfl, (fun e => by cases e)⟩, rfl⟩
          · have HNX := Lib.hid (hnx.out (by omega) (by omega))
            clear hnx
            go_wp2_with (fail)
            go_round
            case rel => exact ⟨k + 1, by omega, by go_num, HNX.out⟩
            case measure => simp [intOf]; omega
      · obtain rfl : k = m := by omega
        have HOK : Hid (CountsOk os cs) := ⟨HNE.out, fun j hj => hok j hj (by have := HNE.out; have := HM.out; omega)⟩
        clear hok
        go_wp2_with (fail)
        go_ret
        exact ⟨⟨0, rfl, fun _ => HOK.out⟩, rfl⟩
  · have hne' : ¬ (cs.length : Int) = (os.length : Int) := by omega
    go_wp2_with (fail)
    go_ret
    exact ⟨⟨3, rfl, (fun e => by cases e)⟩, rfl⟩
/-- What the slots of a group are. -/
def cN (cs : List Int) (j : Nat) : Nat := (cs.getD j 0).toNat
def gsum (os : List Offer) (g : ByteArray) (cs : List Int) (k : Nat) : Int := (gn (fun j => decide ((os.getD j o0).group = g)) (cN cs) k : Nat)
theorem gsum_zero (os : List Offer) (g : ByteArray) (cs : List Int) : gsum os g cs 0 = 0 := rfl
theorem gsum_succ (os : List Offer) (g : ByteArray) (cs : List Int) (hco : CountsOk os cs) (k : Nat) (hk : k < os.length) : gsum os g cs (k + 1) = gsum os g cs k + if os[k].group = g then cs.getD k 0 else 0 := by
  unfold gsum
  simp only [gn, off_at os k hk, decide_eq_true_eq]
  have := hco.all k hk
  split
  · unfold cN; push_cast; omega
  · simp
theorem gsum_bd (os : List Offer) (hok : OffersOk os) (g : ByteArray) (cs : List Int) (hco : CountsOk os cs) (k : Nat) (hk : k ≤ os.length) : 0 ≤ gsum os g cs k ∧ gsum os g cs k ≤ 10 * k := by
  induction k with
  | zero => exact ⟨by rw [gsum_zero]; omega, by rw [gsum_zero]; omega⟩
  | succ k ih =>
    have h1 := ih (by omega)
    have h2 := gsum_succ os g cs hco k (by omega)
    have h3 := hco.all k (by omega)
    have h4 := hok.prof os[k] (List.getElem_mem (by omega))
    split at h2 <;> constructor <;> omega
def Keeps (os : List Offer) (q : List Quo) (cs : List Int) : Prop := ∀ x ∈ q, x.least ≤ gsum os x.group cs os.length ∧ gsum os x.group cs os.length ≤ x.most
theorem gr_cellv {w w1 : World} {b o : Nat} {v : Value} (g : w.grownBy w1 none) (h : w.cell? ⟨b, o, none⟩ = some v) : w1.cell? ⟨b, o, none⟩ = some v := (gr_cell g (lt_of_cell h)).trans h
theorem str_eq (a b : ByteArray) : (a.toList == b.toList) = decide (a = b) := by
  by_cases h : a = b
  · subst h; simp
  · have : a.toList ≠ b.toList := fun e => h (by rw [ByteArray.toList_eq, ByteArray.toList_eq] at e; cases a; cases b; simp only at e; congr 1; exact Array.toList_inj.1 e)
    rw [decide_eq_false h, beq_eq_false_iff_ne]; exact this
end Go.Proofs.YthikknnadmebgaaGreatDoor
