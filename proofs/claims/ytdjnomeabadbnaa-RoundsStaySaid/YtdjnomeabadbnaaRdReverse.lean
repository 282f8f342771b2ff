/- slices.Reverse of a part of an owned row of ints; slices.Equal of ints. -/
import Derived.Test.YtdjnomeabadbnaaMakeInts
import Derived.Test.YtdjnomeabadbnaaMake
import Derived.Test.YtdjnomeabadbnaaFloat
import Derived.Test.YtdjnomeabadbnaaFuncs
import Derived.Deep.QuietTactic
namespace Go.Proofs.Ytdjnomeabadbnaa
open Go.RowKit

def BoolSome (w : World) (e : Ending) (w' : World) : Prop := (∃ b : Bool, e = .returned (.bool b)) ∧ w.grownBy w' none
set_option maxRecDepth 100000 in
theorem equal_gen (xs ys : List Int) (a b : Option Addr) (c d : Nat) (w : World) (ha : CellsAt w a (ints xs)) (hb : CellsAt w b (ints ys)) (hl : xs.length ≤ 1000000) :
    Calls Try.prog 14 #[.slice a xs.length c, .slice b ys.length d] w (BoolSome w) := by
  by_cases hne : xs.length = ys.length
  · have HNE := Lib.hid hne
    rw [← hne]
    clear hne
    go_enter Try.func14, Try.ntmps14
    go_wp2_with (fail)
    go_loopw [13] (fun i wr => ∃ k : Nat, k ≤ xs.length ∧ i = .int .i64 k ∧ w.grownBy wr none) (fun i _ => xs.length - (intOf i).toNat)
    case atStart => exact ⟨0, Nat.zero_le _, rfl, gr_refl _ _⟩
    case round =>
      obtain ⟨k, hk, rfl, hgr⟩ := hrel
      obtain ⟨wo, rfl⟩ : ∃ wo : World, wo = wr := ⟨_, rfl⟩
      by_cases hlt : k < xs.length
      · obtain ⟨b1, o1, rfl, c1⟩ := (ha.keep0 hgr) k _ (ints_get xs k hlt)
        obtain ⟨b2, o2, rfl, c2⟩ := (hb.keep0 hgr) k _ (ints_get ys k (by have := HNE.out; omega))
        obtain ⟨x, hx⟩ : ∃ x, x = xs.getD k 0 := ⟨_, rfl⟩
        obtain ⟨y, hy⟩ : ∃ y, y = ys.getD k 0 := ⟨_, rfl⟩
        rw [← hx] at c1
        rw [← hy] at c2
        clear hx hy
        by_cases hxy : x = y
        · subst hxy
          go_wp2_with (fail)
          go_region
          all_goals (go_wp2_with (fail))
          all_goals go_roundw
          case rel => exact ⟨k + 1, by omega, by go_num, gr_drew hgr⟩
          case measure => simp [intOf]; omega
        · have h1 : (x == y) = false := by simpa using hxy
          have h2 : (x != y) = true := by simpa using hxy
          go_wp2_with (fail)
          go_region
          all_goals (go_wp2_with (fail))
          all_goals (go_ret; exact ⟨⟨_, rfl⟩, gr_drew hgr⟩)
      · go_wp2_with (fail)
        go_ret
        exact ⟨⟨_, rfl⟩, hgr⟩
  · have h2 : ((xs.length : Int) == (ys.length : Int)) = false := by simp; omega
    have h3 : ((xs.length : Int) != (ys.length : Int)) = true := by simp; omega
    go_enter Try.func14, Try.ntmps14
    go_wp2_with (fail)
    go_ret
    exact ⟨⟨_, rfl⟩, gr_refl _ _⟩
theorem set_mem2 {L : List Int} {i j : Nat} {a b : Int} (ha : a ∈ L) (hb : b ∈ L) : ∀ x ∈ (L.set i a).set j b, x ∈ L := by
  intro x hx
  rcases List.mem_or_eq_of_mem_set hx with h | rfl
  · rcases List.mem_or_eq_of_mem_set h with h | rfl
    · exact h
    · exact ha
  · exact hb
def RevPost (base g n cap : Nat) (L : List Int) (w : World) (e : Ending) (w' : World) : Prop :=
  e = .returned (.tuple #[]) ∧ (∃ L' : List Int, (∀ x ∈ L', x ∈ L) ∧ w'.ownsRow base 3 1 (.slice (some ⟨g, 0, none⟩) n cap) n (ints L')) ∧ w.grownBy w' (some g)
set_option maxRecDepth 100000 in
set_option maxHeartbeats 2000000 in
theorem reverse_any (base g n cap o m c : Nat) (L : List Int) (w : World) (hown : w.ownsRow base 3 1 (.slice (some ⟨g, 0, none⟩) n cap) n (ints L)) (hom : o + m ≤ n) (hn : n ≤ 100000) :
    Calls Try.prog 36 #[.slice (some ⟨g, o, none⟩) m c] w (RevPost base g n cap L w) := by
  go_enter Try.func36, Try.ntmps36
  go_wp2_with (fail)
  go_loopw [2, 3] (fun i j wr => ∃ (k : Nat) (q : Int) (L' : List Int), i = .int .i64 k ∧ j = .int .i64 q ∧ q = (m : Int) - 1 - k ∧ (∀ x ∈ L', x ∈ L) ∧ wr.ownsRow base 3 1 (.slice (some ⟨g, 0, none⟩) n cap) n (ints L') ∧ w.grownBy wr (some g)) (fun i _ _ => m - (intOf i).toNat)
  case atStart => exact ⟨0, (m : Int) - 1, L, rfl, rfl, by omega, fun x h => h, hown, gr_refl _ _⟩
  case round =>
    obtain ⟨k, q, L', rfl, rfl, hq, hm, hown', hgr⟩ := hrel
    obtain ⟨wo, rfl⟩ : ∃ wo : World, wo = wr := ⟨_, rfl⟩
    have HM := Lib.hid hm
    clear hm
    by_cases hlt : (k : Int) < q
    · obtain ⟨r, hr⟩ : ∃ r : Nat, q = (r : Int) := ⟨q.toNat, by omega⟩
      subst hr
      have hkr : k < r := by omega
      have hrm : r < m := by omega
      have hkm : k < m := by omega
      have hrq : (r : Int) - 1 = (m : Int) - 1 - (k + 1 : Nat) := by omega
      have HRQ := Lib.hid hrq
      clear hq hrq hlt
      obtain ⟨d0, d1, d2⟩ := own_int hown' (o + k) (by omega)
      obtain ⟨e0, e1, e2⟩ := own_int hown' (o + r) (by omega)
      have hll := own_len hown'
      have hx1 : L'.getD (o + k) 0 ∈ L' := by rw [getD_eq' L' _ 0 (by omega)]; exact List.getElem_mem _
      have hy1 : L'.getD (o + r) 0 ∈ L' := by rw [getD_eq' L' _ 0 (by omega)]; exact List.getElem_mem _
      obtain ⟨x, hx⟩ : ∃ x, x = L'.getD (o + k) 0 := ⟨_, rfl⟩
      obtain ⟨y, hy⟩ : ∃ y, y = L'.getD (o + r) 0 := ⟨_, rfl⟩
      rw [← hx] at d0 hx1
      rw [← hy] at e0 hy1
      have D2 := Lib.hid ((own_int (d2 y) (o + r) (by omega)).2.2 x)
      have D3 := Lib.hid ((own_int (e2 x) (o + k) (by omega)).2.2 y)
      have M2 := Lib.hid (fun z hz => HM.out z (set_mem2 (i := o + k) (j := o + r) hy1 hx1 z hz))
      have M3 := Lib.hid (fun z hz => HM.out z (set_mem2 (i := o + r) (j := o + k) hx1 hy1 z hz))
      clear d2 e2 hx hy hll hx1 hy1 hown'
      go_wp2_with (fail)
      go_region
      all_goals (go_wp2_with (fail))
      all_goals go_roundw
      all_goals first | (simp [intOf]; omega) | skip
      all_goals first
        | exact ⟨k + 1, (r : Int) - 1, _, by go_num, by go_num, HRQ.out, M2.out, own_of_heap D2.out rfl, gr_drew (gr_set (q := ⟨g, o + r, none⟩) (gr_set (q := ⟨g, o + k, none⟩) hgr rfl _) rfl _)⟩
        | exact ⟨k + 1, (r : Int) - 1, _, by go_num, by go_num, HRQ.out, M3.out, own_of_heap D3.out rfl, gr_drew (gr_set (q := ⟨g, o + k, none⟩) (gr_set (q := ⟨g, o + r, none⟩) hgr rfl _) rfl _)⟩
    · go_wp2_with (fail)
      first | go_end0 | ((try simp only [Exit.inBlock, Exit.then]); refine bodyPost_ret (results_none rfl _ _ _) rfl ?_)
      exact ⟨rfl, ⟨L', HM.out, hown'⟩, hgr⟩
end Go.Proofs.Ytdjnomeabadbnaa
