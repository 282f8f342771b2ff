/- Routes, as the stream makes them. -/
import Derived.Test.YtdjnomeabadbnaaOrderF
import Derived.Test.YtdjnomeabadbnaaStepApp
import Derived.Test.YtdjnomeabadbnaaCloneInt
namespace Go.Proofs.Ytdjnomeabadbnaa
open Go.RowKit
variable {lw : Nat}

def routeC (l : List Int) (k n : Nat) : Nat := (nxt l (k + (n - 1)) ((n : Int) + 1)).toNat
def routeM (l : List Int) (k n : Nat) : List Int := if flipM l (k + (n - 1) + 1) 15 then (ordM l k n).take (routeC l k n) ++ [pickM l (k + (n - 1) + 2) [-1, 0, (n : Int)]] else (ordM l k n).take (routeC l k n)
def routeK (l : List Int) (k n : Nat) : Nat := if flipM l (k + (n - 1) + 1) 15 then k + (n - 1) + 3 else k + (n - 1) + 2
theorem routeC_le (l : List Int) (k n : Nat) : routeC l k n ≤ n := by
  have := nxt_range l (k + (n - 1)) ((n : Int) + 1) (by omega)
  unfold routeC; omega
def RoutePost (l : List Int) (k n p lw : Nat) (w : World) (e : Ending) (w' : World) : Prop :=
  ∃ v, e = .returned v ∧ w'.ownsRow w.heap.size 3 1 v (routeM l k n).length (ints (routeM l k n)) ∧ StreamAt w' p lw l (routeK l k n) ∧ w.grownBy w' (some p)

set_option maxRecDepth 100000 in
set_option maxHeartbeats 2000000 in
theorem route_any (l : List Int) (k n : Nat) (p : Nat) (w : World) (hs : StreamAt w p lw l k) (hk : k < 900000000) (hn : n ≤ 1000) :
    Calls Try.prog 6 #[.pointer (some ⟨p, 0, none⟩), .int .i64 n] w (RoutePost l k n p lw w) := by
  have hlt := hs.lt
  go_enter Try.func6, Try.ntmps6
  go_wp2_with (fail)
  refine (orderF_any l k n p w hs (by omega) (by omega)).mono ?_
  rintro e w2 ⟨v, rfl, hown2, hord, hs2, hg2⟩
  have hol := hord.len
  have HOL := Lib.hid hol
  clear hol hord
  obtain ⟨va, vc, rfl, hvc, _, _, _⟩ := own_shape hown2
  go_wp2_with (fail)
  refine (next_any l (k + (n - 1)) ((n : Int) + 1) p w2 hs2 (by omega) (by omega)).mono ?_
  rintro e w3 ⟨rfl, hs3, hg3⟩
  have hcn := routeC_le l k n
  have hrg := nxt_range l (k + (n - 1)) ((n : Int) + 1) (by omega)
  obtain ⟨c, hc⟩ : ∃ c, c = routeC l k n := ⟨_, rfl⟩
  have hce : nxt l (k + (n - 1)) ((n : Int) + 1) = (c : Int) := by rw [hc]; unfold routeC; omega
  rw [hce]
  rw [← hc] at hcn
  have HC := Lib.hid hc.symm
  have hown3' := own_keepS hown2 hg3 hlt
  have hgr3 := gr_trans hg2 hg3
  have hcvc : c ≤ vc := by omega
  clear hc hce hrg hown2 hg2 hg3 hs2
  cases va with
  | none =>
    obtain ⟨hn0, hv0⟩ := own_nil hown3' rfl
    obtain rfl : n = 0 := hn0
    obtain rfl : vc = 0 := hv0
    obtain rfl : c = 0 := by omega
    have hown3 : w3.ownsRow w.heap.size 3 1 (.slice none 0 0) 0 (ints ((ordM l k 0).take 0)) := World.ownsRow_nil _ _ _ _
    clear hown3'
    go_wp2_with (fail)
    refine (flip_any l (k + (0 - 1) + 1) 15 p w3 hs3 (by omega) (by omega)).mono ?_
    rintro e w4 ⟨rfl, hs4, hg4⟩
    have hown4 := own_keepS hown3 hg4 hlt
    have hgr4 := gr_trans hgr3 hg4
    have hsz4 := hgr4.size
    clear hown3 hg4 hgr3 hs3
    cases hf : flipM l (k + (0 - 1) + 1) 15 with
    | false =>
      have HF := Lib.hid hf
      clear hf
      go_wp2_with (fail)
      go_ret
      have e1 : routeM l k 0 = (ordM l k 0).take 0 := by unfold routeM; rw [HF.out, HC.out]; rfl
      have e2 : routeK l k 0 = k + (0 - 1) + 2 := by unfold routeK; rw [HF.out]; rfl
      refine ⟨_, rfl, ?_, by rw [e2]; exact hs4, hgr4⟩
      rw [e1, List.length_take, HOL.out, Nat.min_eq_left hcn]
      exact hown4
    | true =>
      have HF := Lib.hid hf
      clear hf
      have hcc : CellsAt w4 none (ints ((ordM l k 0).take 0)) := by
        obtain ⟨_, _, he, _, _, hcc, _⟩ := own_shape hown4
        cases he
        exact hcc
      have CL := Lib.hid (cloneInt_any none 0 0 (ints ((ordM l k 0).take 0)) w4 (by rw [Nat.mul_one, ints_length, List.length_take, HOL.out, Nat.min_eq_left hcn]) hcc (fun h => by exact ⟨rfl, rfl⟩) (ints_one _) (by omega))
      clear hcc
      go_wp2_with (fail)
      refine CL.out.mono ?_
      rintro e w5 ⟨v5, rfl, hown5, hg5⟩
      have hs5 := hs4.keep0 hg5
      have hgr5 := gr_trans hgr4 (gr_weak hg5 _)
      have hown5b := own_base hown5 hsz4
      clear hown4 hown5 hg5 hs4
      go_wp2_with (fail)
      refine (pick_any l (k + (0 - 1) + 2) [-1, 0, ((0 : Nat) : Int)] p w5 hs5 (by omega) (by simp) (by simp)).mono ?_
      rintro e w6 ⟨rfl, hs6, hg6⟩
      obtain ⟨x, hx⟩ : ∃ x, x = pickM l (k + (0 - 1) + 2) [-1, 0, ((0 : Nat) : Int)] := ⟨_, rfl⟩
      rw [← hx]
      have HX := Lib.hid hx
      clear hx
      have hown6 := own_keepS hown5b hg6 hlt
      have hgr6 := gr_trans hgr5 hg6
      have hsz6 := hgr6.size
      go_wp2_with (at_builtin; refine wpList_app1 eInt rfl _ _ rfl w.heap.size _ 0 _ rfl w6 #[.int .i64 x] rfl hown6 _ rfl rfl rfl rfl ?_ ?_ ?_; (· omega); (· omega); intro v7 w7 hown7 hg7 hlt7)
      go_ret
      have e1 : routeM l k 0 = (ordM l k 0).take 0 ++ [x] := by unfold routeM; rw [HF.out, HC.out, HX.out]; rfl
      have e2 : routeK l k 0 = k + (0 - 1) + 3 := by unfold routeK; rw [HF.out]; rfl
      refine ⟨v7, rfl, ?_, by rw [e2]; exact hs6.keep hg7 (fun q e => by have := hlt7 q e; omega), gr_grown hgr6 hg7 hlt7⟩
      rw [e1, List.length_append, List.length_take, HOL.out, Nat.min_eq_left hcn]
      simpa [ints] using hown7
  | some ad =>
    obtain ⟨g, hge⟩ : ∃ g, ad = ⟨g, 0, none⟩ := by
      rcases hown3'.2 with ⟨h, _⟩ | ⟨g, _, _, h, _⟩
      · cases h
      · cases h; exact ⟨g, rfl⟩
    subst hge
    have hown3 := own_take hown3' c hcn
    rw [Nat.mul_one, show (ints (ordM l k n)).take c = ints ((ordM l k n).take c) by simp [ints, List.map_take]] at hown3
    clear hown3'
    go_wp2_with (fail)
    refine (flip_any l (k + (n - 1) + 1) 15 p w3 hs3 (by omega) (by omega)).mono ?_
    rintro e w4 ⟨rfl, hs4, hg4⟩
    have hown4 := own_keepS hown3 hg4 hlt
    have hgr4 := gr_trans hgr3 hg4
    have hsz4 := hgr4.size
    clear hown3 hg4 hgr3 hs3
    cases hf : flipM l (k + (n - 1) + 1) 15 with
    | false =>
      have HF := Lib.hid hf
      clear hf
      go_wp2_with (fail)
      go_ret
      have e1 : routeM l k n = (ordM l k n).take c := by unfold routeM; rw [HF.out, HC.out]; rfl
      have e2 : routeK l k n = k + (n - 1) + 2 := by unfold routeK; rw [HF.out]; rfl
      refine ⟨_, rfl, ?_, by rw [e2]; exact hs4, hgr4⟩
      rw [e1, List.length_take, HOL.out, Nat.min_eq_left hcn]
      exact hown4
    | true =>
      have HF := Lib.hid hf
      clear hf
      have hcc : CellsAt w4 (some ⟨g, 0, none⟩) (ints ((ordM l k n).take c)) := by
        obtain ⟨_, _, he, _, _, hcc, _⟩ := own_shape hown4
        cases he
        exact hcc
      have CL := Lib.hid (cloneInt_any (some ⟨g, 0, none⟩) c vc (ints ((ordM l k n).take c)) w4 (by rw [Nat.mul_one, ints_length, List.length_take, HOL.out, Nat.min_eq_left hcn]) hcc (fun h => by cases h) (ints_one _) (by omega))
      clear hcc
      go_wp2_with (fail)
      refine CL.out.mono ?_
      rintro e w5 ⟨v5, rfl, hown5, hg5⟩
      have hs5 := hs4.keep0 hg5
      have hgr5 := gr_trans hgr4 (gr_weak hg5 _)
      have hown5b := own_base hown5 hsz4
      clear hown4 hown5 hg5 hs4
      go_wp2_with (fail)
      refine (pick_any l (k + (n - 1) + 2) [-1, 0, (n : Int)] p w5 hs5 (by omega) (by simp) (by simp)).mono ?_
      rintro e w6 ⟨rfl, hs6, hg6⟩
      obtain ⟨x, hx⟩ : ∃ x, x = pickM l (k + (n - 1) + 2) [-1, 0, (n : Int)] := ⟨_, rfl⟩
      rw [← hx]
      have HX := Lib.hid hx
      clear hx
      have hown6 := own_keepS hown5b hg6 hlt
      have hgr6 := gr_trans hgr5 hg6
      have hsz6 := hgr6.size
      go_wp2_with (at_builtin; refine wpList_app1 eInt rfl _ _ rfl w.heap.size _ c _ rfl w6 #[.int .i64 x] rfl hown6 _ rfl rfl rfl rfl ?_ ?_ ?_; (· omega); (· omega); intro v7 w7 hown7 hg7 hlt7)
      go_ret
      have e1 : routeM l k n = (ordM l k n).take c ++ [x] := by unfold routeM; rw [HF.out, HC.out, HX.out]; rfl
      have e2 : routeK l k n = k + (n - 1) + 3 := by unfold routeK; rw [HF.out]; rfl
      refine ⟨v7, rfl, ?_, by rw [e2]; exact hs6.keep hg7 (fun q e => by have := hlt7 q e; omega), gr_grown hgr6 hg7 hlt7⟩
      rw [e1, List.length_append, List.length_take, HOL.out, Nat.min_eq_left hcn]
      simpa [ints] using hown7
end Go.Proofs.Ytdjnomeabadbnaa
