/- A coil, as the stream makes it. Written by gen_coil.py. -/
import Derived.Test.YtdjnomeabadbnaaDoorPieces
import Derived.Deep.DrawnRows
import Derived.IntWalk
import Derived.Test.YtdjnomeabadbnaaDoorFieldApp
import Derived.Test.YtdjnomeabadbnaaDoorMakeInts
import Derived.WalkLawsBesides
import Derived.Deep.DeepCutAuto
import Derived.Deep.CutBlock
namespace Go.Proofs.YtdjnomeabadbnaaDoor
open Go.RowKit
variable {lw : Nat}
attribute [local go_sem ↓] Go.wp_at_zero Go.wp_at_succ

structure Coil where
  prod : ByteArray
  most : Int
  ps : List Piece
structure CoilSt where
  ps : List Piece
  room : Int
  last : ByteArray
  k : Nat
def coilTo (l : List Int) (k : Nat) (most : Int) : Nat → CoilSt
  | 0 => ⟨[], most, ⟨#[]⟩, k⟩
  | i + 1 =>
    if (oneS l (coilTo l k most i).k pcKeys).toList == (coilTo l k most i).last.toList || decide ((coilTo l k most i).room < pickM l ((coilTo l k most i).k + 1) [1, 2, 4]) then ⟨(coilTo l k most i).ps, (coilTo l k most i).room, (coilTo l k most i).last, (coilTo l k most i).k + 1 + 1⟩
    else ⟨(coilTo l k most i).ps ++ [⟨oneS l (coilTo l k most i).k pcKeys, pickM l ((coilTo l k most i).k + 1) [1, 2, 4]⟩], (coilTo l k most i).room - pickM l ((coilTo l k most i).k + 1) [1, 2, 4], oneS l (coilTo l k most i).k pcKeys, (coilTo l k most i).k + 1 + 1⟩
theorem coilTo_bd (l : List Int) (k : Nat) (most : Int) (h : 0 ≤ most) (i : Nat) : (coilTo l k most i).ps.length ≤ i ∧ (coilTo l k most i).k = k + 2 * i ∧ 0 ≤ (coilTo l k most i).room ∧ (coilTo l k most i).room ≤ most := by
  induction i with
  | zero => simp [coilTo]; exact h
  | succ i ih =>
    have hp := pickM_mem l ((coilTo l k most i).k + 1) [1, 2, 4] (by decide)
    simp only [List.mem_cons, List.not_mem_nil, or_false] at hp
    simp only [coilTo]
    split
    · simp only; omega
    · rename_i hc
      simp only [Bool.or_eq_true, decide_eq_true_eq, not_or] at hc
      simp; omega
def coilMost (l : List Int) (k : Nat) : Int := pickM l k [5, 10, 15, 30]
def coilN (l : List Int) (k : Nat) : Nat := (nxt l (k + 1) 4).toNat
def coilS (l : List Int) (k : Nat) : CoilSt := coilTo l (k + 1 + 1) (coilMost l k) (coilN l k)
def coilEnd (l : List Int) (m : Int) (s : CoilSt) : Coil × Nat :=
  if flipM l s.k 15 then
    if nxt l (s.k + 1) 4 = 0 then (⟨oneS l (s.k + 1 + 1) [⟨#[]⟩, ⟨#[67]⟩, ⟨#[98, 97, 114]⟩], m, s.ps⟩, s.k + 1 + 1 + 1)
    else if nxt l (s.k + 1) 4 = 1 then (⟨⟨#[99, 97, 110]⟩, pickM l (s.k + 1 + 1) [-1, 0, 1001], s.ps⟩, s.k + 1 + 1 + 1)
    else if nxt l (s.k + 1) 4 = 2 then (⟨⟨#[99, 97, 110]⟩, m, s.ps ++ [⟨oneS l (s.k + 1 + 1) [⟨#[]⟩, s.last, ⟨#[122, 122]⟩], pickM l (s.k + 1 + 1 + 1) [0, 1, 1001]⟩]⟩, s.k + 1 + 1 + 1 + 1)
    else (⟨⟨#[99, 97, 110]⟩, m, s.ps ++ s.ps⟩, s.k + 1 + 1)
  else (⟨⟨#[99, 97, 110]⟩, m, s.ps⟩, s.k + 1)
def coilM (l : List Int) (k : Nat) : Coil × Nat := coilEnd l (coilMost l k) (coilS l k)
def CoilPost (l : List Int) (k p lw : Nat) (w : World) (e : Ending) (w' : World) : Prop :=
  ∃ v, e = .returned (.agg #[.string (coilM l k).1.prod, .int .i64 (coilM l k).1.most, v]) ∧ w'.ownsRow w.heap.size 94 2 v (coilM l k).1.ps.length (flat encPc (coilM l k).1.ps) ∧ StreamAt w' p lw l (coilM l k).2 ∧ w.grownBy w' (some p)
/-- What stands while the coil is made. -/
structure CoilW (wx w : World) (p lw R C : Nat) (l : List Int) (q : Nat) (P : ByteArray) (m : Int) (v : Value) (S : List Piece) : Prop where
  own : wx.ownsRow R 94 2 v S.length (flat encPc S)
  bC : wx.heap[C]? = some (.cells #[.string P, .int .i64 m, v] 83 (0, 0))
  bR : wx.heap[R]? = some (.cells #[.string ⟨#[]⟩, .int .i64 0, .slice none 0 0] 83 (0, 0))
  str : StreamAt wx p lw l q
  gr : w.grownBy wx (some p)
theorem CoilW.keepS {wx wy w : World} {p R C : Nat} {l : List Int} {q q' : Nat} {P : ByteArray} {m : Int} {v : Value} {S : List Piece} (h : CoilW wx w p lw R C l q P m v S) (g : wx.grownBy wy (some p)) (hs : StreamAt wy p lw l q') (hpR : p < R) (hRC : R < C) : CoilW wy w p lw R C l q' P m v S :=
  ⟨own_keepS h.own g hpR, (g.block C (lt_of_block h.bC) (by simp; omega)).trans h.bC, (g.block R (lt_of_block h.bR) (by simp; omega)).trans h.bR, hs, gr_trans h.gr g⟩
theorem CoilW.set {wx w : World} {p R C : Nat} {l : List Int} {q : Nat} {P P' : ByteArray} {m m' : Int} {v v' : Value} {S S' : List Piece} {wy wz : World} (h : CoilW wx w p lw R C l q P m v S) (hpR : p < R) (hRC : R < C) (hw : w.heap.size ≤ R)
    (g : wx.grownBy wy v.ownBlock) (ho : wy.ownsRow R 94 2 v' S'.length (flat encPc S')) (g2 : wy.grownBy wz (some C)) (hb : wz.heap[C]? = some (.cells #[.string P', .int .i64 m', v'] 83 (0, 0))) (hC : wy.heap[C]? = some (.cells #[.string P, .int .i64 m, v] 83 (0, 0))) : CoilW wz w p lw R C l q P' m' v' S' := by
  have nR : v.ownBlock ≠ some R := own_ne h.own h.bR (by decide)
  have hge : ∀ b, v.ownBlock = some b → R ≤ b := fun b e => (h.own.lt b e).1
  refine ⟨own_keep ho g2 (.inr (own_ne ho hC (by decide))), hb, ?_, ?_, ?_⟩
  · have h1 := (g.block R (lt_of_block h.bR) (fun e => nR e.symm)).trans h.bR
    exact (g2.block R (lt_of_block h1) (by simp; omega)).trans h1
  · exact (h.str.keep g (fun b e => by have := hge b e; omega)).keep g2 (fun b e => by cases e; omega)
  · exact gr_grown (gr_grown h.gr g (fun b e => by have := hge b e; omega)) g2 (fun b e => by cases e; omega)
theorem own_nilV {w : World} {base e size n : Nat} {v : Value} {xs : List Value} (h : w.ownsRow base e size v n xs) : ∀ a m c, v = .slice a m c → a = none → n = 0 ∧ c = 0 := by
  intro a m c hv ha
  rcases h.2 with ⟨rfl, rfl⟩ | ⟨g, cap, cur, rfl, _⟩
  · cases hv; exact ⟨rfl, rfl⟩
  · cases hv; cases ha
theorem KeepN (w w7 : World) (p R C : Nat) (sv : Value) (hp : p < R) (hRC : R < C) (hw : w.heap.size ≤ R) (hRl : R < w7.heap.size) (hs : ∀ q, sv.ownBlock = some q → R < q) :
    ∀ wx wy r, KeepC w w7 p R 0 0 (.slice none 0 0) 0 [] 0 0 (.slice none 0 0) 0 [] wx → wx.grownBy wy r → (∀ q, r = some q → q = p ∨ q = C ∨ sv.ownBlock = some q) → KeepC w w7 p R 0 0 (.slice none 0 0) 0 [] 0 0 (.slice none 0 0) 0 [] wy :=
  KeepC.keep hp hRC hw hRl hs (by simp [Value.ownBlock]) (by simp [Value.ownBlock]) (fun q h => by simp [Value.ownBlock] at h) (fun q h => by simp [Value.ownBlock] at h)
set_option maxRecDepth 100000 in
set_option maxHeartbeats 4000000 in
theorem coil_any (l : List Int) (k : Nat) (p : Nat) (w : World) (hs : StreamAt w p lw l k) (hk : k < 800000000) :
    Calls Tryd.prog 37 #[.pointer (some ⟨p, 0, none⟩)] w (CoilPost l k p lw w) := by
  have hlt := hs.lt
  have hR1 := heap_alloc_new w (.cells #[.string ⟨#[]⟩, .int .i64 0, .slice none 0 0] 83)
  have hg1 := gr_alloc (gr_refl w none) (.cells #[.string ⟨#[]⟩, .int .i64 0, .slice none 0 0] 83)
  obtain ⟨w1, hw1⟩ : ∃ w1, w1 = w.alloc (.cells #[.string ⟨#[]⟩, .int .i64 0, .slice none 0 0] 83) := ⟨_, rfl⟩
  have hz1 : w1.heap.size = w.heap.size + 1 := by rw [hw1]; simp
  have HZ1 := Lib.hid hz1.symm
  rw [← hw1] at hR1 hg1
  have hs1 := hs.keep0 hg1
  obtain ⟨R, hR⟩ : ∃ R, R = w.heap.size := ⟨_, rfl⟩
  rw [← hR] at hR1 hz1 hlt
  have hwR : w.heap.size ≤ R := by omega
  have hpR : p < R := hlt
  have HR := Lib.hid hR
  have HW1 := Lib.hid hw1
  have HM : Hid (coilM l k = coilEnd l (coilMost l k) (coilTo l (k + 1 + 1) (coilMost l k) (coilN l k))) := rfl
  have hmm := pickM_mem l k [5, 10, 15, 30] (by decide)
  have hm0 : Hid (pickM l k [5, 10, 15, 30] = coilMost l k) := rfl
  rw [hm0.out] at hmm
  have hnr := nxt_range l (k + 1) 4 (by decide)
  have hnn : Hid (nxt l (k + 1) 4 = ((coilN l k : Nat) : Int)) := by show _ = _; unfold coilN; omega
  obtain ⟨n, hn⟩ : ∃ n, n = coilN l k := ⟨_, rfl⟩
  have hn3 : n ≤ 3 := by rw [hn]; unfold coilN; omega
  obtain ⟨m, hm⟩ : ∃ m, m = coilMost l k := ⟨_, rfl⟩
  rw [← hm] at hmm hm0 HM
  rw [← hn] at hnn HM
  simp only [List.mem_cons, List.not_mem_nil, or_false] at hmm
  have hmA : 5 ≤ m ∧ m ≤ 30 := by omega
  obtain ⟨hm5, hm30⟩ := hmA
  obtain ⟨dt, hd1⟩ := und_struct (P := Tryd.prog) (t := 83) (by kernel_rfl)
  clear hs hw1 hR hm hn hmm hnr
  go_enter Tryd.func37, Tryd.ntmps37
  go_wp2_with (fail)
  rw [← HW1.out, HZ1.out]
  refine (pick_any l k [5, 10, 15, 30] p w1 hs1 (by omega) (by decide) (by decide)).mono ?_
  rintro e w2 ⟨rfl, hs2, hg2⟩
  rw [hm0.out]
  have hR2 := (hg2.block R (lt_of_block hR1) (by simp; omega)).trans hR1
  have hgr2 := gr_trans (gr_weak hg1 (some p)) hg2
  have hz2 := hg2.size
  rw [← HR.out]
  clear hs1 hR1 hg1 hg2
  go_wp2_with (fail)
  have hC3 := heap_alloc_new w2 (.cells #[.string ⟨#[99, 97, 110]⟩, .int .i64 m, .slice none 0 0] 83)
  have hg3 := gr_alloc (gr_refl w2 none) (.cells #[.string ⟨#[99, 97, 110]⟩, .int .i64 m, .slice none 0 0] 83)
  obtain ⟨w3, hw3⟩ : ∃ w3, w3 = w2.alloc (.cells #[.string ⟨#[99, 97, 110]⟩, .int .i64 m, .slice none 0 0] 83) := ⟨_, rfl⟩
  rw [← hw3] at hC3 hg3
  rw [← hw3]
  obtain ⟨C, hC⟩ : ∃ C, C = w2.heap.size := ⟨_, rfl⟩
  rw [← hC] at hC3
  rw [← hC]
  have hRC : R < C := by omega
  have hW3 : CoilW w3 w p lw R C l (k + 1) ⟨#[99, 97, 110]⟩ m (.slice none 0 0) [] := ⟨World.ownsRow_nil _ _ _ _, hC3, (hg3.block R (lt_of_block hR2) (by simp)).trans hR2, hs2.keep0 hg3, gr_trans hgr2 (gr_weak hg3 _)⟩
  clear hw3 hC hR2 hgr2 hs2 hC3 hg3 hz2 hz1
  refine (next_any l (k + 1) 4 p w3 hW3.str (by omega) (by omega)).mono ?_
  rintro e w4 ⟨rfl, hs4, hg4⟩
  rw [hnn.out]
  have hW4 := hW3.keepS hg4 hs4 hpR hRC
  clear hW3 hs4 hg4
  go_wp2_with (fail)
  go_loopw [4, 5, 16] (fun rm la c wr => ∃ (i : Nat) (v : Value), i ≤ n ∧ c = .int .i64 i ∧ rm = .int .i64 (coilTo l (k + 1 + 1) m i).room ∧ la = .string (coilTo l (k + 1 + 1) m i).last ∧ CoilW wr w p lw R C l (coilTo l (k + 1 + 1) m i).k ⟨#[99, 97, 110]⟩ m v (coilTo l (k + 1 + 1) m i).ps) (fun _ _ c _ => n - (intOf c).toNat)
  case atStart => exact ⟨0, _, by omega, rfl, rfl, rfl, hW4⟩
  case round =>
    clear hW4
    obtain ⟨i, v, hi, rfl, rfl, rfl, hWo⟩ := hrel
    obtain ⟨wo, rfl⟩ : ∃ wo : World, wo = wr := ⟨_, rfl⟩
    have hbd := coilTo_bd l (k + 1 + 1) m (by omega) i
    by_cases hin : i < n
    · have HST : Hid (coilTo l (k + 1 + 1) m (i + 1) = if (oneS l (coilTo l (k + 1 + 1) m i).k pcKeys).toList == (coilTo l (k + 1 + 1) m i).last.toList || decide ((coilTo l (k + 1 + 1) m i).room < pickM l ((coilTo l (k + 1 + 1) m i).k + 1) [1, 2, 4]) then ⟨(coilTo l (k + 1 + 1) m i).ps, (coilTo l (k + 1 + 1) m i).room, (coilTo l (k + 1 + 1) m i).last, (coilTo l (k + 1 + 1) m i).k + 1 + 1⟩
        else ⟨(coilTo l (k + 1 + 1) m i).ps ++ [⟨oneS l (coilTo l (k + 1 + 1) m i).k pcKeys, pickM l ((coilTo l (k + 1 + 1) m i).k + 1) [1, 2, 4]⟩], (coilTo l (k + 1 + 1) m i).room - pickM l ((coilTo l (k + 1 + 1) m i).k + 1) [1, 2, 4], oneS l (coilTo l (k + 1 + 1) m i).k pcKeys, (coilTo l (k + 1 + 1) m i).k + 1 + 1⟩) := rfl
      obtain ⟨s, hs⟩ : ∃ s, s = coilTo l (k + 1 + 1) m i := ⟨_, rfl⟩
      rw [← hs] at hWo hbd HST
      rw [← hs]
      obtain ⟨S, room, last, q⟩ := s
      simp only at hWo hbd HST ⊢
      obtain ⟨hSl, hqe, hr0, hr1⟩ := hbd
      have hq9 : q < 900000000 := by omega
      clear hs hqe
      go_wp2_with (fail)
      refine (one_any l q pcKeys p wo hWo.str (by omega) (by decide) (by decide)).mono ?_
      rintro e w5 ⟨rfl, hs5, hg5⟩
      have hW5 := hWo.keepS hg5 hs5 hpR hRC
      clear hWo hs5 hg5
      go_wp2_with (fail)
      refine (pick_any l (q + 1) [1, 2, 4] p w5 hW5.str (by omega) (by decide) (by decide)).mono ?_
      rintro e w6 ⟨rfl, hs6, hg6⟩
      have hW6 := hW5.keepS hg6 hs6 hpR hRC
      have hy := pickM_mem l (q + 1) [1, 2, 4] (by decide)
      simp only [List.mem_cons, List.not_mem_nil, or_false] at hy
      obtain ⟨K, hK⟩ : ∃ K, K = oneS l q pcKeys := ⟨_, rfl⟩
      obtain ⟨y, hye⟩ : ∃ y, y = pickM l (q + 1) [1, 2, 4] := ⟨_, rfl⟩
      rw [← hye] at hy HST
      rw [← hK] at HST
      rw [← hK, ← hye]
      have hyb : 1 ≤ y ∧ y ≤ 4 := by omega
      obtain ⟨hy1, hy4⟩ := hyb
      have HW6 := Lib.hid hW6
      clear hW5 hs6 hg6 hK hye hy hW6
      cases hq1 : (K.toList == last.toList) with
      | true =>
        have HS2 : Hid (coilTo l (k + 1 + 1) m (i + 1) = ⟨S, room, last, q + 1 + 1⟩) := by show _ = _; rw [HST.out, hq1]; rfl
        go_wp2_with (fail)
        go_roundw
        case rel => exact ⟨i + 1, v, by omega, by go_num, by rw [HS2.out], by rw [HS2.out], by rw [HS2.out]; exact HW6.out⟩
        case measure => simp [intOf]; omega
      | false =>
        by_cases hq2 : room < y
        · have HS2 : Hid (coilTo l (k + 1 + 1) m (i + 1) = ⟨S, room, last, q + 1 + 1⟩) := by show _ = _; rw [HST.out, hq1]; simp [hq2]
          have hq3 : decide (room < y) = true := by simpa using hq2
          go_wp2_with (fail)
          go_roundw
          case rel => exact ⟨i + 1, v, by omega, by go_num, by rw [HS2.out], by rw [HS2.out], by rw [HS2.out]; exact HW6.out⟩
          case measure => simp [intOf]; omega
        · have HS2 : Hid (coilTo l (k + 1 + 1) m (i + 1) = ⟨S ++ [⟨K, y⟩], room - y, K, q + 1 + 1⟩) := by show _ = _; rw [HST.out, hq1]; simp [hq2]
          have hq3 : decide (room < y) = false := by simpa using hq2
          have c2 : w6.cell? ⟨C, 2, none⟩ = some v := blkC HW6.out.bC 2 rfl
          have f2 : w6.frozen? ⟨C, 2, none⟩ = false := blkF HW6.out.bC 2
          have hRl : R ≤ w6.heap.size := Nat.le_of_lt (lt_of_block HW6.out.bR)
          go_wp2_with (at_builtin; refine wpList_app1F ePc rfl _ _ rfl R v S.length (flat encPc S) rfl w6 #[.string K, .int .i64 y] rfl HW6.out.own _ rfl rfl rfl rfl (by omega) hRl ?_; intro v7 w7 ho7 g7 hlt7 hf7; have hC7 := (g7.block C (lt_of_block HW6.out.bC) (fun e => own_ne HW6.out.own HW6.out.bC (by decide) e.symm)).trans HW6.out.bC; obtain ⟨g8, c8, e8, -, -, -, -⟩ := own_some ho7 (by omega); subst e8; have d2 := blkC hC7 2 rfl; have e2 := blkF hC7 2; have HC7 := Lib.hid hC7; have HO7 := Lib.hid ho7; have HG7 := Lib.hid g7; clear hC7 ho7 g7 hlt7 hf7)
          go_roundw
          case rel =>
            have hb := heap_setCell_same w7 C 2 _ 83 (.slice (some ⟨g8, 0, none⟩) (S.length + 1) c8) HC7.out
            have hW8 := HW6.out.set (P' := ⟨#[99, 97, 110]⟩) (m' := m) (S' := S ++ [⟨K, y⟩]) hpR hRC hwR HG7.out (by rw [List.length_append, flat_append, flat_one]; exact HO7.out) (gr_set (q := ⟨C, 2, none⟩) (gr_refl w7 (some C)) rfl _) hb HC7.out
            exact ⟨i + 1, _, by omega, by go_num, by rw [HS2.out], by rw [HS2.out], by rw [HS2.out]; exact hW8⟩
          case measure => simp [intOf]; omega
    · obtain rfl : i = n := by omega
      obtain ⟨s, hs⟩ : ∃ s, s = coilTo l (k + 1 + 1) m i := ⟨_, rfl⟩
      rw [← hs] at hWo hbd HM
      rw [← hs]
      obtain ⟨S, room, last, q⟩ := s
      simp only at hWo hbd ⊢
      obtain ⟨hSl, hqe, hr0, hr1⟩ := hbd
      have hq9 : q < 900000000 := by omega
      have HE : Hid (coilEnd l m ⟨S, room, last, q⟩ = if flipM l q 15 then
        if nxt l (q + 1) 4 = 0 then (⟨oneS l (q + 1 + 1) [⟨#[]⟩, ⟨#[67]⟩, ⟨#[98, 97, 114]⟩], m, S⟩, q + 1 + 1 + 1)
        else if nxt l (q + 1) 4 = 1 then (⟨⟨#[99, 97, 110]⟩, pickM l (q + 1 + 1) [-1, 0, 1001], S⟩, q + 1 + 1 + 1)
        else if nxt l (q + 1) 4 = 2 then (⟨⟨#[99, 97, 110]⟩, m, S ++ [⟨oneS l (q + 1 + 1) [⟨#[]⟩, last, ⟨#[122, 122]⟩], pickM l (q + 1 + 1 + 1) [0, 1, 1001]⟩]⟩, q + 1 + 1 + 1 + 1)
        else (⟨⟨#[99, 97, 110]⟩, m, S ++ S⟩, q + 1 + 1)
        else (⟨⟨#[99, 97, 110]⟩, m, S⟩, q + 1)) := rfl
      clear hs hqe hin hi
      go_wp2_with (fail)
      refine (flip_any l q 15 p wo hWo.str (by omega) (by omega)).mono ?_
      rintro e w5 ⟨rfl, hs5, hg5⟩
      have HW5 := Lib.hid (hWo.keepS hg5 hs5 hpR hRC)
      obtain ⟨fl, hfl⟩ : ∃ b, b = flipM l q 15 := ⟨_, rfl⟩
      rw [← hfl] at HE
      rw [← hfl]
      clear hWo hs5 hg5 hfl
      go_upto_if 46 with (fail)
      go_cut [48] (fun _ wx => ∃ (P : ByteArray) (m' : Int) (v' : Value) (S' : List Piece) (q' : Nat), coilM l k = (⟨P, m', S'⟩, q') ∧ CoilW wx w p lw R C l q' P m' v' S')
      case first =>
        cases fl with
        | false =>
          have HEE : Hid (coilM l k = (⟨⟨#[99, 97, 110]⟩, m, S⟩, q + 1)) := by show _ = _; rw [HM.out, HE.out]; rfl
          go_wp2_with (fail)
          go_meet
          exact ⟨_, _, _, _, _, HEE.out, HW5.out⟩
        | true =>
          have HE2 : Hid (coilM l k = if nxt l (q + 1) 4 = 0 then (⟨oneS l (q + 1 + 1) [⟨#[]⟩, ⟨#[67]⟩, ⟨#[98, 97, 114]⟩], m, S⟩, q + 1 + 1 + 1)
            else if nxt l (q + 1) 4 = 1 then (⟨⟨#[99, 97, 110]⟩, pickM l (q + 1 + 1) [-1, 0, 1001], S⟩, q + 1 + 1 + 1)
            else if nxt l (q + 1) 4 = 2 then (⟨⟨#[99, 97, 110]⟩, m, S ++ [⟨oneS l (q + 1 + 1) [⟨#[]⟩, last, ⟨#[122, 122]⟩], pickM l (q + 1 + 1 + 1) [0, 1, 1001]⟩]⟩, q + 1 + 1 + 1 + 1)
            else (⟨⟨#[99, 97, 110]⟩, m, S ++ S⟩, q + 1 + 1)) := by show _ = _; rw [HM.out, HE.out]; rfl
          clear HM HE
          go_wp2_with (fail)
          refine (next_any l (q + 1) 4 p w5 HW5.out.str (by omega) (by omega)).mono ?_
          rintro e w6 ⟨rfl, hs6, hg6⟩
          have HW6 := Lib.hid (HW5.out.keepS hg6 hs6 hpR hRC)
          have hdr := nxt_range l (q + 1) 4 (by decide)
          obtain ⟨d, hd⟩ : ∃ d, d = nxt l (q + 1) 4 := ⟨_, rfl⟩
          rw [← hd] at hdr HE2
          rw [← hd]
          obtain ⟨hd0, hd4⟩ := hdr
          clear hs6 hg6 hd HW5
          by_cases h0 : d = 0
          · have HEE : Hid (coilM l k = (⟨oneS l (q + 1 + 1) [⟨#[]⟩, ⟨#[67]⟩, ⟨#[98, 97, 114]⟩], m, S⟩, q + 1 + 1 + 1)) := by show _ = _; rw [HE2.out, if_pos h0]
            have b0 : (d == 0) = true := by simp; omega
            clear h0 HE2
            go_wp2_with (fail)
            refine (one_any l (q + 1 + 1) [⟨#[]⟩, ⟨#[67]⟩, ⟨#[98, 97, 114]⟩] p w6 HW6.out.str (by omega) (by decide) (by decide)).mono ?_
            rintro e w7 ⟨rfl, hs7, hg7⟩
            have HW7 := Lib.hid (HW6.out.keepS hg7 hs7 hpR hRC)
            have c0 : w7.cell? ⟨C, 0, none⟩ = some (.string ⟨#[99, 97, 110]⟩) := blkC HW7.out.bC 0 rfl
            have f0 : w7.frozen? ⟨C, 0, none⟩ = false := blkF HW7.out.bC 0
            obtain ⟨P', hP'⟩ : ∃ P', P' = oneS l (q + 1 + 1) [⟨#[]⟩, ⟨#[67]⟩, ⟨#[98, 97, 114]⟩] := ⟨_, rfl⟩
            rw [← hP'] at HEE
            rw [← hP']
            clear hs7 hg7 HW6 hP'
            go_wp2_with (fail)
            go_meet
            have hb := heap_setCell_same w7 C 0 _ 83 (.string P') HW7.out.bC
            exact ⟨P', m, v, S, _, HEE.out, HW7.out.set (P' := P') (m' := m) (v' := v) (S' := S) hpR hRC hwR (gr_refl _ _) HW7.out.own (gr_set (q := ⟨C, 0, none⟩) (gr_refl w7 (some C)) rfl _) hb HW7.out.bC⟩
          by_cases h1 : d = 1
          · have HEE : Hid (coilM l k = (⟨⟨#[99, 97, 110]⟩, pickM l (q + 1 + 1) [-1, 0, 1001], S⟩, q + 1 + 1 + 1)) := by show _ = _; rw [HE2.out, if_neg h0, if_pos h1]
            have b0 : (d == 0) = false := by simp; omega
            have b1 : (d == 1) = true := by simp; omega
            clear h0 h1 HE2
            go_wp2_with (fail)
            refine (pick_any l (q + 1 + 1) [-1, 0, 1001] p w6 HW6.out.str (by omega) (by decide) (by decide)).mono ?_
            rintro e w7 ⟨rfl, hs7, hg7⟩
            have HW7 := Lib.hid (HW6.out.keepS hg7 hs7 hpR hRC)
            have c1 : w7.cell? ⟨C, 1, none⟩ = some (.int .i64 m) := blkC HW7.out.bC 1 rfl
            have f1 : w7.frozen? ⟨C, 1, none⟩ = false := blkF HW7.out.bC 1
            obtain ⟨y, hy⟩ : ∃ y, y = pickM l (q + 1 + 1) [-1, 0, 1001] := ⟨_, rfl⟩
            rw [← hy] at HEE
            rw [← hy]
            clear hs7 hg7 HW6 hy
            go_wp2_with (fail)
            go_meet
            have hb := heap_setCell_same w7 C 1 _ 83 (.int .i64 y) HW7.out.bC
            exact ⟨⟨#[99, 97, 110]⟩, y, v, S, _, HEE.out, HW7.out.set (P' := ⟨#[99, 97, 110]⟩) (m' := y) (v' := v) (S' := S) hpR hRC hwR (gr_refl _ _) HW7.out.own (gr_set (q := ⟨C, 1, none⟩) (gr_refl w7 (some C)) rfl _) hb HW7.out.bC⟩
          by_cases h2 : d = 2
          · have HEE : Hid (coilM l k = (⟨⟨#[99, 97, 110]⟩, m, S ++ [⟨oneS l (q + 1 + 1) [⟨#[]⟩, last, ⟨#[122, 122]⟩], pickM l (q + 1 + 1 + 1) [0, 1, 1001]⟩]⟩, q + 1 + 1 + 1 + 1)) := by show _ = _; rw [HE2.out, if_neg h0, if_neg h1, if_pos h2]
            have b0 : (d == 0) = false := by simp; omega
            have b1 : (d == 1) = false := by simp; omega
            have b2 : (d == 2) = true := by simp; omega
            obtain ⟨va, vc, rfl, -, -, -, -⟩ := own_shape HW6.out.own
            clear h0 h1 h2 HE2
            go_wp2_with (fail)
            refine wp_field_append (X := { p := p, lw := lw, L := l, k0 := q + 1 + 1, C := C, fo := 2, tC := 83, cs := #[.string ⟨#[99, 97, 110]⟩, .int .i64 m, .slice va S.length vc], base := R, e := 94, size := 2, sv := .slice va S.length vc, n := S.length, xs := flat encPc S, news := [.string (oneS l (q + 1 + 1) [⟨#[]⟩, last, ⟨#[122, 122]⟩]), .int .i64 (pickM l (q + 1 + 1 + 1) [0, 1, 1001])] })
              (f := 12) (by kernel_rfl) (by kernel_rfl) (by kernel_rfl) (by decide) (by kernel_rfl)
              (Keep := KeepC w w6 p R 0 0 (.slice none 0 0) 0 [] 0 0 (.slice none 0 0) 0 []) (KeepN w w6 p R C (.slice va S.length vc) hpR hRC hwR (lt_of_block HW6.out.bR) (fun b e => by have h1 := (HW6.out.own.lt b e).1; have h2 : b ≠ R := (fun h => own_ne HW6.out.own HW6.out.bR (by decide) (by rw [e, h])); omega))
              (calls := [5, 8]) (by decide) (by decide) (iA := 11) (iS := 13) (by decide) (by decide) (by decide) (by kernel_rfl) (specs := [.eq (.pointer (some ⟨C, 2, none⟩)), .eq (.slice va S.length vc), .eq (.pointer (some ⟨p, 0, none⟩)), .eq (.string last), .blk 3 #[.string { data := #[] }, .string last, .string { data := #[122, 122] }] 9, .eq (.string (oneS l (q + 1 + 1) [⟨#[]⟩, last, ⟨#[122, 122]⟩])), .eq (.pointer (some ⟨p, 0, none⟩)), .blk 3 #[.int .i64 0, .int .i64 1, .int .i64 1001] 3, .eq (.int .i64 (pickM l (q + 1 + 1 + 1) [0, 1, 1001])), .eq (.agg #[.string (oneS l (q + 1 + 1) [⟨#[]⟩, last, ⟨#[122, 122]⟩]), .int .i64 (pickM l (q + 1 + 1 + 1) [0, 1, 1001])]), .blk 1 #[.string (oneS l (q + 1 + 1) [⟨#[]⟩, last, ⟨#[122, 122]⟩]), .int .i64 (pickM l (q + 1 + 1 + 1) [0, 1, 1001])] 94, .row, .eq (.pointer (some ⟨C, 2, none⟩)), .any]) rfl rfl ?rows
              hpR (Nat.le_of_lt hRC) (by show (94 : Nat) ≠ 83; decide) HW6.out.str ⟨World.ownsRow_nil _ _ _ _, World.ownsRow_nil _ _ _ _, rfl, gr_drew HW6.out.gr, Nat.le_refl _⟩ HW6.out.own HW6.out.bC (t := 81) (E := ePc) (oA := _) (hoA := rfl) (ta := 70) (tx := 79) (hopA := rfl)
              (ja := 1) (jx := 10) (oa := _) (ox := _) (hja := rfl) (hjx := rfl) (hta := rfl) (htx := rfl) (hda := by kernel_rfl) (hdx := by kernel_rfl) (cA := #[.string (oneS l (q + 1 + 1) [⟨#[]⟩, last, ⟨#[122, 122]⟩]), .int .i64 (pickM l (q + 1 + 1 + 1) [0, 1, 1001])]) (hsa := rfl) (hsx := rfl) (hcA := rfl) (hlA := rfl) (h1A := rfl) (hnb := by show S.length + 1 ≤ 137438953472; omega)
              (tA := 80) (htA := rfl) (oS := _) (hoS := rfl) (T := 81) (tp := 81) (hopS := rfl) (hSA := by kernel_rfl) (jp := 12) (op := _) (hjp := rfl) (htp := rfl) (hdp := by kernel_rfl) (hsp := rfl) (hst := ?hst) (hops := ?hops) (hdone := ?hdone)
            case rows =>
              intro j hj
              rcases Nat.lt_or_ge j 14 with h | h
              · obtain rfl | rfl | rfl | rfl | rfl | rfl | rfl | rfl | rfl | rfl | rfl | rfl | rfl | rfl : j = 0 ∨ j = 1 ∨ j = 2 ∨ j = 3 ∨ j = 4 ∨ j = 5 ∨ j = 6 ∨ j = 7 ∨ j = 8 ∨ j = 9 ∨ j = 10 ∨ j = 11 ∨ j = 12 ∨ j = 13 := by omega
                all_goals first | rfl | cases hj
              · rw [List.getD_eq_getElem?_getD, List.getElem?_eq_none (by exact h)] at hj; cases hj
            case hst =>
              intro wx g c hb
              have f0 := blkF hb 2
              have c0 := blkC hb 2 rfl
              go_simp
            case hops =>
              intro i o listed a wx ho hiA hiS hun hpre hde hld hS hout hval
              have hi : i < 14 := (List.getElem?_eq_some_iff.1 ho).1
              have e0 : a.eval (.tmp 0) = .pointer (some ⟨p, 0, none⟩) := hout 0 (by decide)
              have e3 : a.eval (.tmp 3) = .pointer (some ⟨C, 0, none⟩) := hout 3 (by decide)
              have e5 : a.eval (.tmp 5) = .string last := hout 5 (by decide)
              have hCl : C < wx.heap.size := by have := hS.keep.size; have := lt_of_block HW6.out.bC; omega
              have hpl := hS.str.lt
              obtain rfl | rfl | rfl | rfl | rfl | rfl | rfl | rfl | rfl | rfl | rfl | rfl | rfl | rfl : i = 0 ∨ i = 1 ∨ i = 2 ∨ i = 3 ∨ i = 4 ∨ i = 5 ∨ i = 6 ∨ i = 7 ∨ i = 8 ∨ i = 9 ∨ i = 10 ∨ i = 11 ∨ i = 12 ∨ i = 13 := by omega
              · (change some _ = some o at ho; injection ho with ho; subst ho)
                go_simp
                exact ⟨_, rfl, gr_refl _ _, rfl, hS.str⟩
              · (change some _ = some o at ho; injection ho with ho; subst ho)
                have v0 : a.eval (.tmp 69) = (.pointer (some ⟨C, 2, none⟩)) := hval 0 _ 69 rfl rfl (hld 0 (by kernel_rfl))
                have v0' : a.tmps[69]?.getD undef = (.pointer (some ⟨C, 2, none⟩)) := (Array.getD_eq_getD_getElem? ..).symm.trans v0
                have c0 := blkC (hS.blk (hde 13 (by kernel_rfl))) 2 rfl
                go_simp
                exact ⟨_, rfl, gr_refl _ _, rfl, hS.str⟩
              · (change some _ = some o at ho; injection ho with ho; subst ho)
                go_simp
                exact ⟨_, rfl, gr_refl _ _, rfl, hS.str⟩
              · (change some _ = some o at ho; injection ho with ho; subst ho)
                go_simp
                exact ⟨_, rfl, gr_refl _ _, rfl, hS.str⟩
              · (change some _ = some o at ho; injection ho with ho; subst ho)
                have ho := hS.own (hde 11 (by kernel_rfl))
                have v0 : a.eval (.tmp 72) = (.string last) := hval 3 _ 72 rfl rfl (hld 3 (by kernel_rfl))
                have v0' : a.tmps[72]?.getD undef = (.string last) := (Array.getD_eq_getD_getElem? ..).symm.trans v0
                go_simp
                exact ⟨_, rfl, gr_alloc (gr_refl _ _) _, ⟨wx.heap.size, rfl, ⟨fun e => by have e : wx.heap.size = p := e; omega, fun e => by have e : wx.heap.size = C := e; omega, own_fresh ho rfl⟩, heap_alloc_new _ _⟩, hS.str.keep0 (gr_alloc (gr_refl _ _) _)⟩
              · (change some _ = some o at ho; injection ho with ho; subst ho)
                have v0 : a.eval (.tmp 71) = (.pointer (some ⟨p, 0, none⟩)) := hval 2 _ 71 rfl rfl (hld 2 (by kernel_rfl))
                have v0' : a.tmps[71]?.getD undef = (.pointer (some ⟨p, 0, none⟩)) := (Array.getD_eq_getD_getElem? ..).symm.trans v0
                have hbk : ∃ g, a.eval (.tmp 73) = .slice (some ⟨g, 0, none⟩) 3 3 ∧ (g ≠ p ∧ g ≠ C ∧ (Value.slice va S.length vc).ownBlock ≠ some g) ∧ wx.heap[g]? = some (.cells #[.string { data := #[] }, .string last, .string { data := #[122, 122] }] 9 (0, 0)) := hval 4 _ 73 rfl rfl (hld 4 (by kernel_rfl))
                obtain ⟨g, v1, ⟨g1, g2, g3⟩, gb⟩ := hbk
                have v1' : a.tmps[73]?.getD undef = .slice (some ⟨g, 0, none⟩) 3 3 := (Array.getD_eq_getD_getElem? ..).symm.trans v1
                have k0 := hun
                have k1 := hde 8 (by kernel_rfl)
                have hc : cnt [5, 8] listed = 0 := by simp only [cnt, List.countP_cons, List.countP_nil, k0, k1]; rfl
                have hst := hS.str
                rw [hc] at hst
                go_simp
                refine (one_in l (q + 1 + 1) [⟨#[]⟩, last, ⟨#[122, 122]⟩] p g wx hst (by omega) (by simp) (by simp) g1 (fun i hi => by obtain rfl | rfl | rfl : i = 0 ∨ i = 1 ∨ i = 2 := (by simp at hi; omega); (· exact blkC gb 0 rfl); (· exact blkC gb 1 rfl); (· exact blkC gb 2 rfl))).mono ?_
                rintro e wy ⟨rfl, hy, gy⟩
                refine ⟨_, rfl, gy, rfl, ?_⟩
                first | exact hy | (show StreamAt wy _ _ _ (q + 1 + 1 + cnt [5, 8] listed + 1); rw [hc]; exact hy)
              · (change some _ = some o at ho; injection ho with ho; subst ho)
                go_simp
                exact ⟨_, rfl, gr_refl _ _, rfl, hS.str⟩
              · (change some _ = some o at ho; injection ho with ho; subst ho)
                have ho := hS.own (hde 11 (by kernel_rfl))
                go_simp
                exact ⟨_, rfl, gr_alloc (gr_refl _ _) _, ⟨wx.heap.size, rfl, ⟨fun e => by have e : wx.heap.size = p := e; omega, fun e => by have e : wx.heap.size = C := e; omega, own_fresh ho rfl⟩, heap_alloc_new _ _⟩, hS.str.keep0 (gr_alloc (gr_refl _ _) _)⟩
              · (change some _ = some o at ho; injection ho with ho; subst ho)
                have v0 : a.eval (.tmp 75) = (.pointer (some ⟨p, 0, none⟩)) := hval 6 _ 75 rfl rfl (hld 6 (by kernel_rfl))
                have v0' : a.tmps[75]?.getD undef = (.pointer (some ⟨p, 0, none⟩)) := (Array.getD_eq_getD_getElem? ..).symm.trans v0
                have hbk : ∃ g, a.eval (.tmp 76) = .slice (some ⟨g, 0, none⟩) 3 3 ∧ (g ≠ p ∧ g ≠ C ∧ (Value.slice va S.length vc).ownBlock ≠ some g) ∧ wx.heap[g]? = some (.cells #[.int .i64 0, .int .i64 1, .int .i64 1001] 3 (0, 0)) := hval 7 _ 76 rfl rfl (hld 7 (by kernel_rfl))
                obtain ⟨g, v1, ⟨g1, g2, g3⟩, gb⟩ := hbk
                have v1' : a.tmps[76]?.getD undef = .slice (some ⟨g, 0, none⟩) 3 3 := (Array.getD_eq_getD_getElem? ..).symm.trans v1
                have k0 := hld 5 (by kernel_rfl)
                have k1 := hun
                have hc : cnt [5, 8] listed = 1 := by simp only [cnt, List.countP_cons, List.countP_nil, k0, k1]; rfl
                have hst := hS.str
                rw [hc] at hst
                go_simp
                refine (pick_in l (q + 1 + 1 + 1) [0, 1, 1001] p g wx hst (by omega) (by simp) (by simp) g1 (fun i hi => by obtain rfl | rfl | rfl : i = 0 ∨ i = 1 ∨ i = 2 := (by simp at hi; omega); (· exact blkC gb 0 rfl); (· exact blkC gb 1 rfl); (· exact blkC gb 2 rfl))).mono ?_
                rintro e wy ⟨rfl, hy, gy⟩
                refine ⟨_, rfl, gy, rfl, ?_⟩
                first | exact hy | (show StreamAt wy _ _ _ (q + 1 + 1 + cnt [5, 8] listed + 1); rw [hc]; exact hy)
              · (change some _ = some o at ho; injection ho with ho; subst ho)
                have v0 : a.eval (.tmp 74) = (.string (oneS l (q + 1 + 1) [⟨#[]⟩, last, ⟨#[122, 122]⟩])) := hval 5 _ 74 rfl rfl (hld 5 (by kernel_rfl))
                have v0' : a.tmps[74]?.getD undef = (.string (oneS l (q + 1 + 1) [⟨#[]⟩, last, ⟨#[122, 122]⟩])) := (Array.getD_eq_getD_getElem? ..).symm.trans v0
                have v1 : a.eval (.tmp 77) = (.int .i64 (pickM l (q + 1 + 1 + 1) [0, 1, 1001])) := hval 8 _ 77 rfl rfl (hld 8 (by kernel_rfl))
                have v1' : a.tmps[77]?.getD undef = (.int .i64 (pickM l (q + 1 + 1 + 1) [0, 1, 1001])) := (Array.getD_eq_getD_getElem? ..).symm.trans v1
                go_simp
                exact ⟨_, rfl, gr_refl _ _, rfl, hS.str⟩
              · (change some _ = some o at ho; injection ho with ho; subst ho)
                have ho := hS.own (hde 11 (by kernel_rfl))
                have v0 : a.eval (.tmp 78) = (.agg #[.string (oneS l (q + 1 + 1) [⟨#[]⟩, last, ⟨#[122, 122]⟩]), .int .i64 (pickM l (q + 1 + 1 + 1) [0, 1, 1001])]) := hval 9 _ 78 rfl rfl (hld 9 (by kernel_rfl))
                have v0' : a.tmps[78]?.getD undef = (.agg #[.string (oneS l (q + 1 + 1) [⟨#[]⟩, last, ⟨#[122, 122]⟩]), .int .i64 (pickM l (q + 1 + 1 + 1) [0, 1, 1001])]) := (Array.getD_eq_getD_getElem? ..).symm.trans v0
                go_simp
                exact ⟨_, rfl, gr_alloc (gr_refl _ _) _, ⟨wx.heap.size, rfl, ⟨fun e => by have e : wx.heap.size = p := e; omega, fun e => by have e : wx.heap.size = C := e; omega, own_fresh ho rfl⟩, heap_alloc_new _ _⟩, hS.str.keep0 (gr_alloc (gr_refl _ _) _)⟩
              · exact absurd rfl hiA
              · (change some _ = some o at ho; injection ho with ho; subst ho)
                go_simp
                exact ⟨_, rfl, gr_refl _ _, rfl, hS.str⟩
              · exact absurd rfl hiS
            case hdone =>
              intro vs w8 hs8 hk8 hfin hvals
              obtain ⟨g8, c8, hb, ho8⟩ := hfin
              have hb : w8.heap[C]? = some (.cells #[.string ⟨#[99, 97, 110]⟩, .int .i64 m, .slice (some ⟨g8, 0, none⟩) (S.length + 1) c8] 83 (0, 0)) := hb
              have hRz := hk8.hR.trans HW6.out.bR
              clear hvals
              simp only [putAll]
              go_wp2_with (fail)
              go_meet
              exact ⟨⟨#[99, 97, 110]⟩, m, _, S ++ [⟨oneS l (q + 1 + 1) [⟨#[]⟩, last, ⟨#[122, 122]⟩], pickM l (q + 1 + 1 + 1) [0, 1, 1001]⟩], _, HEE.out, by rw [List.length_append, flat_append, flat_one]; exact ho8, hb, hRz, hs8, hk8.gr⟩
          · have HEE : Hid (coilM l k = (⟨⟨#[99, 97, 110]⟩, m, S ++ S⟩, q + 1 + 1)) := by show _ = _; rw [HE2.out, if_neg h0, if_neg h1, if_neg h2]
            have b0 : (d == 0) = false := by simp; omega
            have b1 : (d == 1) = false := by simp; omega
            have b2 : (d == 2) = false := by simp; omega
            obtain ⟨sa, sc, hv, -, -, cS, -⟩ := own_shape HW6.out.own
            have hnil : sa = none → sc = 0 := fun e => (own_nilV HW6.out.own sa _ sc hv e).2
            have c2 : w6.cell? ⟨C, 2, none⟩ = some v := blkC HW6.out.bC 2 rfl
            have f2 : w6.frozen? ⟨C, 2, none⟩ = false := blkF HW6.out.bC 2
            have hRl : R ≤ w6.heap.size := Nat.le_of_lt (lt_of_block HW6.out.bR)
            have HV := Lib.hid hv
            have HCS := Lib.hid cS
            have HNIL := Lib.hid hnil
            clear h0 h1 h2 HE2 hv cS hnil
            go_wp2_with (at_builtin; refine wpList_app ePc rfl _ _ rfl R v S.length (flat encPc S) rfl HW6.out.own sa S.length sc (flat encPc S) HV.out (flat_length encPc_len S) HCS.out HNIL.out (flat_ones (fun _ => rfl) S) (by omega) hRl ?_; intro v7 w7 ho7 g7; have hC7 := (g7.block C (lt_of_block HW6.out.bC) (fun e => own_ne HW6.out.own HW6.out.bC (by decide) e.symm)).trans HW6.out.bC; obtain ⟨a8, c8, e8, -, -, -, -⟩ := own_shape ho7; subst e8; have d2 := blkC hC7 2 rfl; have e2 := blkF hC7 2; have HC7 := Lib.hid hC7; have HO7 := Lib.hid ho7; have HG7 := Lib.hid g7; clear hC7 ho7 g7)
            go_meet
            have hb := heap_setCell_same w7 C 2 _ 83 (.slice a8 (S.length + S.length) c8) HC7.out
            exact ⟨⟨#[99, 97, 110]⟩, m, _, S ++ S, _, HEE.out, HW6.out.set (P' := ⟨#[99, 97, 110]⟩) (m' := m) (S' := S ++ S) hpR hRC hwR HG7.out (by rw [List.length_append, flat_append]; exact HO7.out) (gr_set (q := ⟨C, 2, none⟩) (gr_refl w7 (some C)) rfl _) hb HC7.out⟩
      case rest =>
      obtain ⟨P, m', v', S', q', hE, hWc⟩ := hcut
      obtain ⟨w9, rfl⟩ : ∃ w9 : World, w9 = wc := ⟨_, rfl⟩
      have HE9 := Lib.hid hE
      have HW9 := Lib.hid hWc
      obtain ⟨va, vc, rfl, -, -, -, -⟩ := own_shape hWc.own
      have c0 : w9.cell? ⟨C, 0, none⟩ = some (.string P) := blkC hWc.bC 0 rfl
      have c1 : w9.cell? ⟨C, 1, none⟩ = some (.int .i64 m') := blkC hWc.bC 1 rfl
      have c2 : w9.cell? ⟨C, 2, none⟩ = some (.slice va S'.length vc) := blkC hWc.bC 2 rfl
      have r0 : w9.cell? ⟨R, 0, none⟩ = some (.string ⟨#[]⟩) := blkC hWc.bR 0 rfl
      have r1 : w9.cell? ⟨R, 1, none⟩ = some (.int .i64 0) := blkC hWc.bR 1 rfl
      have r2 : w9.cell? ⟨R, 2, none⟩ = some (.slice none 0 0) := blkC hWc.bR 2 rfl
      have f0 := blkF hWc.bR 0
      have f1 := blkF hWc.bR 1
      have f2 := blkF hWc.bR 2
      clear hE hWc
      go_wp2_with (fail)
      refine bodyPost_ret (results_cell_row (p := 2) (by kernel_rfl) _ _ R _ #[.string P, .int .i64 m', .slice va S'.length vc] _ (.struct dt) rfl (set3R_heap HW9.out.bR _ _ _) hd1 rfl (by kernel_rfl)) rfl ?_
      have gs := set3R_gr w9 R (.string P) (.int .i64 m') (.slice va S'.length vc)
      refine ⟨.slice va S'.length vc, ?_, ?_, ?_, ?_⟩
      · rw [HE9.out]
      · rw [HE9.out, ← HR.out]
        exact own_keep HW9.out.own gs (.inr (own_ne HW9.out.own HW9.out.bR (by decide)))
      · rw [HE9.out]
        exact HW9.out.str.keep gs (fun b e => by cases e; omega)
      · exact gr_grown HW9.out.gr gs (fun b e => by cases e; omega)
end Go.Proofs.YtdjnomeabadbnaaDoor
