/- slices.SortFunc of findings, of many: a permutation. -/
import Derived.Test.YtehhmgbgkemidaaGreatDoorPkSBa
import Derived.Test.YtehhmgbgkemidaaGreatDoorPkSBb
import Derived.Test.YtehhmgbgkemidaaGreatDoorPkSBc
import Derived.Test.YtehhmgbgkemidaaGreatDoorPkSBg
import Derived.Test.YtehhmgbgkemidaaGreatDoorPkSAr
import Derived.Test.YtehhmgbgkemidaaGreatDoorPkSBh
namespace Go.Proofs.YtehhmgbgkemidaaGreatDoor
open Go.RowKit Go.Sort
attribute [local go_sem ↓] Go.wp_at_zero Go.wp_at_succ

theorem orInt3_any (a b d : Int) (g c : Nat) (w : World) (h0 : w.cell? ⟨g, 0, none⟩ = some (.int .i64 a)) (h1 : w.cell? ⟨g, 1, none⟩ = some (.int .i64 b)) (h2 : w.cell? ⟨g, 2, none⟩ = some (.int .i64 d)) :
    Calls Tryz.prog 51 #[.slice (some ⟨g, 0, none⟩) 3 c] w fun e w' => e = .returned (.int .i64 (orI a (orI b d))) ∧ w = w' := by
  unfold orI
  go_enter Tryz.func51, Tryz.ntmps51
  go_wp2_with (fail)
  go_loop [8] (fun i => (i = .int .i64 0 ∨ (i = .int .i64 1 ∧ a = 0) ∨ (i = .int .i64 2 ∧ a = 0 ∧ b = 0) ∨ (i = .int .i64 3 ∧ a = 0 ∧ b = 0 ∧ d = 0))) (fun i => 3 - (intOf i).toNat)
  case atStart => exact .inl rfl
  case round =>
    rcases hrel with rfl | ⟨rfl, rfl⟩ | ⟨rfl, rfl, rfl⟩ | ⟨rfl, rfl, rfl, rfl⟩
    · by_cases ha : a = 0
      · subst ha
        go_wp2_with (fail)
        go_round
        case rel => exact .inr (.inl (by simp))
        case measure => simp [intOf]
      · have ha2 : (a != 0) = true := by simpa using ha
        go_wp2_with (fail)
        go_ret
        exact ⟨rfl, rfl⟩
    · by_cases hb : b = 0
      · subst hb
        go_wp2_with (fail)
        go_round
        case rel => exact .inr (.inr (.inl (by simp)))
        case measure => simp [intOf]
      · have hb2 : (b != 0) = true := by simpa using hb
        go_wp2_with (fail)
        go_ret
        exact ⟨rfl, rfl⟩
    · by_cases hd : d = 0
      · subst hd
        go_wp2_with (fail)
        go_round
        case rel => exact .inr (.inr (.inr (by simp)))
        case measure => simp [intOf]
      · have hd2 : (d != 0) = true := by simpa using hd
        go_wp2_with (fail)
        go_ret
        exact ⟨rfl, rfl⟩
    · go_wp2_with (fail)
      go_ret
      exact ⟨rfl, rfl⟩
def fdCm (x y : Fd) : Int := orI (cmpN x.fr y.fr) (orI (cmpN x.to y.to) (cmpB x.fault y.fault))
theorem fdCm_neg (x y : Fd) : fdCm x y < 0 ↔ x.fr < y.fr ∨ (x.fr = y.fr ∧ (x.to < y.to ∨ (x.to = y.to ∧ x.fault.data.toList < y.fault.data.toList))) := by
  rw [← cmpB_neg]
  unfold fdCm orI cmpN
  by_cases h1 : x.fr < y.fr
  · rw [if_pos h1]; simp [h1]
  · rw [if_neg h1]
    by_cases h2 : y.fr < x.fr
    · rw [if_pos h2]; simp; omega
    · rw [if_neg h2]
      by_cases h3 : x.to < y.to
      · rw [if_pos h3]; simp [h3]; omega
      · rw [if_neg h3]
        by_cases h4 : y.to < x.to
        · rw [if_pos h4]; simp; omega
        · rw [if_neg h4]; simp; omega
theorem fdSWO : SWO (ltOf fdCm) := by
  have e : ∀ x y : Fd, ltOf fdCm x y = true ↔ x.fr < y.fr ∨ (x.fr = y.fr ∧ (x.to < y.to ∨ (x.to = y.to ∧ x.fault.data.toList < y.fault.data.toList))) := fun x y => by unfold ltOf; rw [decide_eq_true_iff]; exact fdCm_neg x y
  have f : ∀ x y : Fd, ltOf fdCm x y = false ↔ ¬ (x.fr < y.fr ∨ (x.fr = y.fr ∧ (x.to < y.to ∨ (x.to = y.to ∧ x.fault.data.toList < y.fault.data.toList)))) := fun x y => by rw [← e, Bool.not_eq_true]
  have tri := fun (x y : ByteArray) => compareBytes_sign x.data.toList y.data.toList
  refine ⟨fun x => ?_, fun x y z h1 h2 => ?_, fun x y z h1 h2 => ?_⟩
  · rw [f]
    rintro (h | ⟨_, h | ⟨_, h⟩⟩)
    · omega
    · omega
    · exact ltL_irrefl _ h
  · rw [e] at h1 h2 ⊢
    rcases h1 with h1 | ⟨a1, h1⟩
    · rcases h2 with h2 | ⟨a2, h2⟩
      · exact .inl (by omega)
      · exact .inl (by omega)
    · rcases h2 with h2 | ⟨a2, h2⟩
      · exact .inl (by omega)
      · refine .inr ⟨by omega, ?_⟩
        rcases h1 with h1 | ⟨b1, h1⟩
        · rcases h2 with h2 | ⟨b2, h2⟩
          · exact .inl (by omega)
          · exact .inl (by omega)
        · rcases h2 with h2 | ⟨b2, h2⟩
          · exact .inl (by omega)
          · exact .inr ⟨by omega, ltL_trans h1 h2⟩
  · rw [f] at h1 h2 ⊢
    have a1 : ¬ x.fr < y.fr := fun h => h1 (.inl h)
    have a2 : ¬ y.fr < z.fr := fun h => h2 (.inl h)
    rintro (h | ⟨c, h | ⟨d, h⟩⟩)
    · omega
    · have b1 : ¬ x.to < y.to := fun h => h1 (.inr ⟨by omega, .inl h⟩)
      have b2 : ¬ y.to < z.to := fun h => h2 (.inr ⟨by omega, .inl h⟩)
      omega
    · have b1 : ¬ x.to < y.to := fun h => h1 (.inr ⟨by omega, .inl h⟩)
      have b2 : ¬ y.to < z.to := fun h => h2 (.inr ⟨by omega, .inl h⟩)
      have n1 : ¬ x.fault.data.toList < y.fault.data.toList := fun h => h1 (.inr ⟨by omega, .inr ⟨by omega, h⟩⟩)
      have n2 : ¬ y.fault.data.toList < z.fault.data.toList := fun h => h2 (.inr ⟨by omega, .inr ⟨by omega, h⟩⟩)
      rcases tri x.fault y.fault with ⟨_, h'⟩ | ⟨_, h'⟩ | ⟨_, h'⟩
      · exact n1 h'
      · rw [h'] at h; exact n2 h
      · exact n2 (ltL_trans h' h)
theorem diag1_fn : ∀ (args : Array Value) (w : World), (callFunc 70 args).run Tryz.prog w = .ok (.enter 70 args) w := fun _ _ => by kernel_rfl
set_option maxRecDepth 100000 in
set_option maxHeartbeats 4000000 in
theorem diag1_any (x y : Fd) (w : World) : Calls Tryz.prog 70 #[.agg #[.string x.fault, .int .i64 x.fr, .int .i64 x.to], .agg #[.string y.fault, .int .i64 y.fr, .int .i64 y.to]] w fun e w' => e = .returned (.int .i64 (fdCm x y)) ∧ ∃ n os, w' = grow (w.drewN n) os := by
  obtain ⟨x0, x1, x2⟩ := x
  obtain ⟨y0, y1, y2⟩ := y
  obtain ⟨hA, hB⟩ := heap_2 w (.cells #[.string x0, .int .i64 x1, .int .i64 x2] 44) (.cells #[.string y0, .int .i64 y1, .int .i64 y2] 44)
  obtain ⟨w2, hw2⟩ : ∃ w2, w2 = (w.alloc (.cells #[.string x0, .int .i64 x1, .int .i64 x2] 44)).alloc (.cells #[.string y0, .int .i64 y1, .int .i64 y2] 44) := ⟨_, rfl⟩
  rw [← hw2] at hA hB
  have p0 := exa_cell (blkC (v := .string x0) hA 0 rfl)
  have p1 := exa_cell (blkC (v := .int .i64 x1) hA 1 rfl)
  have p2 := exa_cell (blkC (v := .int .i64 x2) hA 2 rfl)
  have r0 := exa_cell (blkC (v := .string y0) hB 0 rfl)
  have r1 := exa_cell (blkC (v := .int .i64 y1) hB 1 rfl)
  have r2 := exa_cell (blkC (v := .int .i64 y2) hB 2 rfl)
  have HW := Lib.hid hw2
  clear hA hB hw2
  have HE : Hid (fdCm ⟨x0, x1, x2⟩ ⟨y0, y1, y2⟩ = orI (cmpN x1 y1) (orI (cmpN x2 y2) (cmpB x0 y0))) := rfl
  show Calls _ _ _ _ _
  simp only
  go_enter Tryz.func70, Tryz.ntmps70
  go_wp2_with (fail)
  rw [← HW.out]
  refine wp_region_exa_tail 15 (by kernel_rfl) (by kernel_rfl) ?_
  simp only [List.take_succ_cons, List.take_zero, List.drop_succ_cons, List.drop_zero]
  repeat (go_big_quiet_step (first
    | (go_at_call 52; exact Calls.exa_of (fun W => cmpInt_any _ _ W))
    | (go_at_call 53; exact Calls.exa_of (fun W => compare_any _ _ W))))
  refine wpQuiet_nil ?_
  rintro wq ⟨nn, rfl⟩
  obtain ⟨wn, hwn⟩ : ∃ wn, wn = nn.w := ⟨_, rfl⟩
  rw [← hwn]
  obtain ⟨u, hu⟩ : ∃ u, u = cmpN x1 y1 := ⟨_, rfl⟩
  obtain ⟨v, hv⟩ : ∃ v, v = cmpN x2 y2 := ⟨_, rfl⟩
  obtain ⟨t, ht⟩ : ∃ t, t = cmpB x0 y0 := ⟨_, rfl⟩
  rw [← hu, ← hv, ← ht] at HE
  rw [← hu, ← hv, ← ht]
  have hN := heap_alloc_new wn (.cells #[.int .i64 u, .int .i64 v, .int .i64 t] 3)
  have OR := Lib.hid (orInt3_any u v t wn.heap.size 3 _ (blkC hN 0 rfl) (blkC hN 1 rfl) (blkC hN 2 rfl))
  have HWN := Lib.hid hwn
  clear p0 p1 p2 r0 r1 r2 hwn hu hv ht hN
  go_wp2_with (fail)
  refine OR.out.mono ?_
  rintro e w5 ⟨rfl, rfl⟩
  go_wp2_with (fail)
  go_ret
  refine ⟨ret_int HE.out.symm, nn.1, #[.cells #[.string x0, .int .i64 x1, .int .i64 x2] 44 (0, 0), .cells #[.string y0, .int .i64 y1, .int .i64 y2] 44 (0, 0)] ++ (nn.2 ++ #[.cells #[.int .i64 u, .int .i64 v, .int .i64 t] 3 (0, 0)]), ?_⟩
  rw [HWN.out, HW.out]
  unfold Exa.w
  rw [exa_alloc, exa_from2]
theorem fd_holds {w : World} {base g n c : Nat} {d : Array Fd} (h : w.ownsRow base 44 3 (.slice (some ⟨g, 0, none⟩) n c) n (flat encFd d.toList)) (hd : d.size = n) : HoldsK encFd 3 w g 0 d := by
  obtain ⟨a, cap, hv, -, -, hc, -⟩ := own_shape h
  cases hv
  intro j hj
  have hj2 : j < d.size * 3 := by simpa using hj
  have hf := flat_at encFd 3 (by decide) (fun _ => rfl) d.toList j (by rw [Array.length_toList]; exact hj2)
  have hjd : j / 3 < d.size := by omega
  have hdd : d.toList.getD (j / 3) default = d[j / 3]! := by simp [hjd]
  rw [hdd, ← get_flatK encFd 3 d j hj2] at hf
  obtain ⟨b, off, e, hcell⟩ := hc j _ hf
  cases e
  refine ⟨hcell, ?_⟩
  rw [Nat.zero_add]
  exact h.frozenAt j
def SrtFdPost (v : Value) (n base : Nat) (L : List Fd) (w : World) (e : Ending) (w' : World) : Prop := ∃ O : List Fd, e = .returned (.tuple #[]) ∧ w'.ownsRow base 44 3 v n (flat encFd O) ∧ O.Perm L ∧ w.grownBy w' v.ownBlock
theorem sortFd_many (g n c base : Nat) (L : List Fd) (w : World) (hown : w.ownsRow base 44 3 (.slice (some ⟨g, 0, none⟩) n c) n (flat encFd L)) (hL : L.length = n) (hn : n ≤ 1000000) :
    Calls Tryz.prog 69 #[.slice (some ⟨g, 0, none⟩) n c, .func (.func 70) #[] #[]] w (SrtFdPost (.slice (some ⟨g, 0, none⟩) n c) n base L w) := by
  have hsz : L.toArray.size = n := by simpa using hL
  have hH : HoldsK encFd 3 w g 0 L.toArray := fd_holds (d := L.toArray) (by simpa using hown) hsz
  have hlt : g < w.heap.size := by
    obtain ⟨a, cap, hv, -, -, -, h5⟩ := own_shape hown
    cases hv
    exact (h5 g 0 rfl).2.1
  have h := AnyQ.slices_SortFunc (P := Tryz.prog) (ρ := fdRen) fdLays 3 (fun _ => by kernel_rfl) (fun _ => by kernel_rfl) encFd (fun _ => rfl) (fun x v hv => by simp [encFd] at hv; rcases hv with rfl | rfl | rfl <;> rfl) fdCm fdSWO 70 #[] g 0 c L.toArray w diag1_fn (fun m os dk hs x y => (diag1_any x y _).mono fun e w' h => h) hH hlt (by omega)
  rw [hsz] at h
  refine h.mono ?_
  rintro e w' ⟨rfl, d', m, os, hp, -, rfl⟩
  obtain ⟨p1, -, p3⟩ := hp
  refine ⟨d'.toList, rfl, own_sorted encFd 3 (by decide) (fun _ => rfl) hown m d' os (by rw [p1, hsz]), ?_, sort_grown _ _ _ _ _ _ _⟩
  have e1 : d'.extract 0 n = d' := by rw [← hsz, ← p1]; simp
  have e2 : L.toArray.extract 0 n = L.toArray := by rw [← hsz]; simp
  rw [e1, e2] at p3
  exact p3
theorem fdCm_ok : CmpOk fdCm := by
  have f : ∀ x y : Fd, ltOf fdCm x y = false ↔ ¬ fdCm x y < 0 := fun x y => by unfold ltOf; simp
  have g : ∀ x y : Fd, ltOf fdCm x y = true ↔ fdCm x y < 0 := fun x y => by unfold ltOf; simp
  obtain ⟨h1, h2, h3⟩ := fdSWO
  refine ⟨fun a b h hb => ?_, fun a b c ha hb => ?_⟩
  · have := h2 a b a ((g a b).2 h) ((g b a).2 hb)
    rw [h1 a] at this
    cases this
  · have := h3 c b a ((f c b).2 hb) ((f b a).2 ha)
    exact (f c a).1 this
theorem sortFd_any (v : Value) (n base : Nat) (L : List Fd) (w : World) (hown : w.ownsRow base 44 3 v n (flat encFd L)) (hL : L.length = n) (hn : n ≤ 1000000) :
    Calls Tryz.prog 69 #[v, .func (.func 70) #[] #[]] w (SrtFdPost v n base L w) := by
  by_cases h0 : n = 0
  · subst h0
    refine (sortFFd_few 70 0 fdCm v base L w hown hL (by omega) diag1_fn fdCm_ok (fun x y W _ _ _ => (diag1_any x y W).mono fun e w' h => ⟨h.1, by obtain ⟨n, os, e⟩ := h.2; rw [e]; exact Exa.gr (w0 := W) (n, os)⟩)).mono ?_
    rintro e w' ⟨O, rfl, h1, h2, -, h3⟩
    exact ⟨O, rfl, h1, h2, h3⟩
  · obtain ⟨g, cap, rfl, -⟩ := own_some hown (by omega)
    exact sortFd_many g n cap base L w hown hL hn
end Go.Proofs.YtehhmgbgkemidaaGreatDoor
