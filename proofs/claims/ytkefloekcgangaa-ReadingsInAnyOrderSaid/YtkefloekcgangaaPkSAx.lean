/- slices.Insert of one element at []coilrack/api.Reading, at any place. Written by mkinsert.py. -/
import Derived.Test.YtkefloekcgangaaPkSAi
import Derived.Test.YtkefloekcgangaaPkSAw
import Derived.Shelf.Spec.SlicesInsertGrow
import Derived.Lib.AppendZerosOnto
namespace Go.Proofs.Ytkefloekcgangaa
open Go.RowKit

def InsRdPost (base n i : Nat) (xs news : List Value) (v : Value) (w : World) (e : Ending) (w' : World) : Prop :=
  ∃ v', e = .returned v' ∧ w'.ownsRow base 52 2 v' (n + 1) (xs.take (i * 2) ++ news ++ xs.drop (i * 2)) ∧ w.grownBy w' v.ownBlock ∧ (∀ q, v'.ownBlock = some q → v.ownBlock = some q ∨ w.heap.size ≤ q)
set_option maxRecDepth 100000 in
set_option maxHeartbeats 4000000 in
theorem insertRd_any (base n i : Nat) (xs : List Value) (v : Value) (vb vc : Nat) (news : Array Value) (w : World) (hown : w.ownsRow base 52 2 v n xs) (hvb : w.heap[vb]? = some (.cells news 52 (0, 0))) (hne : v.ownBlock ≠ some vb) (hnl : news.size = 2) (h1v : ∀ u ∈ news.toList, u.oneCell' = true) (h1x : ∀ u ∈ xs, u.oneCell' = true) (hi : i ≤ n) (hn : n ≤ 100000) (hb : base ≤ w.heap.size) :
    Calls Try.prog 52 #[v, .int .i64 i, .slice (some ⟨vb, 0, none⟩) 1 vc] w (InsRdPost base n i xs news.toList v w) := by
  obtain ⟨va, cap, rfl, hnc, hcapM, -, -⟩ := own_shape hown
  have hxl := hown.1
  have hcap : cap ≤ 9223372036854775807 := by unfold maxLen at hcapM; omega
  have hsz : (Try.prog.info? 52).map (·.size) = some 2 := by
    obtain ⟨i0, hi0, h0, h1, h2⟩ := info_parts eRd.info
    rw [hi0]; simp [h1]
  have hnll : news.toList.length = 2 := by simpa using hnl
  have hvx : CellsAt w (some ⟨vb, 0, none⟩) news.toList := by
    intro j u hj
    refine ⟨vb, 0, rfl, ?_⟩
    rw [Nat.zero_add]
    exact blkC hvb j (by simpa using hj)
  by_cases hin : i < n
  case neg =>
    obtain rfl : i = n := by omega
    have e1 : xs.take (i * 2) = xs := List.take_of_length_le (by omega)
    have e2 : xs.drop (i * 2) = [] := List.drop_of_length_le (by omega)
    unfold InsRdPost
    rw [e1, e2, List.append_nil]
    have HO := Lib.hid hown
    have HC := Lib.hid hvx
    have H1 := Lib.hid h1v
    have HL := Lib.hid hnll
    have HN := Lib.hid hnc
    clear hown hvx h1v h1x hvb hne hnl hnll hxl hsz e1 e2 hnc hcapM
    go_enter Try.func52, Try.ntmps52
    have HNC := HN.out
    by_cases hcn : cap = i
    · subst hcn
      go_wp2_with (at_builtin; refine wpList_app1L eRd rfl _ _ rfl base (.slice va cap cap) cap xs rfl HO.out vb 1 vc news.toList rfl (by rw [HL.out]) HC.out H1.out (by omega) hb ?_; intro v6 w6 ho6 g6 l6; have HO6 := Lib.hid ho6; have HG6 := Lib.hid g6; have HL6 := Lib.hid l6; clear ho6 g6 l6)
      go_ret
      exact ⟨_, rfl, HO6.out, HG6.out, HL6.out⟩
    · go_wp2_with (at_builtin; refine wpList_app1L eRd rfl _ _ rfl base (.slice va i cap) i xs rfl HO.out vb 1 vc news.toList rfl (by rw [HL.out]) HC.out H1.out (by omega) hb ?_; intro v6 w6 ho6 g6 l6; have HO6 := Lib.hid ho6; have HG6 := Lib.hid g6; have HL6 := Lib.hid l6; clear ho6 g6 l6)
      go_ret
      exact ⟨_, rfl, HO6.out, HG6.out, HL6.out⟩
  case pos =>
  rcases hown.2 with ⟨hv, h0⟩ | ⟨g, cap', cur, hv, hbg, hg, -, -, hcs, htk⟩
  · omega
  cases hv
  have hgb : g ≠ vb := fun e => hne (by rw [e]; rfl)
  have hgl := lt_of_block hg
  have hcl : cur.toList.length = cap * 2 := by simpa using hcs
  have hcell : ∀ j u, xs[j]? = some u → w.cell? ⟨g, j, none⟩ = some u := by
    intro j u hj
    rw [← htk, List.getElem?_take] at hj
    split at hj
    · exact blkC hg j (by simpa using hj)
    · cases hj
  have mixed : Try.prog.follows .mixedOrders = true := by kernel_rfl
  have hz2 : ¬ ((i : Int) = (n : Int)) := by omega
  have hov : ∀ W : World, W.heap = w.heap → ∀ lb cb, (callFunc 75 #[.slice (some ⟨vb, 0, none⟩) 1 vc, .slice (some ⟨g, (i + 1) * 2, none⟩) lb cb]).run Try.prog W = .ok (.value (.bool false)) W := fun W hW lb cb => by
    rw [run_callFunc_extern Try.func75 (by kernel_rfl) (by kernel_rfl) (by kernel_rfl) (e := Extern.SlicesOverlaps.overlaps #[36, 36] #[4]) (by kernel_rfl),
      Lib.run_overlaps_apart W 36 4 52 eRd.und 2 (fun _ => by kernel_rfl) ⟨vb, 0, none⟩ ⟨g, (i + 1) * 2, none⟩ 1 vc lb cb (fun e => hgb e.symm) 52 52 2 (cap * 2) (by simp [World.shape?, hW, hvb, hnl]) (by simp [World.shape?, hW, hg, hcs]) (Nat.ne_of_gt (Nat.mul_pos (by omega) (by decide))) (by simp [World.frozen?, hW, hvb]) (by simp [World.frozen?, hW, hvb])]
    rfl
  have hdl : (xs.drop (i * 2)).length = (n - i) * 2 := by rw [List.length_drop, hxl, Nat.sub_mul]
  by_cases hroom : n + 1 ≤ cap
  · obtain ⟨hD, hE, hEt⟩ := ins_lists (m := 2) (n := n) (i := i) (cap := cap) (C := cur.toList) (xs := xs) (news := news.toList) hcl hroom (by omega) hxl hnll htk
    obtain ⟨D, hDe⟩ : ∃ D, D = cur.toList.take ((i + 1) * 2) ++ xs.drop (i * 2) ++ cur.toList.drop ((i + 1) * 2 + (xs.drop (i * 2)).length) := ⟨_, rfl⟩
    rw [← hDe] at hD hE hEt
    obtain ⟨E, hEe⟩ : ∃ E, E = D.take (i * 2) ++ news.toList ++ D.drop (i * 2 + news.toList.length) := ⟨_, rfl⟩
    rw [← hEe] at hE hEt
    have hcp1 : ∀ ty dc sc, (Builtin.copy_ #[36, 36] ty #[.slice (some ⟨g, (i + 1) * 2, none⟩) (n - i) dc, .slice (some ⟨g, i * 2, none⟩) (n + 1 - i) sc]).run Try.prog w.drew = .ok (goInt ((n - i : Nat) : Int)) (w.drew.setRow g D.toArray) := fun ty dc sc => by
      have h := run_copy_rowK (P := Try.prog) w.drew 36 36 ty 52 2 g ((i + 1) * 2) (n - i) dc ⟨g, i * 2, none⟩ (n + 1 - i) sc cur 52 (xs.drop (i * 2)) eRd.und hsz hg (by rw [hdl]; congr 1; simp only [Nat.min_def]; split <;> omega)
        (fun j u hj => by rw [Addr.add_lit]; exact hcell _ u (by rwa [List.getElem?_drop] at hj))
        (by rw [hdl, hcs, ← Nat.add_mul]; exact Nat.mul_le_mul_right _ (by omega)) (fun u hu => h1x u (List.mem_of_mem_drop hu))
      rw [← hDe] at h
      rw [h]
      congr 2
      simp only [Nat.min_def]; split <;> omega
    obtain ⟨W1, hW1⟩ : ∃ W1, W1 = w.drew.setRow g D.toArray := ⟨_, rfl⟩
    have hW1g : W1.heap[g]? = some (.cells D.toArray 52 (0, 0)) := by rw [hW1]; exact setRow_heap w.drew g cur _ _ _ hg
    have hW1v : W1.heap[vb]? = some (.cells news 52 (0, 0)) := by rw [hW1, setRow_other _ _ _ _ (fun e => hgb e.symm)]; exact hvb
    have hg1 : w.grownBy W1 (some g) := by rw [hW1]; exact gr_trans (gr_drew (gr_refl w (some g))) (setRow_gr _ _ _)
    have hcp2 : ∀ (W : World), W.heap = W1.heap → ∀ ty dc, (Builtin.copy_ #[36, 36] ty #[.slice (some ⟨g, i * 2, none⟩) (n + 1 - i) dc, .slice (some ⟨vb, 0, none⟩) 1 vc]).run Try.prog W = .ok (goInt 1) (W.setRow g E.toArray) := fun W hW ty dc => by
      have h := run_copy_rowK (P := Try.prog) W 36 36 ty 52 2 g (i * 2) (n + 1 - i) dc ⟨vb, 0, none⟩ 1 vc D.toArray 52 news.toList eRd.und hsz (by rw [hW]; exact hW1g) (by rw [hnll, show Nat.min 1 (n + 1 - i) = 1 from Nat.min_eq_left (by omega)])
        (fun j u hj => by
          rw [Addr.add_lit, Nat.zero_add]
          have e : W.heap[vb]? = some (.cells news 52 (0, 0)) := by rw [hW]; exact hW1v
          exact blkC e j (by simpa using hj))
        (by rw [hnll]; simp only [List.size_toArray]; rw [hD]; rw [← Nat.succ_mul]; exact Nat.mul_le_mul_right _ (by omega)) h1v
      simp only at h
      rw [← hEe] at h
      rw [h, show Nat.min 1 (n + 1 - i) = 1 from Nat.min_eq_left (by omega)]
      rfl
    rw [← hW1] at hcp1
    have hfin : ∀ W : World, W.heap = W1.heap → w.grownBy W (some g) → (W.setRow g E.toArray).ownsRow base 52 2 (.slice (some ⟨g, 0, none⟩) (n + 1) cap) (n + 1) (xs.take (i * 2) ++ news.toList ++ xs.drop (i * 2)) ∧ w.grownBy (W.setRow g E.toArray) (some g) := fun W hW gW =>
      ⟨own_ins (setRow_heap W g D.toArray _ _ _ (by rw [hW]; exact hW1g)) hbg hroom hcapM hxl hnll (by omega) (by simpa using hE) (by simpa using hEt), gr_trans gW (setRow_gr _ _ _)⟩
    have HFIN := Lib.hid hfin
    have HG1 := Lib.hid hg1
    have hw1 : IntKind.i64.wrap ((i : Int) + 1) = (i : Int) + 1 := by rw [IntKind.wrap_i64]; omega
    have hb1 : (0 : Int) ≤ (i : Int) + 1 := by omega
    have hin' : i ≤ n := by omega
    have htn : ((i : Int) + 1).toNat = i + 1 := by omega
    have hb2 : ¬ (cap = i + 1) := by omega
    have hb3 : (i : Int) ≤ (n : Int) + 1 := by omega
    have hb4 : ¬ (cap = i) := by omega
    have hlt1 : ¬ (cap : Int) < (n : Int) + 1 := by omega
    clear hown hvx h1v h1x hvb hne hnl hnll hxl hsz hcapM hg htk hcs hcl hcell hD hE hEt hDe hEe hW1 hW1g hW1v hg1 hfin hdl hnc
    go_enter Try.func52, Try.ntmps52
    go_wp2_with (simp only [hov _ rfl])
    go_region_law_o (refine step_copy_runI rfl _ _ 36 36 rfl _ _ (by simp [Act.eval, Act.put]) (by simp [Act.eval, Act.put]) (hcp1 _ _ _) ?_)
    go_wp2_with (at_builtin; refine wpList_copy_runI _ rfl _ _ 36 36 rfl _ _ rfl rfl (hcp2 _ (by rfl) _ _) ?_)
    go_ret
    exact ⟨_, rfl, (HFIN.out _ rfl HG1.out).1, (HFIN.out _ rfl HG1.out).2, fun q e => .inl e⟩
  · have hlim : cap < n + 1 := by omega
    obtain ⟨i0, hi0, hz0, hzs, hzb⟩ := info_parts eRd.info
    have hble := eRd.le
    have hzc := eRd.zc
    have hold : (Builtin.firstCells i0.size i (.slice (some ⟨g, 0, none⟩) i cap)).run Try.prog w.drew = .ok (xs.take (i * 2)).toArray w.drew := by
      rw [hzs]
      exact run_firstCells_some w.drew 2 i ⟨g, 0, none⟩ i cap (xs.take (i * 2)) (by rw [List.length_take, hxl, Nat.min_eq_left (Nat.mul_le_mul_right _ (by omega))]) (fun j u hj => by
        rw [Addr.add_lit, Nat.zero_add]
        rw [List.getElem?_take] at hj
        split at hj
        · exact hcell j u hj
        · cases hj)
    have hkk : (n : Int) + 1 - (i : Int) = ((n + 1 - i : Nat) : Int) := by omega
    have hik : i + (n + 1 - i) = n + 1 := by omega
    have hby : (n + 1) * i0.bytes ≤ 140737488355328 := by
      rw [hzb]
      exact Nat.le_trans (Nat.mul_le_mul (show n + 1 ≤ 100001 by omega) hble) (by decide)
    have hrz0 := fun ty => Lib.run_append_grow_zeros (P := Try.prog) w 36 3 ty 52 i0 _ .i64 .i64 eRd.und (by kernel_rfl) hi0 hz0 (some ⟨g, 0, none⟩) i cap (xs.take (i * 2)) hold (n + 1 - i) (by omega) (by rw [hzs]; decide) (by omega) (by omega) (by rw [hzb]; exact Nat.le_trans (Nat.mul_le_mul (show n + 1 - i ≤ 100001 by omega) hble) (by decide)) (by rw [hik]; exact growslice_fits hlim hby)
    rw [hik] at hrz0
    obtain ⟨G, hG⟩ : ∃ G, G = grownCap w (n + 1) cap 52 := ⟨_, rfl⟩
    have hGn : n + 1 ≤ G := by rw [hG]; exact grownCap_ge w _ _ _
    have hGM : G ≤ maxLen := by rw [hG]; exact grownCap_le_maxLen w (n + 1) cap 52 (by unfold maxLen; omega)
    rw [← hG, ← hkk] at hrz0
    have hRs : ∀ z : Array Value, z.size = 2 → ((xs.take (i * 2)).toArray ++ Builtin.zeroCells z (n + 1 - i) ++ Builtin.zeroCells z (G - (n + 1))).toList.length = G * 2 ∧ ((xs.take (i * 2)).toArray ++ Builtin.zeroCells z (n + 1 - i) ++ Builtin.zeroCells z (G - (n + 1))).toList.take (i * 2) = xs.take (i * 2) := by
      intro z hz
      have hl : (xs.take (i * 2)).length = i * 2 := by rw [List.length_take, hxl, Nat.min_eq_left (Nat.mul_le_mul_right _ (by omega))]
      constructor
      · rw [Array.length_toList, Array.size_append, Array.size_append, size_zeroCells, size_zeroCells, hz, List.size_toArray, hl, ← Nat.add_mul, ← Nat.add_mul]
        congr 1; omega
      · rw [Array.toList_append, Array.toList_append, List.append_assoc]
        exact List.take_left' hl
    obtain ⟨hRl, hRt⟩ := hRs _ hzc
    obtain ⟨ROW, hROW⟩ : ∃ ROW : Array Value, ROW = (xs.take (i * 2)).toArray ++ Builtin.zeroCells (.agg #[.int .i64 0, .slice none 0 0] : Value).cells (n + 1 - i) ++ Builtin.zeroCells (.agg #[.int .i64 0, .slice none 0 0] : Value).cells (G - (n + 1)) := ⟨_, rfl⟩
    rw [← hROW] at hRl hRt hrz0
    have hroom2 : (n + 1) * 2 ≤ ROW.toList.length := by rw [hRl]; exact Nat.mul_le_mul_right _ hGn
    obtain ⟨hD, hE, hEt⟩ := ins_lists2 (m := 2) (n := n) (i := i) (R := ROW.toList) (xs := xs) (news := news.toList) hroom2 (by omega) hxl hnll hRt
    rw [hRl] at hD hE hroom2
    obtain ⟨D, hDe⟩ : ∃ D, D = ROW.toList.take (i * 2) ++ news.toList ++ ROW.toList.drop (i * 2 + news.toList.length) := ⟨_, rfl⟩
    rw [← hDe] at hD hE hEt
    obtain ⟨E, hEe⟩ : ∃ E, E = D.take ((i + 1) * 2) ++ xs.drop (i * 2) ++ D.drop ((i + 1) * 2 + (xs.drop (i * 2)).length) := ⟨_, rfl⟩
    rw [← hEe] at hE hEt
    have hvl := lt_of_block hvb
    have hN1 : ∀ W : World, W.heap = (w.alloc (.cells ROW 52)).heap → W.heap[w.heap.size]? = some (.cells ROW 52 (0, 0)) ∧ W.heap[vb]? = some (.cells news 52 (0, 0)) := fun W hW => by
      rw [hW]
      exact ⟨heap_alloc_new w _, ((gr_alloc (gr_refl w none) _).block vb hvl (by simp)).trans hvb⟩
    have hcpA : ∀ (W : World), W.heap = (w.alloc (.cells ROW 52)).heap → ∀ ty dc, (Builtin.copy_ #[36, 36] ty #[.slice (some ⟨w.heap.size, i * 2, none⟩) (n + 1 - i) dc, .slice (some ⟨vb, 0, none⟩) 1 vc]).run Try.prog W = .ok (goInt 1) (W.setRow w.heap.size D.toArray) := fun W hW ty dc => by
      have h := run_copy_rowK (P := Try.prog) W 36 36 ty 52 2 w.heap.size (i * 2) (n + 1 - i) dc ⟨vb, 0, none⟩ 1 vc ROW 52 news.toList eRd.und hsz (hN1 W hW).1 (by rw [hnll, show Nat.min 1 (n + 1 - i) = 1 from Nat.min_eq_left (by omega)])
        (fun j u hj => by
          rw [Addr.add_lit, Nat.zero_add]
          exact blkC (hN1 W hW).2 j (by simpa using hj))
        (by
          have : (i + 1) * 2 ≤ (n + 1) * 2 := Nat.mul_le_mul_right _ (by omega)
          rw [Nat.add_mul] at this
          simp only [Array.length_toList] at hRl
          omega) h1v
      rw [← hDe] at h
      rw [h, show Nat.min 1 (n + 1 - i) = 1 from Nat.min_eq_left (by omega)]
      rfl
    have hN2 : ∀ W : World, W.heap = ((w.alloc (.cells ROW 52)).setRow w.heap.size D.toArray).heap → W.heap[w.heap.size]? = some (.cells D.toArray 52 (0, 0)) ∧ W.heap[g]? = some (.cells cur 52 (0, 0)) := fun W hW => by
      rw [hW]
      exact ⟨setRow_heap _ _ ROW _ _ _ (heap_alloc_new w _), by rw [setRow_other _ _ _ _ (by omega)]; exact ((gr_alloc (gr_refl w none) _).block g hgl (by simp)).trans hg⟩
    have hcpB : ∀ (W : World), W.heap = ((w.alloc (.cells ROW 52)).setRow w.heap.size D.toArray).heap → ∀ ty dc sc, (Builtin.copy_ #[36, 36] ty #[.slice (some ⟨w.heap.size, (i + 1) * 2, none⟩) (n - i) dc, .slice (some ⟨g, i * 2, none⟩) (n - i) sc]).run Try.prog W = .ok (goInt ((n - i : Nat) : Int)) (W.setRow w.heap.size E.toArray) := fun W hW ty dc sc => by
      have h := run_copy_rowK (P := Try.prog) W 36 36 ty 52 2 w.heap.size ((i + 1) * 2) (n - i) dc ⟨g, i * 2, none⟩ (n - i) sc D.toArray 52 (xs.drop (i * 2)) eRd.und hsz (hN2 W hW).1 (by rw [hdl]; congr 1; simp only [Nat.min_def]; split <;> omega)
        (fun j u hj => by
          rw [Addr.add_lit]
          have h0 : xs[i * 2 + j]? = some u := by rwa [List.getElem?_drop] at hj
          rw [← htk, List.getElem?_take] at h0
          split at h0
          · exact blkC (hN2 W hW).2 _ (by simpa using h0)
          · cases h0)
        (by
          have e : (i + 1) * 2 + (n - i) * 2 = (n + 1) * 2 := by rw [← Nat.add_mul]; congr 1; omega
          rw [hdl, e, List.size_toArray, hD]; exact hroom2) (fun u hu => h1x u (List.mem_of_mem_drop hu))
      simp only at h
      rw [← hEe] at h
      rw [h]
      congr 2
      simp only [Nat.min_def]; split <;> omega
    have hfin : ∀ W : World, W.heap = ((w.alloc (.cells ROW 52)).setRow w.heap.size D.toArray).heap → w.grownBy W none → (W.setRow w.heap.size E.toArray).ownsRow base 52 2 (.slice (some ⟨w.heap.size, 0, none⟩) (n + 1) G) (n + 1) (xs.take (i * 2) ++ news.toList ++ xs.drop (i * 2)) ∧ w.grownBy (W.setRow w.heap.size E.toArray) none := fun W hW gW =>
      ⟨own_ins (setRow_heap W w.heap.size D.toArray _ _ _ (hN2 W hW).1) hb hGn hGM hxl hnll (by omega) (by simpa using hE) (by simpa using hEt), gr_grown gW (setRow_gr _ _ _) (fun q e => by cases e; exact Nat.le_refl _)⟩
    have HFIN := Lib.hid hfin
    have hw1 : IntKind.i64.wrap ((i : Int) + 1) = (i : Int) + 1 := by rw [IntKind.wrap_i64]; omega
    have hb1 : (0 : Int) ≤ (i : Int) + 1 := by omega
    have hin' : i ≤ n := by omega
    have htn : ((i : Int) + 1).toNat = i + 1 := by omega
    have hb3 : (i : Int) ≤ (n : Int) := by omega
    have hlt1 : (cap : Int) < (n : Int) + 1 := by omega
    have hic : i ≤ cap := by omega
    have hGi : ¬ (G = i) := by omega
    have hGim : ¬ (G = i + 1) := by omega
    have hci : ¬ (cap = i) := by omega
    have hG63 : G ≤ 9223372036854775807 := by unfold maxLen at hGM; omega
    have hA := hcpA (w.alloc (.cells ROW 52)).drew rfl
    have hB := hcpB ((w.alloc (.cells ROW 52)).drew.setRow w.heap.size D.toArray).drew rfl
    have hF := HFIN.out ((w.alloc (.cells ROW 52)).drew.setRow w.heap.size D.toArray).drew rfl (gr_drew (gr_grown (gr_drew (gr_alloc (gr_refl w none) _)) (setRow_gr _ _ _) (fun q e => by cases e; exact Nat.le_refl _)))
    have HF := Lib.hid hF
    clear hcpA hcpB HFIN hF
    clear hown hvx h1v h1x hvb hne hnl hnll hxl hsz hcapM hg htk hcs hcl hcell hD hE hEt hDe hEe hfin hdl hnc hkk hik hROW hG hRl hRt hRs hold hGM hN1 hN2 hov hroom2 hby hroom hi0 hz0 hzs hzb hble hzc hvl
    go_enter Try.func52, Try.ntmps52
    go_wp2_with (first
      | (at_builtin; refine Lib.wpList_append_run _ rfl _ _ _ _ rfl _ _ rfl rfl _ _ (hrz0 _) ?_)
      | (at_builtin; refine wpList_copy_runI _ rfl _ _ 36 36 rfl _ _ rfl rfl (hA _ _) ?_)
      | (at_builtin; refine wpList_copy_runI _ rfl _ _ 36 36 rfl _ _ rfl rfl (hB _ _ _) ?_))
    go_region_law_o (refine step_copy_runI rfl _ _ 36 36 rfl (.slice (some ⟨w.heap.size, (i + 1) * 2, none⟩) (n - i) (G - (i + 1))) (.slice (some ⟨g, i * 2, none⟩) (n - i) (cap - i)) (by simp [Act.eval, Act.put]) (by simp [Act.eval, Act.put]) (hB _ _ _) ?_)
    go_wp2
    go_ret
    exact ⟨_, rfl, HF.out.1, gr_weak HF.out.2 _, fun q e => .inr (by simp [Value.ownBlock] at e; omega)⟩
end Go.Proofs.Ytkefloekcgangaa
