/- Right moves, and parts of them, as the stream makes them. -/
import Derived.Test.YtakabckmiodjaaaDoorPkDBh
import Derived.Test.YtakabckmiodjaaaDoorPkDAj
import Derived.Test.YtakabckmiodjaaaDoorPkDBe
import Derived.Test.YtakabckmiodjaaaDoorPkDBi
import Derived.Deep.DrawnRows
import Derived.Deep.CutBlock
import Derived.Test.YtakabckmiodjaaaDoorPkDAb
import Derived.Test.YtakabckmiodjaaaDoorPkDBb
import Derived.WalkLawsBesides
namespace Go.Proofs.YtakabckmiodjaaaDoor
open Go.RowKit
variable {lw : Nat}

def encMv (x : Mv) : List Value := [.string x.site, .int .i64 x.no, .int .i64 x.day, .string x.ware, .int .i64 x.many]
theorem encMv_len (x : Mv) : (encMv x).length = 5 := rfl
theorem eMv : ElemT Tryd.prog 32 41 (.agg #[.string ⟨#[]⟩, .int .i64 0, .int .i64 0, .string ⟨#[]⟩, .int .i64 0]) 5 56 := ⟨by kernel_rfl, by kernel_rfl, by decide, by decide, by decide⟩
theorem mv_cells {w : World} {a : Option Addr} {p : List Mv} (h : CellsAt w a (flat encMv p)) (k : Nat) (hk : k < p.length) : ∃ b off, a = some ⟨b, off, none⟩ ∧ w.cell? ⟨b, off + k * 5, none⟩ = some (.string p[k].site) ∧ w.cell? ⟨b, off + k * 5 + 1, none⟩ = some (.int .i64 p[k].no) ∧ w.cell? ⟨b, off + k * 5 + 2, none⟩ = some (.int .i64 p[k].day) ∧ w.cell? ⟨b, off + k * 5 + 3, none⟩ = some (.string p[k].ware) ∧ w.cell? ⟨b, off + k * 5 + 4, none⟩ = some (.int .i64 p[k].many) := by
  obtain ⟨b, off, rfl, hcs⟩ := flat_cells (enc := encMv) (m := 5) (fun _ => rfl) (by decide) h (by omega)
  exact ⟨b, off, rfl, by have := hcs k hk 0 _ rfl; simpa using this, hcs k hk 1 _ rfl, hcs k hk 2 _ rfl, hcs k hk 3 _ rfl, hcs k hk 4 _ rfl⟩
def siteK : Nat → ByteArray
  | 0 => ⟨#[97]⟩
  | 1 => ⟨#[98]⟩
  | _ => ⟨#[99]⟩
theorem siteK_lt : ∀ t j : Nat, t < j → j ≤ 2 → (siteK t).data.toList < (siteK j).data.toList := by
  intro t j h1 h2
  have : (t = 0 ∧ j = 1) ∨ (t = 0 ∧ j = 2) ∨ (t = 1 ∧ j = 2) := by omega
  rcases this with ⟨rfl, rfl⟩ | ⟨rfl, rfl⟩ | ⟨rfl, rfl⟩ <;> decide
theorem siteK_ok (j : Nat) : keyB (siteK j) = true ∧ (siteK j).size ≤ 4 := by
  match j with
  | 0 => exact ⟨by decide, by decide⟩
  | 1 => exact ⟨by decide, by decide⟩
  | _ + 2 =>
    show keyB ⟨#[99]⟩ = true ∧ (⟨#[99]⟩ : ByteArray).size ≤ 4
    exact ⟨by decide, by decide⟩
/-- What stands while the moves of site j are made: i of them are. -/
structure MvB (L : List Mv) (j i : Nat) : Prop where
  ok : MvsOk L
  top : ∀ x ∈ L, ∃ t, t ≤ j ∧ x.site = siteK t ∧ (t = j → x.no ≤ i)
  here : ∀ n : Int, 1 ≤ n → n ≤ i → ∃ y ∈ L, y.site = siteK j ∧ y.no = n
theorem MvB.start : MvB [] 0 0 := ⟨⟨fun x hx => (by cases hx), List.Pairwise.nil, fun x hx => (by cases hx)⟩, fun x hx => (by cases hx), fun n h1 h2 => (by omega)⟩
theorem MvB.site {L : List Mv} {j i : Nat} (h : MvB L j i) : MvB L (j + 1) 0 :=
  ⟨h.ok, fun x hx => by
    obtain ⟨t, ht, e, _⟩ := h.top x hx
    exact ⟨t, by omega, e, fun e2 => by omega⟩, fun n h1 h2 => by omega⟩
theorem MvB.app {L : List Mv} {j i : Nat} (h : MvB L j i) (hj : j ≤ 2) (x : Mv) (hx : MvSm x) (h1 : x.site = siteK j) (h2 : x.no = (i : Int) + 1) : MvB (L ++ [x]) j (i + 1) := by
  refine ⟨⟨fun y hy => ?_, ?_, fun y hy hn => ?_⟩, fun y hy => ?_, fun n n1 n2 => ?_⟩
  · rcases List.mem_append.1 hy with hy | hy
    · exact h.ok.all y hy
    · have : y = x := by simpa using hy
      rw [this]; exact hx
  · rw [List.pairwise_append]
    refine ⟨h.ok.srt, by simp, fun y hy z hz => ?_⟩
    have : z = x := by simpa using hz
    subst this
    obtain ⟨t, ht, e, h3⟩ := h.top y hy
    unfold mvLt
    rw [mvCm_neg]
    rcases Nat.eq_or_lt_of_le ht with rfl | g
    · exact .inr ⟨by rw [e, h1], by have := h3 rfl; omega⟩
    · exact .inl (by rw [e, h1]; exact siteK_lt t j g hj)
  · rcases List.mem_append.1 hy with hy | hy
    · obtain ⟨z, hz, e1, e2⟩ := h.ok.down y hy hn
      exact ⟨z, List.mem_append_left _ hz, e1, e2⟩
    · have : y = x := by simpa using hy
      subst this
      obtain ⟨z, hz, e1, e2⟩ := h.here i (by omega) (by omega)
      exact ⟨z, List.mem_append_left _ hz, by rw [e1, h1], by omega⟩
  · rcases List.mem_append.1 hy with hy | hy
    · obtain ⟨t, ht, e, h3⟩ := h.top y hy
      exact ⟨t, ht, e, fun e2 => by have := h3 e2; omega⟩
    · have : y = x := by simpa using hy
      subst this
      exact ⟨j, by omega, h1, fun _ => by omega⟩
  · by_cases e : n = (i : Int) + 1
    · exact ⟨x, by simp, h1, by omega⟩
    · obtain ⟨z, hz, e1, e2⟩ := h.here n n1 (by omega)
      exact ⟨z, List.mem_append_left _ hz, e1, e2⟩
abbrev skeys : Array Value := #[.string ⟨#[97]⟩, .string ⟨#[98]⟩, .string ⟨#[99]⟩]
structure MvW (wr w : World) (p lw : Nat) (l : List Int) (q : Nat) (v : Value) (N : List Mv) : Prop where
  own : wr.ownsRow (w.heap.size + 1) 41 5 v N.length (flat encMv N)
  blk : wr.heap[w.heap.size]? = some (.cells skeys 9 (0, 0))
  str : StreamAt wr p lw l q
  gr : w.grownBy wr (some p)
  pB : p < w.heap.size
theorem MvW.draw {wr w1 w : World} {p lw : Nat} {l : List Int} {q q2 : Nat} {v : Value} {N : List Mv} (h : MvW wr w p lw l q v N) (gg : wr.grownBy w1 (some p)) (hs : StreamAt w1 p lw l q2) : MvW w1 w p lw l q2 v N :=
  ⟨own_keepS h.own gg (by have := h.pB; omega), (gg.block _ (lt_of_block h.blk) (fun e => by have := h.pB; cases e; omega)).trans h.blk, hs, gr_trans h.gr gg, h.pB⟩
theorem MvW.app {wr w1 w : World} {p lw : Nat} {l : List Int} {q : Nat} {v v1 : Value} {N : List Mv} {x : Mv} (h : MvW wr w p lw l q v N) (o : w1.ownsRow (w.heap.size + 1) 41 5 v1 (N.length + 1) (flat encMv N ++ encMv x)) (gg : wr.grownBy w1 v.ownBlock) (hl : ∀ b, v.ownBlock = some b → w.heap.size + 1 ≤ b) : MvW w1 w p lw l q v1 (N ++ [x]) := by
  refine ⟨?_, (gg.block _ (lt_of_block h.blk) (fun e => own_ne h.own h.blk (by decide) e.symm)).trans h.blk, h.str.keep gg (fun b e => by have := hl b e; have := h.pB; omega), gr_grown h.gr gg (fun b e => by have := hl b e; omega), h.pB⟩
  rw [List.length_append, flat_append, flat_one]; exact o
/-- The moves as a function of the stream. -/
def mvOne (l : List Int) (q : Nat) (S : ByteArray) (t : Nat) : Mv := ⟨S, (t : Int) + 1, nxt l q 9, oneS l (q + 1) [⟨#[98, 97, 114]⟩, ⟨#[99, 97, 107, 101]⟩, ⟨#[110, 117, 116, 115]⟩], pickM l (q + 1 + 1) [10, -4, 3, -1]⟩
def mvRow (l : List Int) (S : ByteArray) (q : Nat) : Nat → List Mv
  | 0 => []
  | n + 1 => mvRow l S q n ++ [mvOne l (q + 3 * n) S n]
def mvAll (l : List Int) (k : Nat) : Nat → List Mv × Nat
  | 0 => ([], k)
  | j + 1 => ((mvAll l k j).1 ++ mvRow l (siteK j) ((mvAll l k j).2 + 1) (nxt l (mvAll l k j).2 4).toNat, (mvAll l k j).2 + 1 + 3 * (nxt l (mvAll l k j).2 4).toNat)
def MvPost (l : List Int) (lw k p : Nat) (w : World) (e : Ending) (w' : World) : Prop :=
  ∃ v N, e = .returned v ∧ w'.ownsRow w.heap.size 41 5 v N.length (flat encMv N) ∧ N.length ≤ 9 ∧ MvsOk N ∧ (∃ q, q ≤ k + 100 ∧ StreamAt w' p lw l q ∧ N = (mvAll l k 3).1 ∧ q = (mvAll l k 3).2) ∧ w.grownBy w' (some p)
theorem wareS_ok (s : ByteArray) (h : s ∈ [(⟨#[98, 97, 114]⟩ : ByteArray), ⟨#[99, 97, 107, 101]⟩, ⟨#[110, 117, 116, 115]⟩]) : keyB s = true ∧ s.size ≤ 4 := by
  simp only [List.mem_cons, List.not_mem_nil, or_false] at h
  rcases h with rfl | rfl | rfl <;> exact ⟨by decide, by decide⟩
set_option maxRecDepth 100000 in
set_option maxHeartbeats 4000000 in
theorem rightMoves_any (l : List Int) (k : Nat) (p : Nat) (w : World) (hs : StreamAt w p lw l k) (hk : k < 800000000) :
    Calls Tryd.prog 6 #[.pointer (some ⟨p, 0, none⟩)] w (MvPost l lw k p w) := by
  have hlt := hs.lt
  have hB := heap_alloc_new w (.cells skeys 9)
  have ga := gr_alloc (gr_refl w none) (.cells skeys 9)
  have K0 : Hid (MvW (w.alloc (.cells skeys 9)) w p lw l k (.slice none 0 0) []) := ⟨World.ownsRow_nil _ _ _ _, hB, hs.keep0 ga, gr_weak ga _, hlt⟩
  clear hB ga hs
  go_enter Tryd.func6, Tryd.ntmps6
  go_wp2_with (fail)
  go_loopw [3, 9] (fun o i wr => ∃ (j q : Nat) (v : Value) (N : List Mv), j ≤ 3 ∧ i = .int .i64 j ∧ v = o ∧ N.length ≤ 3 * j ∧ q ≤ k + 10 * j ∧ MvB N j 0 ∧ Hid (N = (mvAll l k j).1 ∧ q = (mvAll l k j).2) ∧ MvW wr w p lw l q v N) (fun _ i _ => 3 - (intOf i).toNat)
  case atStart => exact ⟨0, k, _, [], by omega, rfl, rfl, Nat.le_refl _, Nat.le_refl _, MvB.start, ⟨rfl, rfl⟩, K0.out⟩
  case round =>
    clear K0
    obtain ⟨j, q, v, N, hj, rfl, rfl, hN, hq, hMB, HD, hW⟩ := hrel
    obtain ⟨wo, rfl⟩ : ∃ wo : World, wo = wr := ⟨_, rfl⟩
    have HMB := Lib.hid hMB
    clear hMB
    by_cases hjl : j < 3
    · have d0 : wo.cell? ⟨w.heap.size, j, none⟩ = some (.string (siteK j)) := blkC hW.blk j (by
        have : j = 0 ∨ j = 1 ∨ j = 2 := by omega
        rcases this with rfl | rfl | rfl <;> rfl)
      have hjd : decide ((j : Int) < 3) = true := by simp; omega
      have hj3 : (j : Int) < 3 := by omega
      have HW := Lib.hid hW
      obtain ⟨S, hS⟩ : ∃ S, S = siteK j := ⟨_, rfl⟩
      rw [← hS] at d0
      have HS := Lib.hid hS
      clear hW hS
      go_wp2_with (fail)
      refine (next_any l q 4 p wo HW.out.str (by omega) (by decide)).mono ?_
      rintro e w3 ⟨rfl, hs3, hg3⟩
      have HW3 := Lib.hid (HW.out.draw hg3 hs3)
      have hnr := nxt_range l q 4 (by decide)
      obtain ⟨n, hn⟩ : ∃ n, n = nxt l q 4 := ⟨_, rfl⟩
      rw [← hn] at hnr
      rw [← hn]
      obtain ⟨hn0, hn1⟩ := hnr
      have HNE := Lib.hid hn
      clear hn hs3 hg3 HW d0
      go_wp2_with (fail)
      go_loopw [3, 15] (fun o i wr => ∃ (t q2 : Nat) (v : Value) (N2 : List Mv), (t : Int) ≤ n ∧ i = .int .i64 t ∧ v = o ∧ N2.length ≤ 3 * j + t ∧ q2 ≤ k + 10 * j + 1 + 3 * t ∧ MvB N2 j t ∧ Hid (N2 = N ++ mvRow l (siteK j) (q + 1) t ∧ q2 = q + 1 + 3 * t) ∧ MvW wr w p lw l q2 v N2) (fun _ i _ => 4 - (intOf i).toNat)
      case atStart => exact ⟨0, q + 1, _, N, hn0, rfl, rfl, by omega, by omega, HMB.out, ⟨by simp [mvRow], rfl⟩, HW3.out⟩
      case round =>
        clear HW3 HMB
        obtain ⟨t, q2, v2, N2, ht, rfl, rfl, hN2, hq2, hMB, HD2, hW⟩ := hrel
        obtain ⟨wi, rfl⟩ : ∃ wi : World, wi = wr := ⟨_, rfl⟩
        have HMB := Lib.hid hMB
        have HW := Lib.hid hW
        clear hMB hW
        by_cases htl : (t : Int) < n
        · have htd : decide ((t : Int) < n) = true := decide_eq_true htl
          go_wp2_with (fail)
          refine (next_any l q2 9 p wi HW.out.str (by omega) (by decide)).mono ?_
          rintro e w4 ⟨rfl, hs4, hg4⟩
          have HW4 := Lib.hid (HW.out.draw hg4 hs4)
          have hdr := nxt_range l q2 9 (by decide)
          obtain ⟨d, hd⟩ : ∃ n, n = nxt l q2 9 := ⟨_, rfl⟩
          rw [← hd] at hdr
          rw [← hd]
          have HDE := Lib.hid hd
          clear hd hs4 hg4 HW
          go_wp2_with (fail)
          refine (one_any l (q2 + 1) [⟨#[98, 97, 114]⟩, ⟨#[99, 97, 107, 101]⟩, ⟨#[110, 117, 116, 115]⟩] p w4 HW4.out.str (by omega) (by decide) (by decide)).mono ?_
          rintro e w5 ⟨rfl, hs5, hg5⟩
          have hwr := wareS_ok _ (oneS_mem l (q2 + 1) [⟨#[98, 97, 114]⟩, ⟨#[99, 97, 107, 101]⟩, ⟨#[110, 117, 116, 115]⟩] (by decide))
          have HW5 := Lib.hid (HW4.out.draw hg5 hs5)
          obtain ⟨s, hs⟩ : ∃ y, y = oneS l (q2 + 1) [⟨#[98, 97, 114]⟩, ⟨#[99, 97, 107, 101]⟩, ⟨#[110, 117, 116, 115]⟩] := ⟨_, rfl⟩
          rw [← hs] at hwr
          rw [← hs]
          have HWR := Lib.hid hwr
          have HSE := Lib.hid hs
          clear hs hs5 hg5 hwr HW4
          go_wp2_with (fail)
          refine (pick_any l (q2 + 1 + 1) [10, -4, 3, -1] p w5 HW5.out.str (by omega) (by decide) (by decide)).mono ?_
          rintro e w6 ⟨rfl, hs6, hg6⟩
          have hpk := pickM_mem l (q2 + 1 + 1) [10, -4, 3, -1] (by decide)
          simp only [List.mem_cons, List.not_mem_nil, or_false] at hpk
          obtain ⟨y, hy⟩ : ∃ y, y = pickM l (q2 + 1 + 1) [10, -4, 3, -1] := ⟨_, rfl⟩
          rw [← hy] at hpk
          rw [← hy]
          have HYE := Lib.hid hy
          have HW6 := Lib.hid (HW5.out.draw hg6 hs6)
          have HSM : Hid (MvSm ⟨S, (t : Int) + 1, d, s, y⟩) := ⟨by simp only; rw [HS.out]; exact siteK_ok j, by simp only; omega, by simp only; omega, HWR.out, by simp only; omega⟩
          have HMN := Lib.hid (HMB.out.app (by omega) ⟨S, (t : Int) + 1, d, s, y⟩ HSM.out HS.out rfl)
          have hz6 : w.heap.size < w6.heap.size := lt_of_block HW6.out.blk
          clear hy hs6 hg6 HW5 hpk HMB
          go_wp2_with (at_builtin; refine wpList_app1F eMv rfl _ _ rfl (w.heap.size + 1) _ N2.length (flat encMv N2) rfl w6 #[.string S, .int .i64 ((t : Int) + 1), .int .i64 d, .string s, .int .i64 y] rfl HW6.out.own _ rfl rfl rfl rfl (by omega) (by omega) ?_; intro v7 w7 o7 g7 hl7 _; have HW7 := Lib.hid (HW6.out.app (x := ⟨S, (t : Int) + 1, d, s, y⟩) o7 g7 hl7); clear o7 g7 hl7)
          go_wp2_with (fail)
          go_roundw
          case rel => exact ⟨t + 1, q2 + 1 + 1 + 1, _, N2 ++ [(⟨S, (t : Int) + 1, d, s, y⟩ : Mv)], by omega, by go_num, rfl, by rw [List.length_append]; simp; omega, by omega, HMN.out, ⟨by
            rw [HD2.out.1]
            show _ = N ++ (mvRow l (siteK j) (q + 1) t ++ [mvOne l (q + 1 + 3 * t) (siteK j) t])
            unfold mvOne
            rw [← HD2.out.2, ← HDE.out, ← HSE.out, ← HYE.out, ← HS.out, List.append_assoc], by have := HD2.out.2; omega⟩, HW7.out⟩
          case measure => simp [intOf]; omega
        · have htd : decide ((t : Int) < n) = false := decide_eq_false htl
          go_wp2_with (fail)
          go_roundw
          case rel => exact ⟨j + 1, q2, _, N2, by omega, by go_num, rfl, by omega, by omega, HMB.out.site, by
            have hnt : (nxt l q 4).toNat = t := by rw [← HNE.out]; omega
            obtain ⟨e1, e2⟩ := HD.out
            obtain ⟨e3, e4⟩ := HD2.out
            refine ⟨?_, ?_⟩
            · rw [e3]
              show _ = (mvAll l k j).1 ++ mvRow l (siteK j) ((mvAll l k j).2 + 1) (nxt l (mvAll l k j).2 4).toNat
              rw [← e1, ← e2, hnt]
            · rw [e4]
              show _ = (mvAll l k j).2 + 1 + 3 * (nxt l (mvAll l k j).2 4).toNat
              rw [← e2, hnt], HW.out⟩
          case measure => simp [intOf]; omega
    · have hjd : decide ((j : Int) < 3) = false := by simp; omega
      have HW := Lib.hid hW
      clear hW
      obtain ⟨va, vc, rfl, -, -, -, -⟩ := own_shape HW.out.own
      go_wp2_with (fail)
      go_ret
      exact ⟨_, N, rfl, own_base HW.out.own (by omega), by omega, HMB.out.ok, ⟨_, by omega, HW.out.str, by
        have : j = 3 := by omega
        subst this
        exact HD.out⟩, HW.out.gr⟩
end Go.Proofs.YtakabckmiodjaaaDoor

/-! Package slices at elements coilrack/api.Move: sorting of few. Written by mksortn.py. -/
namespace Go.Proofs.YtakabckmiodjaaaDoor
open Go.RowKit

theorem own_of_heapMv {w w1 : World} {base e size n : Nat} {v : Value} {xs : List Value} (h : w.ownsRow base e size v n xs) (e1 : w1.heap = w.heap) : w1.ownsRow base e size v n xs := by
  rcases h.2 with h2 | ⟨g, cap, cur, hv, hb, hg, r⟩
  · exact ⟨h.1, .inl h2⟩
  · exact ⟨h.1, .inr ⟨g, cap, cur, hv, hb, by rw [e1]; exact hg, r⟩⟩
theorem flat_rowMv (l : List Mv) (i : Nat) (h : i < l.length) (y : Mv) : ((((((flat encMv l).set (i * 5) (.string (y.site))).set (i * 5 + 1) (.int .i64 (y.no))).set (i * 5 + 2) (.int .i64 (y.day))).set (i * 5 + 3) (.string (y.ware))).set (i * 5 + 4) (.int .i64 (y.many))) = flat encMv (l.set i y) := by
  have e0 := flat_set (enc := encMv) (m := 5) (fun _ => rfl) l i h 0 (by decide) (.string (y.site)) (⟨y.site, l[i].no, l[i].day, l[i].ware, l[i].many⟩ : Mv) rfl
  have g1 : (l.set i (⟨y.site, l[i].no, l[i].day, l[i].ware, l[i].many⟩ : Mv))[i]'(by simp; omega) = (⟨y.site, l[i].no, l[i].day, l[i].ware, l[i].many⟩ : Mv) := by rw [List.getElem_set_self]
  have e1 := flat_set (enc := encMv) (m := 5) (fun _ => rfl) (l.set i (⟨y.site, l[i].no, l[i].day, l[i].ware, l[i].many⟩ : Mv)) i (by simp; omega) 1 (by decide) (.int .i64 (y.no)) (⟨y.site, y.no, l[i].day, l[i].ware, l[i].many⟩ : Mv) (by rw [g1]; rfl)
  rw [List.set_set] at e1
  have g2 : (l.set i (⟨y.site, y.no, l[i].day, l[i].ware, l[i].many⟩ : Mv))[i]'(by simp; omega) = (⟨y.site, y.no, l[i].day, l[i].ware, l[i].many⟩ : Mv) := by rw [List.getElem_set_self]
  have e2 := flat_set (enc := encMv) (m := 5) (fun _ => rfl) (l.set i (⟨y.site, y.no, l[i].day, l[i].ware, l[i].many⟩ : Mv)) i (by simp; omega) 2 (by decide) (.int .i64 (y.day)) (⟨y.site, y.no, y.day, l[i].ware, l[i].many⟩ : Mv) (by rw [g2]; rfl)
  rw [List.set_set] at e2
  have g3 : (l.set i (⟨y.site, y.no, y.day, l[i].ware, l[i].many⟩ : Mv))[i]'(by simp; omega) = (⟨y.site, y.no, y.day, l[i].ware, l[i].many⟩ : Mv) := by rw [List.getElem_set_self]
  have e3 := flat_set (enc := encMv) (m := 5) (fun _ => rfl) (l.set i (⟨y.site, y.no, y.day, l[i].ware, l[i].many⟩ : Mv)) i (by simp; omega) 3 (by decide) (.string (y.ware)) (⟨y.site, y.no, y.day, y.ware, l[i].many⟩ : Mv) (by rw [g3]; rfl)
  rw [List.set_set] at e3
  have g4 : (l.set i (⟨y.site, y.no, y.day, y.ware, l[i].many⟩ : Mv))[i]'(by simp; omega) = (⟨y.site, y.no, y.day, y.ware, l[i].many⟩ : Mv) := by rw [List.getElem_set_self]
  have e4 := flat_set (enc := encMv) (m := 5) (fun _ => rfl) (l.set i (⟨y.site, y.no, y.day, y.ware, l[i].many⟩ : Mv)) i (by simp; omega) 4 (by decide) (.int .i64 (y.many)) (⟨y.site, y.no, y.day, y.ware, y.many⟩ : Mv) (by rw [g4]; rfl)
  rw [List.set_set] at e4
  rw [show i * 5 + 0 = i * 5 from rfl] at e0
  rw [e0, e1, e2, e3, e4]
/-- A comparison of elements of a list, in worlds that differ from w at one block at most. -/
def CmpMv (F : FuncId) (cm : Mv → Mv → Int) (L : List Mv) (r : Option Nat) (w : World) : Prop :=
  ∀ (x y : Mv) (w1 : World), x ∈ L → y ∈ L → w.grownBy w1 r → Calls Tryd.prog F #[.agg #[.string (x.site), .int .i64 (x.no), .int .i64 (x.day), .string (x.ware), .int .i64 (x.many)], .agg #[.string (y.site), .int .i64 (y.no), .int .i64 (y.day), .string (y.ware), .int .i64 (y.many)]] w1 fun e w2 => e = .returned (.int .i64 (cm x y)) ∧ w1.grownBy w2 none
def SortMvPost (cm : Mv → Mv → Int) (L : List Mv) (v : Value) (n base : Nat) (w : World) (e : Ending) (w' : World) : Prop := ∃ O, e = .returned (.tuple #[]) ∧ w'.ownsRow base 41 5 v n (flat encMv O) ∧ O.Perm L ∧ Srt cm mvD O n ∧ w.grownBy w' v.ownBlock
set_option maxRecDepth 100000 in
set_option maxHeartbeats 2000000 in
theorem insertionMv_any (F : FuncId) (n : Nat) (cm : Mv → Mv → Int) (v : Value) (base : Nat) (L : List Mv) (w : World) (hown : w.ownsRow base 41 5 v n (flat encMv L)) (hL : L.length = n) (hn : n ≤ 1000)
    (hE : ∀ (args : Array Value) (w : World), (callFunc F args).run Tryd.prog w = .ok (.enter F args) w) (hc : CmpOk cm) (hF : CmpMv F cm L v.ownBlock w) :
    Calls Tryd.prog 94 #[v, .int .i64 0, .int .i64 n, .func (.func F) #[] #[]] w (SortMvPost cm L v n base w) := by
  have HF := Lib.hid hF
  have HC := Lib.hid hc
  have HL := Lib.hid hL
  obtain ⟨va, vc, rfl, _, _, _, _⟩ := own_shape hown
  clear hF hc hL
  go_enter Tryd.func94, Tryd.ntmps94
  go_wp2_with (fail)
  go_loopw [8] (fun i wr => ∃ (k : Nat) (O' : List Mv), 1 ≤ k ∧ (k ≤ n ∨ n = 0) ∧ i = .int .i64 k ∧ wr.ownsRow base 41 5 (.slice va n vc) n (flat encMv O') ∧ O'.Perm L ∧ Srt cm mvD O' k ∧ w.grownBy wr (Value.slice va n vc).ownBlock) (fun i _ => n - (intOf i).toNat)
  case atStart => exact ⟨1, L, by omega, by omega, rfl, hown, List.Perm.refl _, srt_one, gr_refl _ _⟩
  case round =>
    obtain ⟨k, O', hk, hkn1, rfl, hown', hO', hs, hgr⟩ := hrel
    obtain ⟨wo, rfl⟩ : ∃ wo : World, wo = wr := ⟨_, rfl⟩
    have HO' := Lib.hid hO'
    have HS := Lib.hid hs
    clear hO' hs
    by_cases hkn : k < n
    · obtain ⟨g, gc, hge, hgb, _, _, _⟩ := own_some hown' (by omega)
      cases hge
      go_wp2_with (fail)
      go_loopw [9] (fun i wr => ∃ (j : Nat) (O2 : List Mv), j ≤ k ∧ i = .int .i64 j ∧ wr.ownsRow base 41 5 (.slice (some ⟨g, 0, none⟩) n vc) n (flat encMv O2) ∧ O2.Perm L ∧ SrtBut cm mvD O2 k j ∧ w.grownBy wr (some g)) (fun i _ => (intOf i).toNat)
      case atStart => exact ⟨k, O', by omega, rfl, hown', HO'.out, srt_start HS.out, hgr⟩
      case round =>
        clear hgr
        obtain ⟨j, O2, hj, rfl, hown2, hO2, hb2, hgr2⟩ := hrel
        obtain ⟨wi, rfl⟩ : ∃ wi : World, wi = wr := ⟨_, rfl⟩
        have hlen := hO2.length_eq.trans HL.out
        by_cases hj0 : 0 < j
        · have hd0 : decide (0 < j) = true := decide_eq_true hj0
          obtain ⟨i, hi⟩ : ∃ i, i = j - 1 := ⟨_, rfl⟩
          have hij : i + 1 = j := by omega
          subst hij
          have hjl : i + 1 < O2.length := by omega
          have hil : i < O2.length := by omega
          have a0 := own_cellE (enc := encMv) (m := 5) (fun _ => rfl) hown2 (i + 1) hjl 0 (by decide) _ rfl hlen
          have a1 := own_cellE (enc := encMv) (m := 5) (fun _ => rfl) hown2 (i + 1) hjl 1 (by decide) _ rfl hlen
          have a2 := own_cellE (enc := encMv) (m := 5) (fun _ => rfl) hown2 (i + 1) hjl 2 (by decide) _ rfl hlen
          have a3 := own_cellE (enc := encMv) (m := 5) (fun _ => rfl) hown2 (i + 1) hjl 3 (by decide) _ rfl hlen
          have a4 := own_cellE (enc := encMv) (m := 5) (fun _ => rfl) hown2 (i + 1) hjl 4 (by decide) _ rfl hlen
          have b0 := own_cellE (enc := encMv) (m := 5) (fun _ => rfl) hown2 (i) hil 0 (by decide) _ rfl hlen
          have b1 := own_cellE (enc := encMv) (m := 5) (fun _ => rfl) hown2 (i) hil 1 (by decide) _ rfl hlen
          have b2 := own_cellE (enc := encMv) (m := 5) (fun _ => rfl) hown2 (i) hil 2 (by decide) _ rfl hlen
          have b3 := own_cellE (enc := encMv) (m := 5) (fun _ => rfl) hown2 (i) hil 3 (by decide) _ rfl hlen
          have b4 := own_cellE (enc := encMv) (m := 5) (fun _ => rfl) hown2 (i) hil 4 (by decide) _ rfl hlen
          have hmx : O2[i + 1] ∈ L := hO2.mem_iff.1 (List.getElem_mem _)
          have hmy : O2[i] ∈ L := hO2.mem_iff.1 (List.getElem_mem _)
          have ex : O2.getD (i + 1) mvD = O2[i + 1] := getD_eq O2 _ _ hjl
          have ey : O2.getD i mvD = O2[i] := getD_eq O2 _ _ hil
          have SW : Hid (cm O2[i + 1] O2[i] < 0 → SrtBut cm mvD (swapAt mvD O2 i) k i) := fun h => srt_swap HC.out hjl (by omega) hb2 (by rw [ex, ey]; exact h)
          have ST : Hid (¬ cm O2[i + 1] O2[i] < 0 → Srt cm mvD O2 (k + 1)) := fun h => srt_stop HC.out hb2 (by rw [ex, ey]; exact h)
          have PM : Hid ((swapAt mvD O2 i).Perm L) := (swapAt_perm i hjl).trans hO2
          have WR : Hid (∀ W : World, W.ownsRow base 41 5 (.slice (some ⟨g, 0, none⟩) n vc) n (flat encMv O2) → w.grownBy W (some g) → (((((((((((W.setCell ⟨g, (i + 1) * 5, none⟩ (.string (O2[i].site))).setCell ⟨g, (i + 1) * 5 + 1, none⟩ (.int .i64 (O2[i].no))).setCell ⟨g, (i + 1) * 5 + 2, none⟩ (.int .i64 (O2[i].day))).setCell ⟨g, (i + 1) * 5 + 3, none⟩ (.string (O2[i].ware))).setCell ⟨g, (i + 1) * 5 + 4, none⟩ (.int .i64 (O2[i].many))).setCell ⟨g, i * 5, none⟩ (.string (O2[i + 1].site))).setCell ⟨g, i * 5 + 1, none⟩ (.int .i64 (O2[i + 1].no))).setCell ⟨g, i * 5 + 2, none⟩ (.int .i64 (O2[i + 1].day))).setCell ⟨g, i * 5 + 3, none⟩ (.string (O2[i + 1].ware))).setCell ⟨g, i * 5 + 4, none⟩ (.int .i64 (O2[i + 1].many)))).ownsRow base 41 5 (.slice (some ⟨g, 0, none⟩) n vc) n (flat encMv (swapAt mvD O2 i)) ∧ w.grownBy (((((((((((W.setCell ⟨g, (i + 1) * 5, none⟩ (.string (O2[i].site))).setCell ⟨g, (i + 1) * 5 + 1, none⟩ (.int .i64 (O2[i].no))).setCell ⟨g, (i + 1) * 5 + 2, none⟩ (.int .i64 (O2[i].day))).setCell ⟨g, (i + 1) * 5 + 3, none⟩ (.string (O2[i].ware))).setCell ⟨g, (i + 1) * 5 + 4, none⟩ (.int .i64 (O2[i].many))).setCell ⟨g, i * 5, none⟩ (.string (O2[i + 1].site))).setCell ⟨g, i * 5 + 1, none⟩ (.int .i64 (O2[i + 1].no))).setCell ⟨g, i * 5 + 2, none⟩ (.int .i64 (O2[i + 1].day))).setCell ⟨g, i * 5 + 3, none⟩ (.string (O2[i + 1].ware))).setCell ⟨g, i * 5 + 4, none⟩ (.int .i64 (O2[i + 1].many)))) (some g)) := fun W hW gW => by
            refine ⟨?_, (gr_set (gr_set (gr_set (gr_set (gr_set (gr_set (gr_set (gr_set (gr_set (gr_set gW rfl _) rfl _) rfl _) rfl _) rfl _) rfl _) rfl _) rfl _) rfl _) rfl _)⟩
            have h5 := ((((((((((hW.stored ((i + 1) * 5) (.string (O2[i].site))).1.stored ((i + 1) * 5 + 1) (.int .i64 (O2[i].no))).1.stored ((i + 1) * 5 + 2) (.int .i64 (O2[i].day))).1.stored ((i + 1) * 5 + 3) (.string (O2[i].ware))).1.stored ((i + 1) * 5 + 4) (.int .i64 (O2[i].many))).1.stored (i * 5) (.string (O2[i + 1].site))).1.stored (i * 5 + 1) (.int .i64 (O2[i + 1].no))).1.stored (i * 5 + 2) (.int .i64 (O2[i + 1].day))).1.stored (i * 5 + 3) (.string (O2[i + 1].ware))).1.stored (i * 5 + 4) (.int .i64 (O2[i + 1].many))).1
            rw [flat_rowMv O2 (i + 1) hjl O2[i], flat_rowMv (O2.set (i + 1) O2[i]) i (by simp; omega) O2[i + 1]] at h5
            unfold swapAt
            rw [ex, ey]
            exact h5
          have CC : Hid (∀ W, wi.grownBy W none → Calls Tryd.prog F #[.agg #[.string (O2[i + 1].site), .int .i64 (O2[i + 1].no), .int .i64 (O2[i + 1].day), .string (O2[i + 1].ware), .int .i64 (O2[i + 1].many)], .agg #[.string (O2[i].site), .int .i64 (O2[i].no), .int .i64 (O2[i].day), .string (O2[i].ware), .int .i64 (O2[i].many)]] W fun e w2 => e = .returned (.int .i64 (cm O2[i + 1] O2[i])) ∧ W.grownBy w2 none) := fun W hW => HF.out _ _ W hmx hmy (gr_trans hgr2 (gr_weak hW _))
          obtain ⟨x, hx⟩ : ∃ x, x = O2[i + 1] := ⟨_, rfl⟩
          obtain ⟨y, hy⟩ : ∃ y, y = O2[i] := ⟨_, rfl⟩
          rw [← hx, ← hy] at SW ST CC WR
          rw [← hx] at a0 a1 a2 a3 a4
          rw [← hy] at b0 b1 b2 b3 b4
          obtain ⟨x0, x1, x2, x3, x4⟩ := x
          obtain ⟨y0, y1, y2, y3, y4⟩ := y
          simp only at CC WR
          obtain ⟨c, hcv⟩ : ∃ c, c = cm ⟨x0, x1, x2, x3, x4⟩ ⟨y0, y1, y2, y3, y4⟩ := ⟨_, rfl⟩
          rw [← hcv] at SW ST CC
          obtain ⟨a0, fa0, -⟩ := a0
          obtain ⟨a1, fa1, -⟩ := a1
          obtain ⟨a2, fa2, -⟩ := a2
          obtain ⟨a3, fa3, -⟩ := a3
          obtain ⟨a4, fa4, -⟩ := a4
          obtain ⟨b0, fb0, -⟩ := b0
          obtain ⟨b1, fb1, -⟩ := b1
          obtain ⟨b2, fb2, -⟩ := b2
          obtain ⟨b3, fb3, -⟩ := b3
          obtain ⟨b4, fb4, -⟩ := b4
          have a0 : wi.cell? ⟨g, (i + 1) * 5, none⟩ = some (.string (x0)) := a0
          have a1 : wi.cell? ⟨g, (i + 1) * 5 + 1, none⟩ = some (.int .i64 (x1)) := a1
          have a2 : wi.cell? ⟨g, (i + 1) * 5 + 2, none⟩ = some (.int .i64 (x2)) := a2
          have a3 : wi.cell? ⟨g, (i + 1) * 5 + 3, none⟩ = some (.string (x3)) := a3
          have a4 : wi.cell? ⟨g, (i + 1) * 5 + 4, none⟩ = some (.int .i64 (x4)) := a4
          have b0 : wi.cell? ⟨g, i * 5, none⟩ = some (.string (y0)) := b0
          have b1 : wi.cell? ⟨g, i * 5 + 1, none⟩ = some (.int .i64 (y1)) := b1
          have b2 : wi.cell? ⟨g, i * 5 + 2, none⟩ = some (.int .i64 (y2)) := b2
          have b3 : wi.cell? ⟨g, i * 5 + 3, none⟩ = some (.string (y3)) := b3
          have b4 : wi.cell? ⟨g, i * 5 + 4, none⟩ = some (.int .i64 (y4)) := b4
          have ga0 := grew_cell a0
          have ga1 := grew_cell a1
          have ga2 := grew_cell a2
          have ga3 := grew_cell a3
          have ga4 := grew_cell a4
          have gb0 := grew_cell b0
          have gb1 := grew_cell b1
          have gb2 := grew_cell b2
          have gb3 := grew_cell b3
          have gb4 := grew_cell b4
          have FA0 := Lib.hid fa0
          have FA1 := Lib.hid fa1
          have FA2 := Lib.hid fa2
          have FA3 := Lib.hid fa3
          have FA4 := Lib.hid fa4
          have FB0 := Lib.hid fb0
          have FB1 := Lib.hid fb1
          have FB2 := Lib.hid fb2
          have FB3 := Lib.hid fb3
          have FB4 := Lib.hid fb4
          have HOW := Lib.hid hown2
          have HGR2 := Lib.hid hgr2
          have hgl := lt_of_cell a0
          have HPM2 := Lib.hid hO2
          have hi1 : ((i : Int) + 1 - 1) = i := by omega
          have hwi : IntKind.i64.wrap (((i : Int) + 1) - 1) = i := by rw [hi1]; exact IntWalk.i64_in _ (by omega)
          have hq0 : (0 : Int) ≤ (i : Int) := by omega
          have hq1 : (i : Int) < (n : Int) := by omega
          have hq2 : (0 : Int) ≤ (i : Int) + 1 := by omega
          have hq3 : (i : Int) + 1 < (n : Int) := by omega
          have hq4 : ((i : Int) + 1).toNat = i + 1 := by omega
          have hq5 : decide ((0 : Int) < (i : Int) + 1) = true := decide_eq_true (by omega)
          clear hown2 hgr2 hO2 hb2 hmx hmy ex ey hx hy hcv fa0 fa1 fa2 fa3 fa4 fb0 fb1 fb2 fb3 fb4 hlen hi hown' hi1
          by_cases hc0 : c < 0
          · have hdc : decide (c < 0) = true := decide_eq_true hc0
            go_wp2_with (fail)
            refine wp_region_grew (by kernel_rfl) (by kernel_rfl) ?_
            repeat (go_big_quiet_step (first | (exact Calls.grew_of (fun W h => CC.out W h))))
            refine wpQuiet_nil ?_
            rintro wq ⟨nn, rfl⟩
            have gq := nn.gr
            have A0 := ga0 nn
            have A1 := ga1 nn
            have A2 := ga2 nn
            have A3 := ga3 nn
            have A4 := ga4 nn
            have B0 := gb0 nn
            have B1 := gb1 nn
            have B2 := gb2 nn
            have B3 := gb3 nn
            have B4 := gb4 nn
            have Fa0 := (gr_free gq hgl (o := (i + 1) * 5)).trans FA0.out
            have Fa1 := (gr_free gq hgl (o := (i + 1) * 5 + 1)).trans FA1.out
            have Fa2 := (gr_free gq hgl (o := (i + 1) * 5 + 2)).trans FA2.out
            have Fa3 := (gr_free gq hgl (o := (i + 1) * 5 + 3)).trans FA3.out
            have Fa4 := (gr_free gq hgl (o := (i + 1) * 5 + 4)).trans FA4.out
            have Fb0 := (gr_free gq hgl (o := i * 5)).trans FB0.out
            have Fb1 := (gr_free gq hgl (o := i * 5 + 1)).trans FB1.out
            have Fb2 := (gr_free gq hgl (o := i * 5 + 2)).trans FB2.out
            have Fb3 := (gr_free gq hgl (o := i * 5 + 3)).trans FB3.out
            have Fb4 := (gr_free gq hgl (o := i * 5 + 4)).trans FB4.out
            have HOQ := Lib.hid (own_keep0 HOW.out gq)
            have HGQ := Lib.hid (gr_trans HGR2.out (gr_weak gq _))
            obtain ⟨wn, hwn⟩ : ∃ wn, wn = nn.w := ⟨_, rfl⟩
            rw [← hwn] at A0 A1 A2 A3 A4 B0 B1 B2 B3 B4 Fa0 Fa1 Fa2 Fa3 Fa4 Fb0 Fb1 Fb2 Fb3 Fb4 HOQ HGQ
            rw [← hwn]
            clear gq hwn ga0 ga1 ga2 ga3 ga4 gb0 gb1 gb2 gb3 gb4 a0 a1 a2 a3 a4 b0 b1 b2 b3 b4 hwi hq2 hq3 hq4 hq5 FA0 FA1 FA2 FA3 FA4 FB0 FB1 FB2 FB3 FB4
            go_wp2_with (fail)
            go_region
            all_goals (go_wp2_with (fail))
            all_goals go_roundw
            all_goals first | (simp [intOf]; done) | skip
            all_goals
              refine ⟨i, swapAt mvD O2 i, by omega, by go_num, ?_, PM.out, SW.out hc0, ?_⟩
            all_goals first
              | (with_reducible refine (WR.out _ ?_ ?_).1; (· exact own_keep0 HOQ.out (gr_drew (gr_refl _ _))); exact gr_drew HGQ.out)
              | (with_reducible refine (WR.out _ ?_ ?_).2; (· exact own_keep0 HOQ.out (gr_drew (gr_refl _ _))); exact gr_drew HGQ.out)
              | (with_reducible refine own_keep0 (WR.out _ ?_ ?_).1 (gr_drew (gr_refl _ _)); (· exact HOQ.out); exact HGQ.out)
              | (with_reducible refine gr_drew (WR.out _ ?_ ?_).2; (· exact HOQ.out); exact HGQ.out)
              | fail
          · have hdc : decide (c < 0) = false := decide_eq_false hc0
            go_wp2_with (fail)
            refine wp_region_grew (by kernel_rfl) (by kernel_rfl) ?_
            repeat (go_big_quiet_step (first | (exact Calls.grew_of (fun W h => CC.out W h))))
            refine wpQuiet_nil ?_
            rintro wq ⟨nn, rfl⟩
            have HGQ := Lib.hid (gr_trans HGR2.out (gr_weak nn.gr _))
            have HW := Lib.hid (own_keep0 HOW.out nn.gr)
            clear ga0 ga1 ga2 ga3 ga4 gb0 gb1 gb2 gb3 gb4 a0 a1 a2 a3 a4 b0 b1 b2 b3 b4
            go_wp2_with (fail)
            go_roundw
            case rel => exact ⟨k + 1, O2, by omega, by omega, by go_num, HW.out, HPM2.out, ST.out hc0, HGQ.out⟩
            case measure => simp [intOf]; omega
        · have hd0 : decide (0 < j) = false := decide_eq_false hj0
          obtain rfl : j = 0 := by omega
          have HOWN2 := Lib.hid hown2
          have HGR2 := Lib.hid hgr2
          have HPM2 := Lib.hid hO2
          have HZ := Lib.hid (srt_zero hb2)
          have hq5 : decide ((0 : Int) < 0) = false := by decide
          clear hown2 hgr2 hO2 hb2 hlen
          go_wp2_with (fail)
          go_quiet (fail)
          go_wp2_with (fail)
          go_roundw
          case rel => exact ⟨k + 1, O2, by omega, by omega, by go_num, own_keep0 HOWN2.out (gr_drewN (gr_refl _ _) _), HPM2.out, HZ.out, gr_drewN HGR2.out _⟩
          case measure => simp [intOf]; omega
    · have HW := Lib.hid hown'
      clear hown'
      go_wp2_with (fail)
      go_end0
      have hS : Srt cm mvD O' n := fun p q h1 h2 => HS.out p q h1 (by omega)
      exact ⟨O', rfl, HW.out, HO'.out, hS, hgr⟩
set_option maxRecDepth 100000 in
theorem stableMv_any (F : FuncId) (n : Nat) (cm : Mv → Mv → Int) (v : Value) (base : Nat) (L : List Mv) (w : World) (hown : w.ownsRow base 41 5 v n (flat encMv L)) (hL : L.length = n) (hn : n < 20)
    (hE : ∀ (args : Array Value) (w : World), (callFunc F args).run Tryd.prog w = .ok (.enter F args) w) (hc : CmpOk cm) (hF : CmpMv F cm L v.ownBlock w) :
    Calls Tryd.prog 76 #[v, .int .i64 n, .func (.func F) #[] #[]] w (SortMvPost cm L v n base w) := by
  have IS := Lib.hid (insertionMv_any F n cm v base L w hown hL (by omega) hE hc hF)
  obtain ⟨va, vc, rfl, _, _, _, _⟩ := own_shape hown
  clear hF hE hown hL hc
  have h20 : ¬ 20 ≤ (n : Int) := by omega
  go_enter Tryd.func76, Tryd.ntmps76
  go_wp2_with (fail)
  go_loop [7, 8] (fun a b => a = .int .i64 0 ∧ b = .int .i64 20) (fun _ _ => 0)
  case atStart => exact ⟨rfl, rfl⟩
  case round =>
    obtain ⟨rfl, rfl⟩ := hrel
    go_wp2_with (fail)
    refine IS.out.mono ?_
    rintro e w2 ⟨O2, rfl, h1, h2, h3, h4⟩
    have H1 := Lib.hid h1
    have H2 := Lib.hid h2
    have H3 := Lib.hid h3
    have hn20 : ¬ 20 < (n : Int) := by omega
    clear h1 h2 h3
    go_wp2_with (fail)
    go_loop [6] (fun a => a = .int .i64 20) (fun _ => 0)
    case atStart => exact rfl
    case round =>
      obtain rfl := hrel
      go_wp2_with (fail)
      go_end0
      exact ⟨O2, rfl, H1.out, H2.out, H3.out, h4⟩
theorem sortMv_any (F : FuncId) (n : Nat) (cm : Mv → Mv → Int) (v : Value) (base : Nat) (L : List Mv) (w : World) (hown : w.ownsRow base 41 5 v n (flat encMv L)) (hL : L.length = n) (hn : n < 20)
    (hE : ∀ (args : Array Value) (w : World), (callFunc F args).run Tryd.prog w = .ok (.enter F args) w) (hc : CmpOk cm) (hF : CmpMv F cm L v.ownBlock w) :
    Calls Tryd.prog 35 #[v, .func (.func F) #[] #[]] w (SortMvPost cm L v n base w) := by
  have IS := Lib.hid (stableMv_any F n cm v base L w hown hL hn hE hc hF)
  obtain ⟨va, vc, rfl, _, _, _, _⟩ := own_shape hown
  clear hF hE hown hL hc
  go_enter Tryd.func35, Tryd.ntmps35
  go_wp2_with (fail)
  refine IS.out.mono ?_
  rintro e w2 ⟨O2, rfl, h1, h2, h3, h4⟩
  have H1 := Lib.hid h1
  have H2 := Lib.hid h2
  have H3 := Lib.hid h3
  clear h1 h2 h3
  go_wp2_with (fail)
  go_end0
  exact ⟨O2, rfl, H1.out, H2.out, H3.out, h4⟩
end Go.Proofs.YtakabckmiodjaaaDoor

/-! slices.Equal at []coilrack/api.Move, of the same contents. Written by mkequal.py. -/
namespace Go.Proofs.YtakabckmiodjaaaDoor
open Go.RowKit

set_option maxRecDepth 100000 in
theorem equal_Mv (xs : List Mv) (a b : Option Addr) (c d : Nat) (w : World) (ha : CellsAt w a (flat encMv xs)) (hb : CellsAt w b (flat encMv xs)) (hl : xs.length ≤ 1000000) :
    Calls Tryd.prog 12 #[.slice a xs.length c, .slice b xs.length d] w fun e w' => e = .returned (.bool true) ∧ w.grownBy w' none := by
  go_enter Tryd.func12, Tryd.ntmps12
  go_wp2_with (fail)
  go_loopw [13] (fun i wr => ∃ k : Nat, k ≤ xs.length ∧ i = .int .i64 k ∧ w.grownBy wr none) (fun i _ => xs.length - (intOf i).toNat)
  case atStart => exact ⟨0, Nat.zero_le _, rfl, gr_refl _ _⟩
  case round =>
    obtain ⟨k, hk, rfl, hgr⟩ := hrel
    obtain ⟨wo, rfl⟩ : ∃ wo : World, wo = wr := ⟨_, rfl⟩
    by_cases hlt : k < xs.length
    · obtain ⟨b1, o1, rfl, hcs⟩ := flat_cells (enc := encMv) (m := 5) (fun _ => rfl) (by decide) (ha.keep0 hgr) (by omega)
      obtain ⟨b2, o2, rfl, hcs2⟩ := flat_cells (enc := encMv) (m := 5) (fun _ => rfl) (by decide) (hb.keep0 hgr) (by omega)
      obtain ⟨s, hs⟩ : ∃ s, s = xs[k] := ⟨_, rfl⟩
      obtain ⟨y0, y1, y2, y3, y4⟩ := s
      have e0 : wo.cell? ⟨b1, o1 + k * 5, none⟩ = some (.string y0) := hcs k hlt 0 _ (by rw [← hs]; rfl)
      have e1 : wo.cell? ⟨b1, o1 + k * 5 + 1, none⟩ = some (.int .i64 y1) := hcs k hlt 1 _ (by rw [← hs]; rfl)
      have e2 : wo.cell? ⟨b1, o1 + k * 5 + 2, none⟩ = some (.int .i64 y2) := hcs k hlt 2 _ (by rw [← hs]; rfl)
      have e3 : wo.cell? ⟨b1, o1 + k * 5 + 3, none⟩ = some (.string y3) := hcs k hlt 3 _ (by rw [← hs]; rfl)
      have e4 : wo.cell? ⟨b1, o1 + k * 5 + 4, none⟩ = some (.int .i64 y4) := hcs k hlt 4 _ (by rw [← hs]; rfl)
      have d0 : wo.cell? ⟨b2, o2 + k * 5, none⟩ = some (.string y0) := hcs2 k hlt 0 _ (by rw [← hs]; rfl)
      have d1 : wo.cell? ⟨b2, o2 + k * 5 + 1, none⟩ = some (.int .i64 y1) := hcs2 k hlt 1 _ (by rw [← hs]; rfl)
      have d2 : wo.cell? ⟨b2, o2 + k * 5 + 2, none⟩ = some (.int .i64 y2) := hcs2 k hlt 2 _ (by rw [← hs]; rfl)
      have d3 : wo.cell? ⟨b2, o2 + k * 5 + 3, none⟩ = some (.string y3) := hcs2 k hlt 3 _ (by rw [← hs]; rfl)
      have d4 : wo.cell? ⟨b2, o2 + k * 5 + 4, none⟩ = some (.int .i64 y4) := hcs2 k hlt 4 _ (by rw [← hs]; rfl)
      clear hs hcs hcs2
      go_wp2_with (fail)
      go_region
      all_goals (go_wp2_with (fail))
      all_goals go_roundw
      case rel => exact ⟨k + 1, by omega, by go_num, gr_drew hgr⟩
      case measure => simp [intOf]; omega
    · go_wp2_with (fail)
      go_ret
      exact ⟨rfl, hgr⟩
end Go.Proofs.YtakabckmiodjaaaDoor
