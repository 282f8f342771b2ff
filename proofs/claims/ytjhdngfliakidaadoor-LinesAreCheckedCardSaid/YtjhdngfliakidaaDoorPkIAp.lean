/- Lines of readings: what is read back, and what a changed byte does. No walk. -/
import Derived.Test.YtjhdngfliakidaaDoorPkIAo
import Derived.Lib.ConvBytes
namespace Go.Proofs.YtjhdngfliakidaaDoor
open Go.RowKit

def hexAt (i : Nat) : UInt8 := hexT.data.toList.getD i 0
def hexNe (i j : Nat) : Bool := i == j || !(hexAt i == hexAt j)
theorem hexNe_all : ((List.range 16).all fun i => (List.range 16).all fun j => hexNe i j) = true := by kernel_rfl
theorem hexAt_inj (i j : Nat) (hi : i < 16) (hj : j < 16) (h : hexAt i = hexAt j) : i = j := by
  have h1 := List.all_eq_true.1 hexNe_all i (List.mem_range.2 hi)
  have h2 := List.all_eq_true.1 h1 j (List.mem_range.2 hj)
  have h3 : (i == j || !(hexAt i == hexAt j)) = true := h2
  rw [h, beq_self_eq_true, Bool.not_true, Bool.or_false] at h3
  exact eq_of_beq h3
theorem hexL_inj (x y : UInt8) (h : hexL x = hexL y) : x = y := by
  unfold hexL at h
  simp only [List.cons.injEq, and_true] at h
  have hx := x.toNat_lt
  have hy := y.toNat_lt
  have h1 := hexAt_inj _ _ (by omega) (by omega) h.1
  have h2 := hexAt_inj _ _ (by omega) (by omega) h.2
  exact UInt8.toNat_inj.1 (by omega)
theorem dec_of_line (x : Rd) (ok : LineOk x) : Dec (Lib.itoa x.at_) (x.vs.map Lib.itoa) x.at_ x.vs := by
  have a1 := ok.a1
  refine ⟨itoa_num _ ok.a0 (by omega), fun p hp => ?_, by have := ok.l0; simp; omega, by have := ok.l1; simp; omega, itoa_atoi _ ok.a0 (by omega), by simp, fun i h h2 => ?_⟩
  · obtain ⟨v, hv, rfl⟩ := List.mem_map.1 hp
    have := ok.all v hv
    exact itoa_num _ this.1 (by omega)
  · have := ok.all _ (List.getElem_mem h2)
    rw [List.getElem_map]
    exact itoa_atoi _ this.1 (by omega)
theorem body_of_line (x : Rd) (ok : LineOk x) : BodyL (bodyOf x) (Lib.itoa x.at_) (x.vs.map Lib.itoa) := by
  have D := dec_of_line x ok
  exact ⟨rfl, D.a, D.nums, fun e => by have := D.l0; rw [e] at this; simp at this⟩
theorem dec_of_body {s A : List UInt8} {ns : List (List UInt8)} (h : BodyL s A ns) (h1 : ns.length ≤ 60) : ∃ av vs, Dec A ns av vs := by
  obtain ⟨n, hn, -⟩ := atoi_num h.a
  refine ⟨(n : Int), ns.map (fun p => (Lib.atoi p).getD 0), h.a, h.nums, List.length_pos_iff.2 h.nne, h1, hn, by simp, fun i hi h2 => ?_⟩
  rw [List.getElem_map]
  obtain ⟨m, hm, -⟩ := atoi_num (h.nums _ (List.getElem_mem hi))
  rw [hm]
  rfl
/-- What one digit more does. -/
theorem line_up (x : Rd) (ok : LineOk x) (k : Nat) (hk : k < (bodyOf x).length) (h1 : 49 ≤ (bodyOf x)[k].toNat) (h2 : (bodyOf x)[k].toNat ≤ 56) :
    ∃ A ns av vs, Dec A ns av vs ∧ hexL (foldX (A ++ 32 :: joinC ns)) ≠ hexL (foldX (bodyOf x)) ∧ (lineL x).set k ((bodyOf x)[k] + 1) = (A ++ 32 :: joinC ns) ++ 32 :: 42 :: hexL (foldX (bodyOf x)) := by
  obtain ⟨A, ns, m1, m2⟩ := (body_of_line x ok).up k hk h1 h2
  obtain ⟨av, vs, D⟩ := dec_of_body m2 (by rw [m1]; have := ok.l1; simp; omega)
  refine ⟨A, ns, av, vs, D, fun e => ?_, ?_⟩
  · have e2 := hexL_inj _ _ e
    rw [← m2.eq] at e2
    refine foldX_set (bodyOf x) k hk _ (fun e3 => ?_) e2
    have e4 := congrArg UInt8.toNat e3
    rw [UInt8.toNat_add] at e4
    have : (1 : UInt8).toNat = 1 := rfl
    omega
  · unfold lineL
    rw [List.set_append_left _ _ hk, m2.eq]
theorem line_at (x : Rd) (k : Nat) (hk : k < (bodyOf x).length) : (lineL x)[k]? = some (bodyOf x)[k] := by
  unfold lineL
  rw [List.getElem?_append_left hk, List.getElem?_eq_getElem hk]
theorem lineB_size (x : Rd) : (lineB x).size = (bodyOf x).length + 4 := by
  show (lineL x).toArray.size = _
  simp [lineL, hexL]
theorem bodyOf_len (x : Rd) (ok : LineOk x) : 1 ≤ (bodyOf x).length ∧ (bodyOf x).length ≤ 610 := by
  have h := preL_len x ok x.vs.length (Nat.le_refl _)
  rw [bodyOf_pre] at h
  have := ok.l1
  refine ⟨?_, by omega⟩
  unfold bodyOf
  simp
  omega
theorem bw_cell (w : World) (s : ByteArray) (j : Nat) (b : UInt8) (h : s.data.toList[j]? = some b) : (Lib.bytesWorld w 5 s).cell? ⟨w.heap.size, j, none⟩ = some (.int .u8 (b.toNat : Int)) := by
  have hj : j < s.size := by
    have := (List.getElem?_eq_some_iff.1 h).1
    simpa using this
  rw [Lib.bytesWorld_cell w _ s j hj, List.getD_eq_getElem?_getD, h]
  rfl
theorem bw_frozen (w : World) (s : ByteArray) (j : Nat) (hj : j < s.size) : (Lib.bytesWorld w 5 s).frozen? ⟨w.heap.size, j, none⟩ = false := by
  have h : j < (Lib.bytesCells w 5 s).size := by
    unfold Lib.bytesCells
    simp
    have : s.data.size = s.size := rfl
    omega
  simp only [World.frozen?, Lib.bytesWorld_at_new]
  simp
  omega
end Go.Proofs.YtjhdngfliakidaaDoor
