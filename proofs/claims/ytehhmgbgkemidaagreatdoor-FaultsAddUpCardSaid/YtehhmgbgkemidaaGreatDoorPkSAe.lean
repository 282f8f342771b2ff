/- A region that draws its order, whose own operations only read and whose calls may make memory: one walk in the text's order. Of no program. -/
import Derived.Test.YtehhmgbgkemidaaGreatDoorPkSAa
import Derived.Deep.QuietTactic
import Derived.BigQuiet
namespace Go.Proofs.YtehhmgbgkemidaaGreatDoor
open Go.RowKit

/-- The worlds that have grown out of one. -/
def Grew (w0 : World) : Type := { w : World // w0.grownBy w none }
def Grew.w {w0 : World} (n : Grew w0) : World := n.1
theorem Grew.gr {w0 : World} (n : Grew w0) : w0.grownBy n.w none := n.2
instance Grew.some (w0 : World) : Nonempty (Grew w0) := ⟨⟨w0, gr_refl w0 none⟩⟩
theorem grew_cell {w0 : World} {b o : Nat} {v : Value} (h : w0.cell? ⟨b, o, none⟩ = some v) : ∀ n : Grew w0, n.w.cell? ⟨b, o, none⟩ = some v := fun n => (gr_cell n.gr (lt_of_cell h)).trans h
theorem wp_region_grew {P : Program} {id : Nat} {Q : Exit → Act → World → Prop} {a : Act} {w : World} {l : List Oper} (hm : P.follows .mixedOrders = true) (hB : Region.lexB .any l.toArray = true)
    (h : wpQuiet P l.toArray (fun w' => ∃ n : Grew w, w' = n.w) (fun a' => ∀ w', (∃ n : Grew w, w' = n.w) → Q .normal a' w') l a) : (Code.region id l.toArray true).wp P Q a w :=
  wp_region_quiet (C := fun w' => ∃ n : Grew w, w' = n.w) hm hB ⟨⟨w.drew, gr_drew (gr_refl w none)⟩, rfl⟩ (by simpa using h)
theorem Calls.grew_of {P : Program} {f : FuncId} {args : Array Value} {w0 : World} {n : Grew w0} {v : Value} (h : ∀ W, w0.grownBy W none → Calls P f args W fun e w' => e = .returned v ∧ W.grownBy w' none) :
    Calls P f args n.w fun e w'' => e = .returned v ∧ ∃ m : Grew w0, w'' = m.w :=
  (h n.w n.gr).mono fun _ w' hh => ⟨hh.1, ⟨⟨w', gr_trans n.gr hh.2⟩, rfl⟩⟩
end Go.Proofs.YtehhmgbgkemidaaGreatDoor

/-! When a code is on: no program in sight. -/
namespace Go.Proofs.YtehhmgbgkemidaaGreatDoor

structure Cd where
  tm : Int
  key : ByteArray
  on : Bool
def putW (O : List Win) (f t : Int) : List Win :=
  if t = f then O
  else if 0 < O.length ∧ (O.getD (O.length - 1) w0W).to = f then O.set (O.length - 1) ⟨(O.getD (O.length - 1) w0W).fr, t⟩
  else O ++ [⟨f, t⟩]
structure LitS where
  out : List Win
  on : Bool
  fr : Int
def litStep (K : ByteArray) (s : LitS) (c : Cd) : LitS :=
  if (c.key.toList == K.toList) = false ∨ c.on = s.on then s else ⟨if s.on then putW s.out s.fr c.tm else s.out, c.on, c.tm⟩
def litEnd (E : Int) (s : LitS) : List Win := if s.on then putW s.out s.fr E else s.out
def litM (E : Int) (K : ByteArray) (l : List Cd) : List Win := litEnd E (l.foldl (litStep K) ⟨[], false, 0⟩)
structure LitOk (Mo : List Int) (s : LitS) : Prop where
  apart : Apart s.out
  ends : EndsIn Mo s.out
  fr : s.fr ∈ Mo
  below : ∀ x ∈ s.out, x.to ≤ s.fr
theorem put_ok {Mo : List Int} {O : List Win} {f t : Int} (h1 : Apart O) (h2 : EndsIn Mo O) (hf : f ∈ Mo) (ht : t ∈ Mo) (hft : f ≤ t) (hb : ∀ x ∈ O, x.to ≤ f) : Apart (putW O f t) ∧ EndsIn Mo (putW O f t) ∧ (∀ x ∈ putW O f t, x.to ≤ t) := by
  unfold putW
  split
  · exact ⟨h1, h2, fun x hx => by have := hb x hx; omega⟩
  · rename_i hne
    rcases List.eq_nil_or_concat O with rfl | ⟨I, y, rfl⟩
    · rw [if_neg (by simp)]
      refine ⟨Apart.nil.snoc (by simp only; omega) (fun y hy => by cases hy), fun x hx => ?_, fun x hx => ?_⟩
      · have e : x = ⟨f, t⟩ := by simpa using hx
        rw [e]; exact ⟨hf, ht⟩
      · have e : x = ⟨f, t⟩ := by simpa using hx
        rw [e]; exact Int.le_refl _
    · rw [List.concat_eq_append] at h1 h2 hb
      rw [List.concat_eq_append, snoc_get, snoc_set]
      obtain ⟨g1, g2, g3⟩ := h1.init
      have hy := hb y (by simp)
      split
      · rename_i hc
        refine ⟨g1.snoc (by simp only; omega) (fun z hz => g3 z hz), fun x hx => ?_, fun x hx => ?_⟩
        · rcases List.mem_append.1 hx with hx | hx
          · exact h2 x (List.mem_append_left _ hx)
          · have e : x = ⟨y.fr, t⟩ := by simpa using hx
            rw [e]; exact ⟨(h2 y (by simp)).1, ht⟩
        · rcases List.mem_append.1 hx with hx | hx
          · have := hb x (List.mem_append_left _ hx); omega
          · have e : x = ⟨y.fr, t⟩ := by simpa using hx
            rw [e]; exact Int.le_refl _
      · rename_i hc
        have hyf : y.to < f := by
          rcases Int.lt_or_le y.to f with h | h
          · exact h
          · exact absurd ⟨by simp, by omega⟩ hc
        refine ⟨h1.snoc (by simp only; omega) (fun z hz => ?_), fun x hx => ?_, fun x hx => ?_⟩
        · rcases List.mem_append.1 hz with hz | hz
          · have := g3 z hz; simp only; omega
          · have e : z = y := by simpa using hz
            rw [e]; exact hyf
        · rcases List.mem_append.1 hx with hx | hx
          · exact h2 x hx
          · have e : x = ⟨f, t⟩ := by simpa using hx
            rw [e]; exact ⟨hf, ht⟩
        · rcases List.mem_append.1 hx with hx | hx
          · have := hb x hx; omega
          · have e : x = ⟨f, t⟩ := by simpa using hx
            rw [e]; exact Int.le_refl _
theorem LitOk.step {Mo : List Int} {s : LitS} {K : ByteArray} {c : Cd} (h : LitOk Mo s) (hc : c.tm ∈ Mo) (hl : s.fr ≤ c.tm) : LitOk Mo (litStep K s c) ∧ (litStep K s c).fr ≤ c.tm := by
  unfold litStep
  split
  · exact ⟨h, hl⟩
  · refine ⟨?_, Int.le_refl _⟩
    cases hs : s.on with
    | false =>
      simp only [Bool.false_eq_true, if_false]
      exact ⟨h.apart, h.ends, hc, fun x hx => by have := h.below x hx; simp only; omega⟩
    | true =>
      simp only [if_true]
      obtain ⟨a, b, d⟩ := put_ok h.apart h.ends h.fr hc hl h.below
      exact ⟨a, b, hc, d⟩
/-- Codes in order. -/
structure CdsOk (E : Int) (l : List Cd) : Prop where
  lo : ∀ c ∈ l, 0 ≤ c.tm ∧ c.tm < E
  ord : l.Pairwise (fun a b => a.tm ≤ b.tm)
def momW (E : Int) (l : List Cd) : List Int := 0 :: E :: l.map Cd.tm
theorem lit_go {Mo : List Int} {K : ByteArray} : ∀ (l : List Cd) (s : LitS), LitOk Mo s → (∀ c ∈ l, c.tm ∈ Mo ∧ s.fr ≤ c.tm) → l.Pairwise (fun a b => a.tm ≤ b.tm) → LitOk Mo (l.foldl (litStep K) s) ∧ (∀ t, s.fr ≤ t → (∀ c ∈ l, c.tm ≤ t) → (l.foldl (litStep K) s).fr ≤ t)
  | [], s, h, _, _ => ⟨h, fun t ht _ => ht⟩
  | c :: l, s, h, hm, ho => by
    obtain ⟨m1, m2⟩ := hm c (List.mem_cons_self ..)
    obtain ⟨h1, h2⟩ := h.step (K := K) m1 m2
    obtain ⟨h3, h4⟩ := lit_go l (litStep K s c) h1 (fun d hd => ⟨(hm d (List.mem_cons_of_mem _ hd)).1, by have := List.rel_of_pairwise_cons ho hd; omega⟩) (List.Pairwise.of_cons ho)
    exact ⟨h3, fun t ht hc => h4 t (by have := hc c (List.mem_cons_self ..); omega) (fun d hd => hc d (List.mem_cons_of_mem _ hd))⟩
theorem lit_ok {E : Int} {K : ByteArray} {l : List Cd} (h : CdsOk E l) (hE : 0 ≤ E) : Apart (litM E K l) ∧ EndsIn (momW E l) (litM E K l) := by
  have h0 : LitOk (momW E l) ⟨[], false, 0⟩ := ⟨Apart.nil, (fun x hx => by cases hx), by simp [momW], fun x hx => by cases hx⟩
  obtain ⟨h1, h2⟩ := lit_go (Mo := momW E l) (K := K) l ⟨[], false, 0⟩ h0 (fun c hc => ⟨by
    unfold momW
    exact List.mem_cons_of_mem _ (List.mem_cons_of_mem _ (List.mem_map_of_mem hc)), (h.lo c hc).1⟩) h.ord
  have h3 := h2 E hE (fun c hc => by have := h.lo c hc; omega)
  unfold litM litEnd
  split
  · obtain ⟨a, b, _⟩ := put_ok (t := E) h1.apart h1.ends h1.fr (by simp [momW]) h3 h1.below
    exact ⟨a, b⟩
  · exact ⟨h1.apart, h1.ends⟩
theorem momW_len (E : Int) (l : List Cd) : (momW E l).length = l.length + 2 := by simp [momW]
theorem lit_len {E : Int} {K : ByteArray} {l : List Cd} (h : CdsOk E l) (hE : 0 ≤ E) : 2 * (litM E K l).length ≤ l.length + 2 := by
  obtain ⟨a, b⟩ := lit_ok (K := K) h hE
  have := apart_few _ _ a b
  rw [momW_len] at this
  exact this
/-- All windows lie between 0 and E. -/
theorem momW_bd {E : Int} {l : List Cd} (h : CdsOk E l) (hE : 0 ≤ E) : ∀ m ∈ momW E l, 0 ≤ m ∧ m ≤ E := by
  intro m hm
  simp only [momW, List.mem_cons, List.mem_map] at hm
  rcases hm with rfl | rfl | ⟨c, hc, rfl⟩
  · exact ⟨Int.le_refl _, hE⟩
  · exact ⟨hE, Int.le_refl _⟩
  · have := h.lo c hc; omega
/-- When some of several codes is on. -/
def litAll (E : Int) (l : List Cd) (Ks : List ByteArray) : List Win := Ks.flatMap fun K => litM E K l
theorem litAll_ok {E : Int} {l : List Cd} (h : CdsOk E l) (hE : 0 ≤ E) (Ks : List ByteArray) : (∀ x ∈ litAll E l Ks, x.fr < x.to) ∧ EndsIn (momW E l) (litAll E l Ks) := by
  refine ⟨fun x hx => ?_, fun x hx => ?_⟩
  · obtain ⟨K, _, hx⟩ := List.mem_flatMap.1 hx
    exact (lit_ok (K := K) h hE).1.pos x hx
  · obtain ⟨K, _, hx⟩ := List.mem_flatMap.1 hx
    exact (lit_ok (K := K) h hE).2 x hx
theorem litAll_len {E : Int} {l : List Cd} (h : CdsOk E l) (hE : 0 ≤ E) : ∀ Ks : List ByteArray, 2 * (litAll E l Ks).length ≤ Ks.length * (l.length + 2)
  | [] => by simp [litAll]
  | K :: Ks => by
    have h1 := lit_len (K := K) h hE
    have h2 := litAll_len h hE Ks
    have e : litAll E l (K :: Ks) = litM E K l ++ litAll E l Ks := by simp [litAll]
    rw [e, List.length_append, List.length_cons, Nat.add_mul]
    omega
theorem litAll_snoc (E : Int) (l : List Cd) (Ks : List ByteArray) (K : ByteArray) : litAll E l (Ks ++ [K]) = litAll E l Ks ++ litM E K l := by simp [litAll]
theorem litAll_one (E : Int) (l : List Cd) (K : ByteArray) : litAll E l [K] = litM E K l := by simp [litAll]
/-- What Down returns does not depend on how the windows were joined. -/
def DownIs (E : Int) (l : List Cd) (Ks : List ByteArray) (a b n : Int) : Prop := ∃ J, JoinOk (momW E l) J (litAll E l Ks) ∧ n = dn J a b
theorem DownIs.add {E : Int} {l : List Cd} {Ks : List ByteArray} {a c b n x y : Int} (h : DownIs E l Ks a b n) (h1 : DownIs E l Ks a c x) (h2 : DownIs E l Ks c b y) (ac : a ≤ c) (cb : c ≤ b) : n = x + y ∧ n ≤ b - a := by
  obtain ⟨J, hJ, rfl⟩ := h
  obtain ⟨A, hA, rfl⟩ := h1
  obtain ⟨B, hB, rfl⟩ := h2
  have e1 := dn_eq hA.apart hJ.apart (fun m => (hA.same m).trans (hJ.same m).symm) a (c - a).toNat
  have e2 := dn_eq hB.apart hJ.apart (fun m => (hB.same m).trans (hJ.same m).symm) c (b - c).toNat
  have e3 := dn_le hJ.apart a (b - a).toNat
  rw [show a + ((c - a).toNat : Int) = c by omega] at e1
  rw [show c + ((b - c).toNat : Int) = b by omega] at e2
  rw [show a + ((b - a).toNat : Int) = b by omega] at e3
  rw [e1, e2, ← dn_split J a c b hJ.apart.pos ac cb]
  exact ⟨rfl, by omega⟩
theorem DownIs.full {E : Int} {l : List Cd} {K : ByteArray} {a b n : Int} (h : DownIs E l [K] a b n) (ab : a ≤ b) (hi : ∀ m, a ≤ m → m < b → InW (litM E K l) m) : n = b - a := by
  obtain ⟨J, hJ, rfl⟩ := h
  rw [litAll_one] at hJ
  have := dn_full hJ.apart a (b - a).toNat (fun m h1 h2 => (hJ.same m).2 (hi m h1 (by omega)))
  rw [show a + ((b - a).toNat : Int) = b by omega] at this
  rw [this]; omega
end Go.Proofs.YtehhmgbgkemidaaGreatDoor

/-! What follows of rules: no program in sight. -/
namespace Go.Proofs.YtehhmgbgkemidaaGreatDoor

structure Fd where
  fault : ByteArray
  fr : Int
  to : Int
  deriving Inhabited
structure Rl where
  fault : ByteArray
  needs : List ByteArray
  without : List ByteArray
  long : Int
def K0 (r : Rl) : ByteArray := r.needs.headD ⟨#[]⟩
structure DgInv (E : Int) (l : List Cd) (r : Rl) (W : List Win) (i : Nat) : Prop where
  apart : Apart W
  ends : EndsIn (momW E l) W
  sub : 0 < i → ∀ m, InW W m → InW (litM E (K0 r) l) m
theorem DgInv.start {E : Int} {l : List Cd} (h : CdsOk E l) (hE : 0 ≤ E) (r : Rl) {J : List Win} (hJ : JoinOk (momW E l) J (litAll E l r.without)) : DgInv E l r (othersG E 0 J) 0 := by
  obtain ⟨h1, h2, _⟩ := others_ok E (momW E l) (by simp [momW]) J 0 (by simp [momW]) hJ.apart hJ.ends (fun x hx => (momW_bd h hE _ (hJ.ends x hx).1).1)
  exact ⟨h1, h2, fun h => absurd h (Nat.lt_irrefl _)⟩
theorem DgInv.step {E : Int} {l : List Cd} (h : CdsOk E l) (hE : 0 ≤ E) {r : Rl} {W : List Win} {i : Nat} (hi : i < r.needs.length) (hW : DgInv E l r W i) : DgInv E l r (bothM W (litM E r.needs[i] l)) (i + 1) := by
  obtain ⟨a, b⟩ := lit_ok (K := r.needs[i]) h hE
  refine ⟨both_apart _ _ _ (Nat.le_refl _) hW.apart a, both_ends hW.ends b, fun _ m hm => ?_⟩
  obtain ⟨h1, h2⟩ := both_sub hm
  by_cases h0 : 0 < i
  · exact hW.sub h0 m h1
  · have e : i = 0 := by omega
    subst e
    have e2 : r.needs[0] = K0 r := by
      unfold K0
      match r.needs, hi with
      | x :: xs, _ => rfl
    rw [← e2]; exact h2
theorem DgInv.len {E : Int} {l : List Cd} {r : Rl} {W : List Win} {i : Nat} (hW : DgInv E l r W i) : 2 * W.length ≤ l.length + 2 := by
  have := apart_few _ _ hW.apart hW.ends
  rwa [momW_len] at this
/-- A finding that a rule gives. -/
structure FdOf (E : Int) (l : List Cd) (r : Rl) (f : Fd) : Prop where
  fault : f.fault = r.fault
  long : r.long ≤ f.to - f.fr
  pos : f.fr < f.to
  lo : 0 ≤ f.fr
  hi : f.to ≤ E
  all : ∀ m, f.fr ≤ m → m < f.to → InW (litM E (K0 r) l) m
theorem DgInv.find {E : Int} {l : List Cd} (h : CdsOk E l) (hE : 0 ≤ E) {r : Rl} {W J : List Win} {i : Nat} (hW : DgInv E l r W i) (hi : 0 < i) (hJ : JoinOk (momW E l) J W) {x : Win} (hx : x ∈ J) (hl : r.long ≤ x.to - x.fr) : FdOf E l r ⟨r.fault, x.fr, x.to⟩ := by
  obtain ⟨e1, e2⟩ := hJ.ends x hx
  exact ⟨rfl, hl, hJ.apart.pos x hx, (momW_bd h hE _ e1).1, (momW_bd h hE _ e2).2, fun m h1 h2 => hW.sub hi m ((hJ.same m).1 ⟨x, hx, h1, h2⟩)⟩
def FdsOk (E : Int) (l : List Cd) (rs : List Rl) (F : List Fd) : Prop := ∀ f ∈ F, ∃ r ∈ rs, FdOf E l r f
end Go.Proofs.YtehhmgbgkemidaaGreatDoor
