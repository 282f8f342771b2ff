/- shelf.greatest. -/
import Derived.Test.YthikknnadmebgaaGreatDoorPkSBd
import Derived.Test.YthikknnadmebgaaGreatDoorPkSBe
import Derived.Test.YthikknnadmebgaaGreatDoorPkSAz
namespace Go.Proofs.YthikknnadmebgaaGreatDoor
open Go.RowKit
attribute [local go_sem ↓] Go.wp_at_zero Go.wp_at_succ

theorem skey_sameG (s : ByteArray) : (skey s).sameKey (skey s) = true := by simp [skey, Lit.sameKey]
/-- A map of tables: each is a row of its own. -/
structure Tabs (w : World) (lo M n S : Nat) (f : ByteArray → Option Sl) (T : ByteArray → List Int) : Prop where
  mp : MapV w M n f
  lM : lo ≤ M
  row : ∀ g sl, f g = some sl → sl.n = S + 1 ∧ w.ownsRow lo 3 1 (.slice (some ⟨sl.b, 0, none⟩) (S + 1) sl.c) (S + 1) (ints (T g))
  ap : ∀ g h sl sm, f g = some sl → f h = some sm → g ≠ h → sl.b ≠ sm.b
theorem own_b {w : World} {base e n b c : Nat} {xs : List Value} (h : w.ownsRow base e 1 (.slice (some ⟨b, 0, none⟩) n c) n xs) : base ≤ b ∧ b < w.heap.size := h.lt b rfl
theorem Tabs.keep0 {w w1 : World} {lo M n S : Nat} {f : ByteArray → Option Sl} {T : ByteArray → List Int} (h : Tabs w lo M n S f T) (g : w.grownBy w1 none) : Tabs w1 lo M n S f T :=
  ⟨h.mp.keep0 g, h.lM, fun k sl hk => ⟨(h.row k sl hk).1, own_keep0 (h.row k sl hk).2 g⟩, h.ap⟩
theorem own_mapV {w : World} {base e n b c M k : Nat} {xs : List Value} {f : ByteArray → Option Sl} (h : w.ownsRow base e 1 (.slice (some ⟨b, 0, none⟩) n c) n xs) (hm : MapV w M k f) : b ≠ M := by
  rintro rfl
  obtain ⟨es, cl, ho⟩ := hm.obj
  rcases h.2 with ⟨e, _⟩ | ⟨g', cap, cur, e, _, hh, _⟩
  · cases e
  · cases e
    rw [ho] at hh
    cases hh
/-- A row beside the tables is written. -/
theorem Tabs.keepB {w w1 : World} {lo M n S q : Nat} {f : ByteArray → Option Sl} {T : ByteArray → List Int} (h : Tabs w lo M n S f T) (g : w.grownBy w1 (some q)) (hq : q ≠ M) (ha : ∀ k sl, f k = some sl → sl.b ≠ q) : Tabs w1 lo M n S f T :=
  ⟨h.mp.keep g (fun e => by cases e; exact hq rfl), h.lM, fun k sl hk => ⟨(h.row k sl hk).1, own_keep (h.row k sl hk).2 g (.inr (fun e => ha k sl hk (by simpa [Value.ownBlock] using e)))⟩, h.ap⟩
/-- A new table is put into the map. -/
theorem Tabs.put {w w1 : World} {lo M n S : Nat} {f : ByteArray → Option Sl} {T : ByteArray → List Int} (h : Tabs w lo M n S f T) (s : ByteArray) (y : Sl) (C : List Int) (hm : MapV w1 M (n + 1) (fun t => if t = s then some y else f t)) (g : w.grownBy w1 (some M))
    (hy : y.n = S + 1) (ho : w.ownsRow lo 3 1 (.slice (some ⟨y.b, 0, none⟩) (S + 1) y.c) (S + 1) (ints C)) (hf : ∀ k sl, f k = some sl → k ≠ s → sl.b ≠ y.b) : Tabs w1 lo M (n + 1) S (fun t => if t = s then some y else f t) (fun t => if t = s then C else T t) := by
  have kp : ∀ {b c : Nat} {xs : List Value}, w.ownsRow lo 3 1 (.slice (some ⟨b, 0, none⟩) (S + 1) c) (S + 1) xs → w1.ownsRow lo 3 1 (.slice (some ⟨b, 0, none⟩) (S + 1) c) (S + 1) xs := fun {b c xs} hr =>
    own_keep hr g (.inr (fun e => own_mapV hr h.mp (by simpa [Value.ownBlock] using e)))
  refine ⟨hm, h.lM, fun k sl hk => ?_, fun k1 k2 s1 s2 h1 h2 hne => ?_⟩
  · by_cases e : k = s
    · simp only [if_pos e] at hk ⊢
      cases hk
      exact ⟨hy, kp ho⟩
    · simp only [if_neg e] at hk ⊢
      exact ⟨(h.row k sl hk).1, kp (h.row k sl hk).2⟩
  · by_cases e1 : k1 = s
    · by_cases e2 : k2 = s
      · exact absurd (e1.trans e2.symm) hne
      · simp only [if_pos e1] at h1
        simp only [if_neg e2] at h2
        cases h1
        exact fun e => hf k2 s2 h2 e2 e.symm
    · by_cases e2 : k2 = s
      · simp only [if_neg e1] at h1
        simp only [if_pos e2] at h2
        cases h2
        exact hf k1 s1 h1 e1
      · simp only [if_neg e1] at h1
        simp only [if_neg e2] at h2
        exact h.ap k1 k2 s1 s2 h1 h2 hne
/-- A place of a table is written. -/
theorem Tabs.set {w : World} {lo M n S : Nat} {f : ByteArray → Option Sl} {T : ByteArray → List Int} (h : Tabs w lo M n S f T) (s : ByteArray) (sl : Sl) (hs : f s = some sl) (i : Nat) (hi : i < S + 1) (x : Int) :
    Tabs (w.setCell ⟨sl.b, i, none⟩ (.int .i64 x)) lo M n S f (fun t => if t = s then (T s).set i x else T t) := by
  have gx := gr_set (q := ⟨sl.b, i, none⟩) (gr_refl w (some sl.b)) rfl (.int .i64 x)
  have hr := (h.row s sl hs).2
  refine ⟨h.mp.keep gx (fun e => by cases e; exact own_mapV hr h.mp rfl), h.lM, fun k sm hk => ?_, h.ap⟩
  by_cases e : k = s
  · subst e
    rw [hs] at hk
    cases hk
    simp only [if_pos]
    exact ⟨(h.row k sl hs).1, (own_int hr i hi).2.2 x⟩
  · simp only [if_neg e]
    exact ⟨(h.row k sm hk).1, own_keep (h.row k sm hk).2 gx (.inr (fun e2 => h.ap k s sm sl hk hs e (by simpa [Value.ownBlock] using e2)))⟩
theorem Tabs.same {w : World} {lo M n S : Nat} {f f' : ByteArray → Option Sl} {T T' : ByteArray → List Int} (h : Tabs w lo M n S f T) (e : ∀ g, f g = f' g) (eT : ∀ g, f g ≠ none → T g = T' g) : Tabs w lo M n S f' T' := by
  obtain rfl : f = f' := funext e
  exact ⟨h.mp, h.lM, fun k sl hk => ⟨(h.row k sl hk).1, by rw [← eT k (by rw [hk]; simp)]; exact (h.row k sl hk).2⟩, h.ap⟩
def encQuo (x : Quo) : List Value := [.string x.group, .int .i64 x.least, .int .i64 x.most]
structure QuoOk (q : List Quo) : Prop where
  len : q.length ≤ 10
  gr : ∀ x ∈ q, x.group.size ≤ 100
  bd : ∀ x ∈ q, -1000000 ≤ x.least ∧ x.least ≤ 1000000 ∧ -1000000 ≤ x.most ∧ x.most ≤ 1000000
/-- What stands while the groups' tables are made. -/
def G1 (wr w : World) (os : List Offer) (F : List Int) (S k : Nat) : Prop :=
  ∃ f n, Tabs wr w.heap.size w.heap.size n S f (fun g => gT os F S g k) ∧ (∀ g, f g ≠ none ↔ ∃ j, j < k ∧ (os.getD j o0).group = g) ∧ n ≤ 2 * k ∧ w.grownBy wr none
/-- .. and behind the first statement of a round: the offer's group has a table. -/
def G2 (wx w : World) (os : List Offer) (F : List Int) (S k X : Nat) (g : ByteArray) (cs : Array Value) : Prop :=
  ∃ f n, Tabs wx w.heap.size w.heap.size n S f (fun h => gT os F S h k) ∧ f g ≠ none ∧ (∀ h, f h ≠ none ↔ (∃ j, j < k ∧ (os.getD j o0).group = h) ∨ h = g) ∧ n ≤ 2 * k + 1 ∧ wx.heap[X]? = some (.cells cs 119 (0, 0)) ∧ w.grownBy wx none
theorem G1.next {w9 w8 w : World} {os : List Offer} {F : List Int} {S k n b : Nat} {f : ByteArray → Option Sl} {o : Offer} (hT : Tabs w8 w.heap.size w.heap.size n S f (fun h => gT os F S h k)) (hm : MapV w9 w.heap.size (n + 1) (fun t => if t = o.group then some ⟨b, S + 1, S + 1⟩ else f t)) (hg : w8.grownBy w9 (some w.heap.size))
    (ho : w8.ownsRow w.heap.size 3 1 (.slice (some ⟨b, 0, none⟩) (S + 1) (S + 1)) (S + 1) (ints (withT (gT os F S o.group k) (wsF os F k)))) (hfr : ∀ h sl, f h = some sl → sl.b ≠ b) (hoe : os.getD k o0 = o) (hdom : ∀ h, f h ≠ none ↔ (∃ j, j < k ∧ (os.getD j o0).group = h) ∨ h = o.group) (hn : n ≤ 2 * k + 1) (h8 : w.grownBy w8 none) : G1 w9 w os F S (k + 1) := by
  have HT9 := hT.put o.group ⟨b, S + 1, S + 1⟩ _ hm hg rfl ho (fun h sl e _ => hfr h sl e)
  refine ⟨fun t => if t = o.group then some ⟨b, S + 1, S + 1⟩ else f t, n + 1, HT9.same (fun _ => rfl) (fun h _ => ?_), fun h => ⟨fun e => ?_, fun e => ?_⟩, by omega, gr_grown h8 hg (fun q e => by have := Option.some.inj e; omega)⟩
  · by_cases eh : h = o.group
    · simp only [if_pos eh]
      rw [gT, hoe, if_pos eh.symm, eh]
    · simp only [if_neg eh]
      rw [gT, hoe, if_neg (fun e => eh e.symm)]
  · by_cases eh : h = o.group
    · exact ⟨k, by omega, by rw [hoe, eh]⟩
    · simp only [if_neg eh] at e
      rcases (hdom h).1 e with ⟨j, hj, e2⟩ | e2
      · exact ⟨j, by omega, e2⟩
      · exact absurd e2 eh
  · by_cases eh : h = o.group
    · simp only [if_pos eh]; simp
    · simp only [if_neg eh]
      obtain ⟨j, hj, e2⟩ := e
      by_cases ej : j = k
      · rw [ej, hoe] at e2; exact absurd e2.symm eh
      · exact (hdom h).2 (.inl ⟨j, by omega, e2⟩)
theorem lT_none (os : List Offer) (F : List Int) (S : Nat) (q : List Quo) (g : ByteArray) : ∀ k, (∀ j x, j < k → q[j]? = some x → x.group ≠ g) → lT os F S q g k = gT os F S g os.length
  | 0, _ => rfl
  | k + 1, h => by
    rw [lT]
    split
    · rename_i x hx
      rw [if_neg (h k x (by omega) hx), lT_none os F S q g k (fun j x hj => h j x (by omega))]
    · exact lT_none os F S q g k (fun j x hj => h j x (by omega))
/-- What stands while the quotas are kept. -/
def G3 (wr w : World) (os : List Offer) (F : List Int) (S : Nat) (q : List Quo) (k : Nat) : Prop :=
  ∃ f n, Tabs wr w.heap.size w.heap.size n S f (fun g => lT os F S q g k) ∧ (∀ g, f g ≠ none ↔ (∃ j, j < os.length ∧ (os.getD j o0).group = g) ∨ ∃ j x, j < k ∧ q[j]? = some x ∧ x.group = g) ∧ n ≤ 2 * os.length + k ∧ w.grownBy wr none
theorem G1.three {wr w : World} {os : List Offer} {F : List Int} {S : Nat} {q : List Quo} (h : G1 wr w os F S os.length) : G3 wr w os F S q 0 := by
  obtain ⟨f, n, hT, hd, hn, hg⟩ := h
  exact ⟨f, n, hT, fun g => ⟨fun e => .inl ((hd g).1 e), fun e => (hd g).2 (by rcases e with e | ⟨j, _, hj, _⟩; (· exact e); (· omega))⟩, by omega, hg⟩
end Go.Proofs.YthikknnadmebgaaGreatDoor
