/- shelf.greatest. -/
import Derived.Test.YtjhdngfliakidaaDoorPkCAv
import Derived.Test.YtjhdngfliakidaaDoorPkCAw
import Derived.Test.YtjhdngfliakidaaDoorPkCAo
namespace Go.Proofs.YtjhdngfliakidaaDoor
open Go.RowKit
attribute [local go_sem ↓] Go.wp_at_zero Go.wp_at_succ

theorem skey_same (s : ByteArray) : (skey s).sameKey (skey s) = true := by simp [skey, Lit.sameKey]
/-- A map of tables: each is a row of its own. -/
structure Tabs (w : World) (lo M n S : Nat) (f : ByteArray → Option Sl) (T : ByteArray → List Int) : Prop where
  mp : MapV w M n f
  lM : lo ≤ M
  row : ∀ g sl, f g = some sl → sl.n = S + 1 ∧ w.ownsRow lo 3 1 (.slice (some ⟨sl.b, 0, none⟩) (S + 1) sl.c) (S + 1) (ints (T g))
  ap : ∀ g h sl sm, f g = some sl → f h = some sm → g ≠ h → sl.b ≠ sm.b
theorem own_b {w : World} {base e n b c : Nat} {xs : List Value} (h : w.ownsRow base e 1 (.slice (some ⟨b, 0, none⟩) n c) n xs) : base ≤ b ∧ b < w.heap.size := h.lt b rfl
theorem Tabs.keep0 {w w1 : World} {lo M n S : Nat} {f : ByteArray → Option Sl} {T : ByteArray → List Int} (h : Tabs w lo M n S f T) (g : w.grownBy w1 none) : Tabs w1 lo M n S f T :=
  ⟨h.mp.keep0 g, h.lM, fun k sl hk => ⟨(h.row k sl hk).1, own_keep0 (h.row k sl hk).2 g⟩, h.ap⟩
theorem own_mapV {w : World} {base e n b c M k : Nat} {xs : List Value} {f : ByteArray → Option Sl} (h : w.ownsRow base e 1 (.slice (some ⟨b, 0, none⟩) n c) n xs) (hm : MapV w M k f) : b ≠ M := by
  rintro rfl
  obtain ⟨es, cl, ho⟩ := hm.obj
  rcases h.2 with ⟨e, _⟩ | ⟨g', cap, cur, e, _, hh, _⟩
  · cases e
  · cases e
    rw [ho] at hh
    cases hh
/-- A row beside the tables is written. -/
theorem Tabs.keepB {w w1 : World} {lo M n S q : Nat} {f : ByteArray → Option Sl} {T : ByteArray → List Int} (h : Tabs w lo M n S f T) (g : w.grownBy w1 (some q)) (hq : q ≠ M) (ha : ∀ k sl, f k = some sl → sl.b ≠ q) : Tabs w1 lo M n S f T :=
  ⟨h.mp.keep g (fun e => by cases e; exact hq rfl), h.lM, fun k sl hk => ⟨(h.row k sl hk).1, own_keep (h.row k sl hk).2 g (.inr (fun e => ha k sl hk (by simpa [Value.ownBlock] using e)))⟩, h.ap⟩
/-- A new table is put into the map. -/
theorem Tabs.put {w w1 : World} {lo M n S : Nat} {f : ByteArray → Option Sl} {T : ByteArray → List Int} (h : Tabs w lo M n S f T) (s : ByteArray) (y : Sl) (C : List Int) (hm : MapV w1 M (n + 1) (fun t => if t = s then some y else f t)) (g : w.grownBy w1 (some M))
    (hy : y.n = S + 1) (ho : w.ownsRow lo 3 1 (.slice (some ⟨y.b, 0, none⟩) (S + 1) y.c) (S + 1) (ints C)) (hf : ∀ k sl, f k = some sl → k ≠ s → sl.b ≠ y.b) : Tabs w1 lo M (n + 1) S (fun t => if t = s then some y else f t) (fun t => if t = s then C else T t) := by
  have kp : ∀ {b c : Nat} {xs : List Value}, w.ownsRow lo 3 1 (.slice (some ⟨b, 0, none⟩) (S + 1) c) (S + 1) xs → w1.ownsRow lo 3 1 (.slice (some ⟨b, 0, none⟩) (S + 1) c) (S + 1) xs := fun {b c xs} hr =>
    own_keep hr g (.inr (fun e => own_mapV hr h.mp (by simpa [Value.ownBlock] using e)))
  refine ⟨hm, h.lM, fun k sl hk => ?_, fun k1 k2 s1 s2 h1 h2 hne => ?_⟩
  · by_cases e : k = s
    · simp only [if_pos e] at hk ⊢
      cases hk
      exact ⟨hy, kp ho⟩
    · simp only [if_neg e] at hk ⊢
      exact ⟨(h.row k sl hk).1, kp (h.row k sl hk).2⟩
  · by_cases e1 : k1 = s
    · by_cases e2 : k2 = s
      · exact absurd (e1.trans e2.symm) hne
      · simp only [if_pos e1] at h1
        simp only [if_neg e2] at h2
        cases h1
        exact fun e => hf k2 s2 h2 e2 e.symm
    · by_cases e2 : k2 = s
      · simp only [if_neg e1] at h1
        simp only [if_pos e2] at h2
        cases h2
        exact hf k1 s1 h1 e1
      · simp only [if_neg e1] at h1
        simp only [if_neg e2] at h2
        exact h.ap k1 k2 s1 s2 h1 h2 hne
/-- A place of a table is written. -/
theorem Tabs.set {w : World} {lo M n S : Nat} {f : ByteArray → Option Sl} {T : ByteArray → List Int} (h : Tabs w lo M n S f T) (s : ByteArray) (sl : Sl) (hs : f s = some sl) (i : Nat) (hi : i < S + 1) (x : Int) :
    Tabs (w.setCell ⟨sl.b, i, none⟩ (.int .i64 x)) lo M n S f (fun t => if t = s then (T s).set i x else T t) := by
  have gx := gr_set (q := ⟨sl.b, i, none⟩) (gr_refl w (some sl.b)) rfl (.int .i64 x)
  have hr := (h.row s sl hs).2
  refine ⟨h.mp.keep gx (fun e => by cases e; exact own_mapV hr h.mp rfl), h.lM, fun k sm hk => ?_, h.ap⟩
  by_cases e : k = s
  · subst e
    rw [hs] at hk
    cases hk
    simp only [if_pos]
    exact ⟨(h.row k sl hs).1, (own_int hr i hi).2.2 x⟩
  · simp only [if_neg e]
    exact ⟨(h.row k sm hk).1, own_keep (h.row k sm hk).2 gx (.inr (fun e2 => h.ap k s sm sl hk hs e (by simpa [Value.ownBlock] using e2)))⟩
theorem Tabs.same {w : World} {lo M n S : Nat} {f f' : ByteArray → Option Sl} {T T' : ByteArray → List Int} (h : Tabs w lo M n S f T) (e : ∀ g, f g = f' g) (eT : ∀ g, f g ≠ none → T g = T' g) : Tabs w lo M n S f' T' := by
  obtain rfl : f = f' := funext e
  exact ⟨h.mp, h.lM, fun k sl hk => ⟨(h.row k sl hk).1, by rw [← eT k (by rw [hk]; simp)]; exact (h.row k sl hk).2⟩, h.ap⟩
def encQuo (x : Quo) : List Value := [.string x.group, .int .i64 x.least, .int .i64 x.most]
structure QuoOk (q : List Quo) : Prop where
  len : q.length ≤ 10
  gr : ∀ x ∈ q, x.group.size ≤ 100
  bd : ∀ x ∈ q, -1000000 ≤ x.least ∧ x.least ≤ 1000000 ∧ -1000000 ≤ x.most ∧ x.most ≤ 1000000
/-- What stands while the groups' tables are made. -/
def G1 (wr w : World) (os : List Offer) (F : List Int) (S k : Nat) : Prop :=
  ∃ f n, Tabs wr w.heap.size w.heap.size n S f (fun g => gT os F S g k) ∧ (∀ g, f g ≠ none ↔ ∃ j, j < k ∧ (os.getD j o0).group = g) ∧ n ≤ 2 * k ∧ w.grownBy wr none
/-- .. and behind the first statement of a round: the offer's group has a table. -/
def G2 (wx w : World) (os : List Offer) (F : List Int) (S k X : Nat) (g : ByteArray) (cs : Array Value) : Prop :=
  ∃ f n, Tabs wx w.heap.size w.heap.size n S f (fun h => gT os F S h k) ∧ f g ≠ none ∧ (∀ h, f h ≠ none ↔ (∃ j, j < k ∧ (os.getD j o0).group = h) ∨ h = g) ∧ n ≤ 2 * k + 1 ∧ wx.heap[X]? = some (.cells cs 106 (0, 0)) ∧ w.grownBy wx none
theorem G1.next {w9 w8 w : World} {os : List Offer} {F : List Int} {S k n b : Nat} {f : ByteArray → Option Sl} {o : Offer} (hT : Tabs w8 w.heap.size w.heap.size n S f (fun h => gT os F S h k)) (hm : MapV w9 w.heap.size (n + 1) (fun t => if t = o.group then some ⟨b, S + 1, S + 1⟩ else f t)) (hg : w8.grownBy w9 (some w.heap.size))
    (ho : w8.ownsRow w.heap.size 3 1 (.slice (some ⟨b, 0, none⟩) (S + 1) (S + 1)) (S + 1) (ints (withT (gT os F S o.group k) (wsF os F k)))) (hfr : ∀ h sl, f h = some sl → sl.b ≠ b) (hoe : os.getD k o0 = o) (hdom : ∀ h, f h ≠ none ↔ (∃ j, j < k ∧ (os.getD j o0).group = h) ∨ h = o.group) (hn : n ≤ 2 * k + 1) (h8 : w.grownBy w8 none) : G1 w9 w os F S (k + 1) := by
  have HT9 := hT.put o.group ⟨b, S + 1, S + 1⟩ _ hm hg rfl ho (fun h sl e _ => hfr h sl e)
  refine ⟨fun t => if t = o.group then some ⟨b, S + 1, S + 1⟩ else f t, n + 1, HT9.same (fun _ => rfl) (fun h _ => ?_), fun h => ⟨fun e => ?_, fun e => ?_⟩, by omega, gr_grown h8 hg (fun q e => by have := Option.some.inj e; omega)⟩
  · by_cases eh : h = o.group
    · simp only [if_pos eh]
      rw [gT, hoe, if_pos eh.symm, eh]
    · simp only [if_neg eh]
      rw [gT, hoe, if_neg (fun e => eh e.symm)]
  · by_cases eh : h = o.group
    · exact ⟨k, by omega, by rw [hoe, eh]⟩
    · simp only [if_neg eh] at e
      rcases (hdom h).1 e with ⟨j, hj, e2⟩ | e2
      · exact ⟨j, by omega, e2⟩
      · exact absurd e2 eh
  · by_cases eh : h = o.group
    · simp only [if_pos eh]; simp
    · simp only [if_neg eh]
      obtain ⟨j, hj, e2⟩ := e
      by_cases ej : j = k
      · rw [ej, hoe] at e2; exact absurd e2.symm eh
      · exact (hdom h).2 (.inl ⟨j, by omega, e2⟩)
theorem lT_none (os : List Offer) (F : List Int) (S : Nat) (q : List Quo) (g : ByteArray) : ∀ k, (∀ j x, j < k → q[j]? = some x → x.group ≠ g) → lT os F S q g k = gT os F S g os.length
  | 0, _ => rfl
  | k + 1, h => by
    rw [lT]
    split
    · rename_i x hx
      rw [if_neg (h k x (by omega) hx), lT_none os F S q g k (fun j x hj => h j x (by omega))]
    · exact lT_none os F S q g k (fun j x hj => h j x (by omega))
/-- What stands while the quotas are kept. -/
def G3 (wr w : World) (os : List Offer) (F : List Int) (S : Nat) (q : List Quo) (k : Nat) : Prop :=
  ∃ f n, Tabs wr w.heap.size w.heap.size n S f (fun g => lT os F S q g k) ∧ (∀ g, f g ≠ none ↔ (∃ j, j < os.length ∧ (os.getD j o0).group = g) ∨ ∃ j x, j < k ∧ q[j]? = some x ∧ x.group = g) ∧ n ≤ 2 * os.length + k ∧ w.grownBy wr none
theorem G1.three {wr w : World} {os : List Offer} {F : List Int} {S : Nat} {q : List Quo} (h : G1 wr w os F S os.length) : G3 wr w os F S q 0 := by
  obtain ⟨f, n, hT, hd, hn, hg⟩ := h
  exact ⟨f, n, hT, fun g => ⟨fun e => .inl ((hd g).1 e), fun e => (hd g).2 (by rcases e with e | ⟨j, _, hj, _⟩; (· exact e); (· omega))⟩, by omega, hg⟩
/-- .. and behind the first statement of a round. -/
def G4 (wx w : World) (os : List Offer) (F : List Int) (S : Nat) (q : List Quo) (k Y : Nat) (x : Quo) (sl : Sl) (n' : Nat) : Prop :=
  ∃ f n, Tabs wx w.heap.size w.heap.size n S f (fun g => if g = x.group then limT x.least x.most n' (lT os F S q g k) else lT os F S q g k) ∧ f x.group = some sl ∧ (∀ g, f g ≠ none ↔ ((∃ j, j < os.length ∧ (os.getD j o0).group = g) ∨ ∃ j y, j < k ∧ q[j]? = some y ∧ y.group = g) ∨ g = x.group) ∧ n ≤ 2 * os.length + k + 1 ∧ wx.heap[Y]? = some (.cells #[.string x.group, .int .i64 x.least, .int .i64 x.most] 109 (0, 0)) ∧ w.grownBy wx none
theorem G4.end {wx w : World} {os : List Offer} {F : List Int} {S : Nat} {q : List Quo} {k Y : Nat} {x : Quo} {sl : Sl} (h : G4 wx w os F S q k Y x sl (S + 1)) (hq : q[k]? = some x) : G3 wx w os F S q (k + 1) := by
  obtain ⟨f, n, hT, hf, hd, hn, _, hg⟩ := h
  refine ⟨f, n, hT.same (fun _ => rfl) (fun g _ => ?_), fun g => ?_, by omega, hg⟩
  · show _ = lT os F S q g (k + 1)
    rw [lT, hq]
    simp only
    by_cases e : g = x.group
    · rw [if_pos e, if_pos e.symm]
    · rw [if_neg e, if_neg (fun e2 => e e2.symm)]
  · rw [hd g]
    constructor
    · rintro ((h1 | ⟨j, y, hj, h2, h3⟩) | h1)
      · exact .inl h1
      · exact .inr ⟨j, y, by omega, h2, h3⟩
      · exact .inr ⟨k, x, by omega, hq, h1.symm⟩
    · rintro (h1 | ⟨j, y, hj, h2, h3⟩)
      · exact .inl (.inl h1)
      · by_cases e : j = k
        · subst e
          rw [hq] at h2
          cases h2
          exact .inr h3.symm
        · exact .inl (.inr ⟨j, y, by omega, h2, h3⟩)
set_option maxRecDepth 100000 in
set_option maxHeartbeats 4000000 in
theorem greatest_any (os : List Offer) (hok : OffersOk os) (q : List Quo) (hqo : QuoOk q) (F : List Int) (hF : ∀ x ∈ F, 0 ≤ x ∧ x ≤ 100) (S : Nat) (hS : S ≤ 60) (a qa fa : Option Addr) (vs : List OV) (c qc fc : Nat) (w : World) (h : OffsAt w a vs os) (hq : CellsAt w qa (flat encQuo q)) (hf : CellsAt w fa (ints F)) :
    Calls Tryd.prog 59 #[.slice a os.length c, .slice qa q.length qc, .int .i64 S, .slice fa F.length fc] w fun e w' => ∃ x, e = .returned (.int .i64 x) ∧ GreatIs (pbOf os hok q) F S x ∧ w.grownBy w' none := by
  have qn : ∀ (w : World) (a : Option Addr) (n c n' c' : Nat), (binOp .eql 135 (.slice a n c) (.slice none n' c')).run Tryd.prog w = .ok (.bool a.isNone) w := fun w a n c n' c' => Lib.run_eql_slice_nil w _ _ a n c n' c' Tryd.underlying135
  have HM0 := Lib.hid (MapV.made w)
  have HG0 := Lib.hid (gr_alloc (gr_refl w none) (.map #[] 0))
  have hmm := @run_makeMap Tryd.prog
  have HOF := Lib.hid h
  have HQ := Lib.hid hq
  have HF := Lib.hid hf
  have HFB := Lib.hid hF
  have HQO := Lib.hid hqo
  have hlen := hok.len
  have hql := hqo.len
  have K0 : Hid (G1 (w.alloc (.map #[] 0)) w os F S 0) := ⟨_, 0, ⟨HM0.out, Nat.le_refl _, (fun g sl e => by cases e), (fun g h sl sm e => by cases e)⟩, fun g => ⟨fun e => absurd rfl e, fun ⟨j, hj, _⟩ => by omega⟩, Nat.le_refl _, HG0.out⟩
  clear h hq hf hF hqo HM0 HG0
  go_enter Tryd.func59, Tryd.ntmps59
  go_wp2_with (fail)
  clear hmm
  go_loopw [23] (fun i wr => ∃ k : Nat, k ≤ os.length ∧ i = .int .i64 k ∧ G1 wr w os F S k) (fun i _ => os.length - (intOf i).toNat)
  case atStart => exact ⟨0, Nat.zero_le _, rfl, K0.out⟩
  case round =>
    clear K0
    obtain ⟨k, hk, rfl, f, n, hT, hdom, hn, hgr⟩ := hrel
    obtain ⟨wo, rfl⟩ : ∃ wo : World, wo = wr := ⟨_, rfl⟩
    by_cases hlt : k < os.length
    · obtain ⟨b, off, v, rfl, hv, d0, d1, d2, d3, d4⟩ := HOF.out.at k hlt
      replace d0 := (gr_cell hgr (lt_of_cell d0)).trans d0
      replace d1 := (gr_cell hgr (lt_of_cell d1)).trans d1
      replace d2 := (gr_cell hgr (lt_of_cell d2)).trans d2
      replace d3 := (gr_cell hgr (lt_of_cell d3)).trans d3
      replace d4 := (gr_cell hgr (lt_of_cell d4)).trans d4
      have hoe := off_at os k hlt
      have hgs := (hok.key _ (List.getElem_mem hlt)).2.2.2
      have hps := hok.prof _ (List.getElem_mem hlt)
      obtain ⟨o, hoo⟩ : ∃ o, o = os[k] := ⟨_, rfl⟩
      rw [← hoo] at hv hgs hps hoe
      obtain ⟨vk, vg, pa, pn, pc, ha, hn1, hc1, ta, tn, tc⟩ := v
      obtain ⟨e1, e2, e3, e4, e5, e6, -, -, e7⟩ := hv
      simp only at d0 d1 d2 d3 d4 e1 e2 e3 e4 e5 e6 e7
      subst e2 e3
      have hX := heap_alloc_new wo (.cells #[.string vk, .string o.group, .slice pa o.profits.length pc, .slice ha hn1 hc1, .slice ta tn tc] 106)
      have ga := gr_alloc (gr_refl wo none) (.cells #[.string vk, .string o.group, .slice pa o.profits.length pc, .slice ha hn1 hc1, .slice ta tn tc] 106)
      obtain ⟨w3, hw3⟩ : ∃ w3, w3 = wo.alloc (.cells #[.string vk, .string o.group, .slice pa o.profits.length pc, .slice ha hn1 hc1, .slice ta tn tc] 106) := ⟨_, rfl⟩
      rw [← hw3] at hX ga
      obtain ⟨X, hXe⟩ : ∃ X, X = wo.heap.size := ⟨_, rfl⟩
      rw [← hXe] at hX
      have hMX : w.heap.size < X := by rw [hXe]; exact hT.mp.lt
      have HT3 := Lib.hid (hT.keep0 ga)
      have HG3 := Lib.hid (gr_trans hgr ga)
      have HX3 := Lib.hid hX
      have HPC : Hid (∀ W, w.grownBy W none → CellsAt W pa (ints o.profits)) := fun W g => e6.keep0 g
      have HW3 := Lib.hid hw3
      have HXE := Lib.hid hXe
      have HDOM := Lib.hid hdom
      have x1 : w3.cell? ⟨X, 1, none⟩ = some (.string o.group) := blkC hX 1 rfl
      have hlk := HT3.out.mp.run_get o.group (by omega)
      clear hoo hX ga hw3 hXe hT hgr hdom e1 e4 e5 e6
      go_upto_region 5 with (fail)
      rw [← HW3.out, ← HXE.out]
      clear d0 d1 d2 d3 d4
      obtain ⟨y, hy⟩ : ∃ y, y = f o.group := ⟨_, rfl⟩
      rw [← hy] at hlk
      have heg : ∀ W, (eqGuard .eql 135 (.tmp 31) (.const (.slice none 0 0)) (slV y) (.slice none 0 0)).run Tryd.prog W = .ok () W := fun W => by cases y <;> simp [slV, eqGuard, Sem.run_pure]
      have heq : ∀ W, (binOp .eql 135 (slV y) (.slice none 0 0)).run Tryd.prog W = .ok (.bool y.isNone) W := fun W => by cases y <;> exact qn W _ _ _ _ _
      have HY := Lib.hid hy
      clear hy
      go_upto_if 32 with (fail)
      clear hlk heg heq
      go_cut [23] from 23 to 62 (fun s wx => s = .int .i64 k ∧ G2 wx w os F S k X o.group #[.string vk, .string o.group, .slice pa o.profits.length pc, .slice ha hn1 hc1, .slice ta tn tc])
      case first =>
        cases y with
        | some sl =>
          go_wp2_with (fail)
          go_meet
          refine ⟨rfl, f, n, HT3.out, by rw [← HY.out]; simp, fun h => ⟨fun e => .inl ((HDOM.out h).1 e), fun e => ?_⟩, by omega, HX3.out, HG3.out⟩
          rcases e with e | e
          · exact (HDOM.out h).2 e
          · rw [e, ← HY.out]; simp
        | none =>
          go_wp2_with (fail)
          go_region_law (first
            | (go_simp; go_at_call 90; refine (newTable_any S _ (by omega)).mono ?_; rintro e w5 ⟨rfl, o5, g5⟩; have g35 : w3.grownBy w5 none := gr_trans (by (repeat (first | exact gr_refl _ _ | apply gr_drew))) g5; have HT5 := Lib.hid (HT3.out.keep0 g35); have HO5 : Hid (w5.ownsRow w3.heap.size 3 1 (.slice (some ⟨w3.heap.size, 0, none⟩) (S + 1) (S + 1)) (S + 1) (ints (List.replicate (S + 1) nothingT))) := o5; have HG5 := Lib.hid g35; have x5 : w5.cell? ⟨X, 1, none⟩ = some (.string o.group) := (gr_cell g35 (lt_of_cell x1)).trans x1; obtain ⟨w6, hup, hm6, g6⟩ := HT5.out.mp.run_put (by omega) o.group (by omega) ⟨w3.heap.size, S + 1, S + 1⟩; have hup : (Instr.mapUpdate 134 (.map (some w.heap.size)) (.string o.group) (.slice (some ⟨w3.heap.size, 0, none⟩) (S + 1) (S + 1))).run Tryd.prog w5 = .ok () w6 := hup; have HM6 := Lib.hid hm6; have HG6 := Lib.hid g6; clear o5 g5 g35 hm6 g6)
            | fail)
          all_goals
            have hz3 := HG3.out.size
            have hb5 : ∀ h sl, f h = some sl → h ≠ o.group → sl.b ≠ w3.heap.size := fun h sl e _ => by
              have := (own_b (HT3.out.row h sl e).2).2
              omega
            have HT6 := Lib.hid (HT5.out.put o.group ⟨w3.heap.size, S + 1, S + 1⟩ _ HM6.out HG6.out rfl (own_base HO5.out hz3) hb5)
            have hX6 := (HG6.out.block X (by have := lt_of_block HX3.out; have := HG5.out.size; omega) (fun e => by have := Option.some.inj e; omega)).trans ((HG5.out.block X (lt_of_block HX3.out) (by simp)).trans HX3.out)
            have x6 : w6.cell? ⟨X, 1, none⟩ = some (.string o.group) := blkC hX6 1 rfl
            have hlk6 : (Instr.lookup 134 (.map (some w.heap.size)) (.string o.group) false).run Tryd.prog w6 = .ok (.slice (some ⟨w3.heap.size, 0, none⟩) (S + 1) (S + 1)) w6 := by
              have h := HM6.out.run_get o.group (by omega)
              simp only [if_pos] at h
              exact h
            obtain ⟨d6, f6, -⟩ := own_int (HT6.out.row o.group ⟨w3.heap.size, S + 1, S + 1⟩ (by simp)).2 0 (by omega)
            have HT7 := Lib.hid (HT6.out.set o.group ⟨w3.heap.size, S + 1, S + 1⟩ (by simp) 0 (by omega) 0)
            have gx := gr_new (gr_grown (gr_trans HG3.out HG5.out) HG6.out (fun q e => by have := Option.some.inj e; omega)) (q := ⟨w3.heap.size, 0, none⟩) hz3 (.int .i64 0)
            have HX7 := Lib.hid ((Below.heap_setCell w6 ⟨w3.heap.size, 0, none⟩ (.int .i64 0) X (fun e => by have := lt_of_block HX3.out; simp at e; omega)).trans hX6)
            have HG7 := Lib.hid gx
            obtain ⟨u6, hu6⟩ : ∃ u, u = (List.replicate (S + 1) nothingT).getD 0 0 := ⟨_, rfl⟩
            simp only [if_pos] at d6
            rw [← hu6] at d6
            clear gx hu6 hX6
          all_goals (go_wp2_with (fail))
          all_goals go_meet
          all_goals
            refine ⟨rfl, _, _, HT7.out.same (fun _ => rfl) (fun h hh => ?_), by simp, fun h => ⟨fun e => ?_, fun e => ?_⟩, by omega, HX7.out, HG7.out⟩
            · by_cases eh : h = o.group
              · simp only [if_pos eh]
                rw [eh, gT_none os F S o.group k (fun j hj e2 => (HDOM.out o.group).2 ⟨j, hj, e2⟩ HY.out.symm)]
                rfl
              · simp only [if_neg eh]
            · by_cases eh : h = o.group
              · exact .inr eh
              · simp only [if_neg eh] at e
                exact .inl ((HDOM.out h).1 e)
            · by_cases eh : h = o.group
              · simp only [if_pos eh]; simp
              · simp only [if_neg eh]
                rcases e with e | e
                · exact (HDOM.out h).2 e
                · exact absurd e eh
      case rest =>
        obtain ⟨rfl, f', n', hT, hfg, hdom, hn', hXc, hgr⟩ := hcut
        obtain ⟨wd, rfl⟩ : ∃ wd : World, wd = wc := ⟨_, rfl⟩
        have HTd := Lib.hid hT
        have HGd := Lib.hid hgr
        have HXd := Lib.hid hXc
        have HD' := Lib.hid hdom
        have HFG := Lib.hid hfg
        clear hT hfg hdom hXc hgr HT3 HG3 HX3 HDOM HY x1
        go_upto_if 46 with (fail)
        go_cut [12, 23] from 23 to 62 (fun t s wx => t = .int .i64 (fixF F k) ∧ s = .int .i64 k ∧ wx = wd)
        case first =>
          by_cases hkF : k < F.length
          · have hd : decide ((k : Int) < (F.length : Int)) = true := by simp; omega
            obtain ⟨fb, fo, rfl, fd⟩ := (HF.out.keep0 HGd.out) k _ (ints_get F k hkF)
            obtain ⟨z, hz⟩ : ∃ z, z = F.getD k 0 := ⟨_, rfl⟩
            rw [← hz] at fd
            have FE : Hid (z = fixF F k) := by show _ = _; unfold fixF; rw [if_pos hkF, hz]
            clear hz
            go_wp2_with (fail)
            go_meet
            exact ⟨congrArg _ FE.out, rfl, rfl⟩
          · have hd : decide ((k : Int) < (F.length : Int)) = false := by simp; omega
            have FE : Hid ((-1 : Int) = fixF F k) := by show _ = _; unfold fixF; rw [if_neg hkF]
            go_wp2_with (fail)
            go_meet
            exact ⟨congrArg _ FE.out, rfl, rfl⟩
        case rest =>
          obtain ⟨rfl, rfl, hwd⟩ := hcut
          obtain ⟨sl, hsl⟩ : ∃ sl, f' o.group = some sl := by
            cases e : f' o.group with
            | none => exact absurd e HFG.out
            | some sl => exact ⟨sl, rfl⟩
          obtain ⟨we, rfl⟩ : ∃ we : World, we = wc := ⟨_, rfl⟩
          rw [← hwd] at HTd HGd HXd
          have hzd := HGd.out.size
          have hsn := (HTd.out.row o.group sl hsl).1
          have HRW := Lib.hid (HTd.out.row o.group sl hsl).2
          have HSL := Lib.hid hsl
          obtain ⟨sb, sn, sc⟩ := sl
          simp only at hsn HRW
          subst hsn
          have x0 : we.cell? ⟨X, 0, none⟩ = some (.string vk) := blkC HXd.out 0 rfl
          have x1 : we.cell? ⟨X, 1, none⟩ = some (.string o.group) := blkC HXd.out 1 rfl
          have x2 : we.cell? ⟨X, 2, none⟩ = some (.slice pa o.profits.length pc) := blkC HXd.out 2 rfl
          have x3 : we.cell? ⟨X, 3, none⟩ = some (.slice ha hn1 hc1) := blkC HXd.out 3 rfl
          have x4 : we.cell? ⟨X, 4, none⟩ = some (.slice ta tn tc) := blkC HXd.out 4 rfl
          have hlkd : (Instr.lookup 134 (.map (some w.heap.size)) (.string o.group) false).run Tryd.prog we.drew = .ok (.slice (some ⟨sb, 0, none⟩) (S + 1) sc) we.drew := by
            have h := (HTd.out.mp.keep0 (gr_drew (gr_refl we none))).run_get o.group (by omega)
            rw [hsl] at h
            exact h
          have WS := Lib.hid (fun W (g : we.grownBy W none) => worths_any vk o.group o.profits pa ha ta pc hn1 hc1 tn tc (fixF F k) W (show CellsAt W pa (ints o.profits) from HPC.out W (gr_trans HGd.out g)) hps.2.1 e7.1 e7.2 hps.2.2)
          have hwl : (wsF os F k).length = o.profits.length + 1 := by rw [wsF_len, hoe]
          have hwe : wsF os F k = worthsT o.profits (fixF F k) (o.profits.length + 1) := by unfold wsF; rw [hoe]
          have HWE := Lib.hid hwe
          have HWL := Lib.hid hwl
          have HTB := Lib.hid (gT_rep os hok q F (fun z hz => (HFB.out z hz).1) S o.group k (by omega)).mem_bd
          have HWB := Lib.hid (wsF_rep os hok q F (fun z hz => (HFB.out z hz).1) k).mem_bd
          have HHOE := Lib.hid hoe
          clear hwd hsl hwe hwl hoe
          go_wp2_with (fail)
          go_region_law (first
            | (go_simp; go_at_call 92; refine (WS.out _ (by (repeat (first | exact gr_refl _ _ | apply gr_drew)))).mono ?_; rintro e w5 ⟨v5, rfl, o5, g5⟩; have g35 : we.grownBy w5 none := gr_trans (by (repeat (first | exact gr_refl _ _ | apply gr_drew))) g5; obtain ⟨b5, c5, rfl, hb5, -, -, -⟩ := own_some o5 (by omega); have HT5 := Lib.hid (HTd.out.keep0 g35); have HG5 := Lib.hid g35; have y0 : w5.cell? ⟨X, 0, none⟩ = some (.string vk) := (gr_cell g35 (lt_of_cell x0)).trans x0; have y1 : w5.cell? ⟨X, 1, none⟩ = some (.string o.group) := (gr_cell g35 (lt_of_cell x1)).trans x1; have y2 : w5.cell? ⟨X, 2, none⟩ = some (.slice pa o.profits.length pc) := (gr_cell g35 (lt_of_cell x2)).trans x2; have hlk5 : (Instr.lookup 134 (.map (some w.heap.size)) (.string o.group) false).run Tryd.prog w5 = .ok (.slice (some ⟨sb, 0, none⟩) (S + 1) sc) w5 := (by have h := HT5.out.mp.run_get o.group (by omega); rw [HSL.out] at h; exact h); have WA := with_any (gT os F S o.group k) (wsF os F k) (some ⟨sb, 0, none⟩) (some ⟨b5, 0, none⟩) sc c5 S w5 (by obtain ⟨_, _, e9, _, _, hc9, _⟩ := own_shape (HT5.out.row o.group _ HSL.out).2; cases e9; exact hc9) (by obtain ⟨_, _, e9, _, _, hc9, _⟩ := own_shape o5; cases e9; rw [HWE.out]; exact hc9) (gT_len _ _ _ _ _) (by omega) (by rw [HWL.out]; omega) HTB.out HWB.out; rw [gT_len, HWL.out] at WA; have WA := Lib.hid WA; clear o5 g5 g35)
            | (go_simp; go_at_call 91; refine WA.out.mono ?_; rintro e w8 ⟨rfl, o8, g8⟩; have HT8 := Lib.hid (HT5.out.keep0 g8); have HO8 := Lib.hid o8; have HG8 := Lib.hid g8; have z1 : w8.cell? ⟨X, 1, none⟩ = some (.string o.group) := (gr_cell g8 (lt_of_cell y1)).trans y1; obtain ⟨w9, hup, hm9, g9⟩ := HT8.out.mp.run_put (by omega) o.group (by omega) ⟨w5.heap.size, S + 1, S + 1⟩; have hup : (Instr.mapUpdate 134 (.map (some w.heap.size)) (.string o.group) (.slice (some ⟨w5.heap.size, 0, none⟩) (S + 1) (S + 1))).run Tryd.prog w8 = .ok () w9 := hup; have HM9 := Lib.hid hm9; have HG9 := Lib.hid g9; clear o8 g8 hm9 g9)
            | fail)
          all_goals
            have HGN := Lib.hid (G1.next HT8.out HM9.out HG9.out (own_base HO8.out (by have := HG5.out.size; omega)) (fun h sl e => by have := (own_b (HT5.out.row h sl e).2).2; omega) HHOE.out HD'.out hn' (gr_trans (gr_trans HGd.out HG5.out) HG8.out))
          all_goals (go_wp2_with (fail); go_roundw; (case rel => first | exact ⟨k + 1, by omega, by go_num, HGN.out⟩ | ((repeat apply Exists.intro); exact ⟨⟨k + 1, by omega, by go_num, HGN.out⟩, rfl⟩)); (case measure => simp [intOf]; omega))
    · obtain rfl : k = os.length := by omega
      have K3 : Hid (G3 wo w os F S q 0) := G1.three ⟨f, n, hT, hdom, hn, hgr⟩
      clear hT hdom hn hgr
      go_wp2_with (fail)
      go_loopw [65] (fun i wr => ∃ k : Nat, k ≤ q.length ∧ i = .int .i64 k ∧ G3 wr w os F S q k) (fun i _ => q.length - (intOf i).toNat)
      case atStart => exact ⟨0, Nat.zero_le _, rfl, K3.out⟩
      case round =>
        clear K3
        obtain ⟨k, hk, rfl, f, n, hT, hdom, hn, hgr⟩ := hrel
        obtain ⟨wp, rfl⟩ : ∃ wp : World, wp = wr := ⟨_, rfl⟩
        by_cases hlt : k < q.length
        · obtain ⟨b, off, rfl, hcs⟩ := flat_cells (enc := encQuo) (m := 3) (fun _ => rfl) (by decide) (HQ.out.keep0 hgr) (by omega)
          have d0 : wp.cell? ⟨b, off + k * 3, none⟩ = some (.string q[k].group) := hcs k hlt 0 _ rfl
          have d1 : wp.cell? ⟨b, off + k * 3 + 1, none⟩ = some (.int .i64 q[k].least) := hcs k hlt 1 _ rfl
          have d2 : wp.cell? ⟨b, off + k * 3 + 2, none⟩ = some (.int .i64 q[k].most) := hcs k hlt 2 _ rfl
          have hgs := HQO.out.gr _ (List.getElem_mem hlt)
          have hbx := HQO.out.bd _ (List.getElem_mem hlt)
          have HQK : Hid (q[k]? = some q[k]) := List.getElem?_eq_getElem hlt
          obtain ⟨x, hx⟩ : ∃ x, x = q[k] := ⟨_, rfl⟩
          rw [← hx] at d0 d1 d2 hgs hbx HQK
          obtain ⟨xg, xl, xm⟩ := x
          simp only at d0 d1 d2 hgs hbx
          have hY := heap_alloc_new wp (.cells #[.string xg, .int .i64 xl, .int .i64 xm] 109)
          have ga := gr_alloc (gr_refl wp none) (.cells #[.string xg, .int .i64 xl, .int .i64 xm] 109)
          obtain ⟨w3, hw3⟩ : ∃ w3, w3 = wp.alloc (.cells #[.string xg, .int .i64 xl, .int .i64 xm] 109) := ⟨_, rfl⟩
          rw [← hw3] at hY ga
          obtain ⟨Y, hYe⟩ : ∃ Y, Y = wp.heap.size := ⟨_, rfl⟩
          rw [← hYe] at hY
          have hMY : w.heap.size < Y := by rw [hYe]; exact hT.mp.lt
          have HT3 := Lib.hid (hT.keep0 ga)
          have HG3 := Lib.hid (gr_trans hgr ga)
          have HY3 := Lib.hid hY
          have HW3 := Lib.hid hw3
          have HYE := Lib.hid hYe
          have HDOM := Lib.hid hdom
          have y0 : w3.cell? ⟨Y, 0, none⟩ = some (.string xg) := blkC hY 0 rfl
          have hlk := HT3.out.mp.run_get xg (by omega)
          obtain ⟨y, hy⟩ : ∃ y, y = f xg := ⟨_, rfl⟩
          rw [← hy] at hlk
          have heg : ∀ W, (eqGuard .eql 135 (.tmp 73) (.const (.slice none 0 0)) (slV y) (.slice none 0 0)).run Tryd.prog W = .ok () W := fun W => by cases y <;> simp [slV, eqGuard, Sem.run_pure]
          have heq : ∀ W, (binOp .eql 135 (slV y) (.slice none 0 0)).run Tryd.prog W = .ok (.bool y.isNone) W := fun W => by cases y <;> exact qn W _ _ _ _ _
          have HY := Lib.hid hy
          clear hx hY ga hw3 hYe hT hgr hdom hcs hy
          go_upto_region 16 with (fail)
          rw [← HW3.out, ← HYE.out]
          clear d0 d1 d2
          go_upto_if 74 with (fail)
          clear hlk heg heq
          go_cut [15, 65] from 65 to 98 (fun t s wx => s = .int .i64 k ∧ ∃ sl, t = slV (some sl) ∧ G4 wx w os F S q k Y ⟨xg, xl, xm⟩ sl 0)
          case first =>
            cases y with
            | some sl =>
              go_wp2_with (fail)
              go_meet
              refine ⟨rfl, sl, rfl, f, n, HT3.out.same (fun _ => rfl) (fun g _ => by show lT os F S q g k = if g = xg then limT xl xm 0 (lT os F S q g k) else _; split <;> rfl), HY.out.symm, fun g => ⟨fun e => .inl ((HDOM.out g).1 e), fun e => ?_⟩, by omega, HY3.out, HG3.out⟩
              rcases e with e | e
              · exact (HDOM.out g).2 e
              · rw [e]; show f xg ≠ none; rw [← HY.out]; simp
            | none =>
              have hz3 := HG3.out.size
              go_wp2_with (fail)
              refine (newTable_any S w3 (by omega)).mono ?_
              rintro e w5 ⟨rfl, o5, g5⟩
              obtain ⟨d5, f5, st5⟩ := own_int o5 0 (by omega)
              have o6 := st5 0
              have gx5 := gr_set (q := ⟨w3.heap.size, 0, none⟩) (gr_refl w5 (some w3.heap.size)) rfl (.int .i64 0)
              have hfr : ∀ h sl, f h = some sl → sl.b ≠ w3.heap.size := fun h sl e => by
                have := (own_b (HT3.out.row h sl e).2).2
                omega
              have hM3 := HT3.out.mp.lt
              have HT6 := (HT3.out.keep0 g5).keepB gx5 (by omega) hfr
              have hY6 := (Below.heap_setCell w5 ⟨w3.heap.size, 0, none⟩ (.int .i64 0) Y (fun e => by have := lt_of_block HY3.out; simp at e; omega)).trans ((g5.block Y (lt_of_block HY3.out) (by simp)).trans HY3.out)
              have hG6 := gr_new (gr_trans HG3.out g5) (q := ⟨w3.heap.size, 0, none⟩) hz3 (.int .i64 0)
              obtain ⟨u5, hu5⟩ : ∃ u, u = (List.replicate (S + 1) nothingT).getD 0 0 := ⟨_, rfl⟩
              rw [← hu5] at d5
              obtain ⟨w6, hw6⟩ : ∃ w6, w6 = w5.setCell ⟨w3.heap.size, 0, none⟩ (.int .i64 0) := ⟨_, rfl⟩
              rw [← hw6] at o6 HT6 hY6 hG6
              have y6 : w6.cell? ⟨Y, 0, none⟩ = some (.string xg) := blkC hY6 0 rfl
              obtain ⟨w7, hup, hm7, g7⟩ := HT6.mp.run_put (by omega) xg (by omega) ⟨w3.heap.size, S + 1, S + 1⟩
              have hup : (Instr.mapUpdate 134 (.map (some w.heap.size)) (.string xg) (.slice (some ⟨w3.heap.size, 0, none⟩) (S + 1) (S + 1))).run Tryd.prog w6 = .ok () w7 := hup
              have HT7 := Lib.hid (HT6.put xg ⟨w3.heap.size, S + 1, S + 1⟩ _ hm7 g7 rfl (own_base o6 hz3) (fun h sl e _ => hfr h sl e))
              have HY7 := Lib.hid ((g7.block Y (lt_of_block hY6) (fun e => by have := Option.some.inj e; omega)).trans hY6)
              have HG7 := Lib.hid (gr_grown hG6 g7 (fun q e => by have := Option.some.inj e; omega))
              have HW6 := Lib.hid hw6
              clear o5 g5 st5 o6 gx5 hfr HT6 hY6 hG6 hu5 hw6 hm7 g7
              go_upto_region 20 with (fail)
              rw [← HW6.out]
              clear d5 f5
              go_wp2_with (fail)
              go_meet
              refine ⟨rfl, ⟨w3.heap.size, S + 1, S + 1⟩, rfl, _, _, HT7.out.same (fun _ => rfl) (fun g hh => ?_), by simp, fun g => ⟨fun e => ?_, fun e => ?_⟩, by omega, HY7.out, HG7.out⟩
              · by_cases eh : g = xg
                · simp only [if_pos eh]
                  have hn1 := mt (HDOM.out xg).2 (by rw [← HY.out]; simp)
                  rw [eh, lT_none os F S q xg k (fun j y hj hy e => hn1 (.inr ⟨j, y, hj, hy, e⟩)), gT_none os F S xg os.length (fun j hj e => hn1 (.inl ⟨j, hj, e⟩))]
                  rfl
                · simp only [if_neg eh]
              · by_cases eh : g = xg
                · exact .inr eh
                · simp only [if_neg eh] at e
                  exact .inl ((HDOM.out g).1 e)
              · by_cases eh : g = xg
                · simp only [if_pos eh]; simp
                · simp only [if_neg eh]
                  rcases e with e | e
                  · exact (HDOM.out g).2 e
                  · exact absurd e eh
          case rest =>
            obtain ⟨rfl, sl, rfl, hG4⟩ := hcut
            obtain ⟨sb, sn, sc⟩ := sl
            obtain rfl : sn = S + 1 := by
              obtain ⟨f', n', hT', hf', -⟩ := hG4
              exact (hT'.row _ _ hf').1
            have hv : slV (some ⟨sb, S + 1, sc⟩) = .slice (some ⟨sb, 0, none⟩) (S + 1) sc := rfl
            rw [hv]
            have HG4 := Lib.hid hG4
            clear hG4 hv HT3 HG3 HY3 HDOM HY y0
            go_wp2_with (fail)
            go_loopw [85] (fun i wr => ∃ j : Nat, j ≤ S + 1 ∧ i = .int .i64 j ∧ G4 wr w os F S q k Y ⟨xg, xl, xm⟩ ⟨sb, S + 1, sc⟩ j) (fun i _ => S + 1 - (intOf i).toNat)
            case atStart => exact ⟨0, Nat.zero_le _, rfl, HG4.out⟩
            case round =>
              clear HG4
              obtain ⟨j, hj, rfl, f', n', hT', hf', hd', hn', hY', hg'⟩ := hrel
              obtain ⟨wj, rfl⟩ : ∃ wj : World, wj = wr := ⟨_, rfl⟩
              have hsz := hT'.mp.lt
              by_cases hlj : j < S + 1
              · have y1 : wj.cell? ⟨Y, 1, none⟩ = some (.int .i64 xl) := blkC hY' 1 rfl
                have y2 : wj.cell? ⟨Y, 2, none⟩ = some (.int .i64 xm) := blkC hY' 2 rfl
                have hjS : (j : Int) < (S : Int) + 1 := by omega
                obtain ⟨dj, fj, -⟩ := own_int (hT'.row xg _ hf').2 j hlj
                have hbS := own_b (hT'.row xg _ hf').2
                have hYsb : Y ≠ sb := fun e => own_ne (hT'.row xg _ hf').2 hY' (by decide) (by rw [e]; rfl)
                obtain ⟨u, hu⟩ : ∃ u, u = ((if xg = xg then limT xl xm j (lT os F S q xg k) else lT os F S q xg k) : List Int).getD j 0 := ⟨_, rfl⟩
                by_cases hcnd : (j : Int) < xl ∨ xm < (j : Int)
                · have hb : (decide ((j : Int) < xl) || decide (xm < (j : Int))) = true := by simp; omega
                  have HG := Lib.hid (show G4 (wj.setCell ⟨sb, j, none⟩ (.int .i64 nothingT)) w os F S q k Y ⟨xg, xl, xm⟩ ⟨sb, S + 1, sc⟩ (j + 1) from
                    ⟨f', n', (hT'.set xg _ hf' j hlj nothingT).same (fun _ => rfl) (fun g _ => by
                      show (if g = xg then (if xg = xg then limT xl xm j (lT os F S q xg k) else _).set j nothingT else if g = xg then _ else lT os F S q g k) = if g = xg then limT xl xm (j + 1) (lT os F S q g k) else lT os F S q g k
                      by_cases eg : g = xg
                      · rw [if_pos eg, if_pos eg, if_pos rfl, limT_next, if_pos hcnd, eg]
                      · rw [if_neg eg, if_neg eg, if_neg eg]), hf', hd', hn', (Below.heap_setCell wj ⟨sb, j, none⟩ (.int .i64 nothingT) Y (fun e => hYsb (by simpa using e))).trans hY', gr_new hg' (q := ⟨sb, j, none⟩) hbS.1 _⟩)
                  clear hT' hf' hd' hn' hY' hg' hbS hu hcnd
                  go_wp2_with (fail)
                  refine (out_any (j : Int) xl xm wj).mono ?_
                  rintro e w5 ⟨rfl, rfl⟩
                  rw [hb]
                  go_wp2_with (fail)
                  go_roundw
                  case rel => exact ⟨j + 1, by omega, by go_num, HG.out⟩
                  case measure => simp [intOf]; omega
                · have hb : (decide ((j : Int) < xl) || decide (xm < (j : Int))) = false := by simp; omega
                  have HG := Lib.hid (show G4 wj w os F S q k Y ⟨xg, xl, xm⟩ ⟨sb, S + 1, sc⟩ (j + 1) from
                    ⟨f', n', hT'.same (fun _ => rfl) (fun g _ => by
                      show (if g = xg then limT xl xm j (lT os F S q g k) else lT os F S q g k) = if g = xg then limT xl xm (j + 1) (lT os F S q g k) else lT os F S q g k
                      by_cases eg : g = xg
                      · rw [if_pos eg, if_pos eg, limT_next, if_neg hcnd]
                      · rw [if_neg eg, if_neg eg]), hf', hd', hn', hY', hg'⟩)
                  clear hT' hf' hd' hn' hY' hg' hbS hu hcnd dj fj
                  go_wp2_with (fail)
                  refine (out_any (j : Int) xl xm wj).mono ?_
                  rintro e w5 ⟨rfl, rfl⟩
                  rw [hb]
                  go_wp2_with (fail)
                  go_roundw
                  case rel => exact ⟨j + 1, by omega, by go_num, HG.out⟩
                  case measure => simp [intOf]; omega
              · obtain rfl : j = S + 1 := by omega
                have HG := Lib.hid (G4.end (show G4 wj w os F S q k Y ⟨xg, xl, xm⟩ ⟨sb, S + 1, sc⟩ (S + 1) from ⟨f', n', hT', hf', hd', hn', hY', hg'⟩) HQK.out)
                clear hT' hf' hd' hn' hY' hg'
                go_wp2_with (fail)
                go_roundw
                case rel => exact ⟨k + 1, by omega, by go_num, HG.out⟩
                case measure => simp [intOf]; omega
        · obtain rfl : k = q.length := by omega
          have HTq := Lib.hid hT
          have HDq := Lib.hid hdom
          have HGq := Lib.hid hgr
          have hzq := hgr.size
          clear hT hdom hgr
          go_wp2_with (fail)
          refine (newTable_any S wp (by omega)).mono ?_
          rintro e w5 ⟨rfl, o5, g5⟩
          obtain ⟨d5, f5, st5⟩ := own_int o5 0 (by omega)
          have o6 := st5 0
          have gx5 := gr_set (q := ⟨wp.heap.size, 0, none⟩) (gr_refl w5 (some wp.heap.size)) rfl (.int .i64 0)
          have hfr : ∀ h sl, f h = some sl → sl.b ≠ wp.heap.size := fun h sl e => by
            have := (own_b (HTq.out.row h sl e).2).2
            omega
          have hMq := HTq.out.mp.lt
          have hT6 := (HTq.out.keep0 g5).keepB gx5 (by omega) hfr
          have hG6 := gr_new (gr_trans HGq.out g5) (q := ⟨wp.heap.size, 0, none⟩) hzq (.int .i64 0)
          obtain ⟨u5, hu5⟩ : ∃ u, u = (List.replicate (S + 1) nothingT).getD 0 0 := ⟨_, rfl⟩
          rw [← hu5] at d5
          obtain ⟨w6, hw6⟩ : ∃ w6, w6 = w5.setCell ⟨wp.heap.size, 0, none⟩ (.int .i64 0) := ⟨_, rfl⟩
          rw [← hw6] at o6 hT6 hG6
          have HT6 := Lib.hid hT6
          have HG6 := Lib.hid hG6
          have HW6 := Lib.hid hw6
          have HO6 : Hid (w6.ownsRow w.heap.size 3 1 (.slice (some ⟨wp.heap.size, 0, none⟩) (S + 1) (S + 1)) (S + 1) (ints (unitT S))) := own_base o6 hzq
          have hz6 := hG6.size
          clear o5 g5 st5 o6 gx5 hfr hT6 hG6 hu5 hw6
          go_upto_region 30 with (fail)
          rw [← HW6.out]
          clear d5 f5
          go_wp2_with (first | (at_range; refine wpList_rangeSV rfl _ rfl w.heap.size n f rfl HT6.out.mp ?_; intro w7 left cnt hr hleft g7 hz7))
          go_frame
          obtain ⟨ib, hib⟩ : ∃ b, b = w6.heap.size := ⟨_, rfl⟩
          have hV0 : (fun g => (f g).isSome && !left (skey g)) = fun _ => false := by
            funext g
            rw [hleft g]
            cases (f g).isSome <;> rfl
          have K5 : Hid (w7.ownsRow w.heap.size 3 1 (.slice (some ⟨wp.heap.size, 0, none⟩) (S + 1) (S + 1)) (S + 1) (ints (unitT S)) ∧ RangeV w7 w.heap.size w6.heap.size n f left cnt ∧ Rep (unitT S) (setV (pbOf os hok q) F (fun g => (f g).isSome && !left (skey g))) ∧ (∀ g sl, f g = some sl → sl.n = S + 1 ∧ w7.ownsRow w.heap.size 3 1 (.slice (some ⟨sl.b, 0, none⟩) (S + 1) sl.c) (S + 1) (ints (lT os F S q g q.length))) ∧ w.grownBy w7 none) :=
            ⟨own_keep0 HO6.out g7, hr, by rw [hV0]; exact (unit_rep S).iff (fun r _ v => setV_none _ F r v) (fun r v h => setV_bd _ F _ r v h), fun g sl e => ⟨(HT6.out.row g sl e).1, own_keep0 (HT6.out.row g sl e).2 g7⟩, gr_trans HG6.out g7⟩
          rw [← hib] at K5
          rw [← hib]
          have hibM : w.heap.size < ib := by rw [hib]; exact HT6.out.mp.lt
          have hib7 : ib < w7.heap.size := by omega
          have HIB := Lib.hid hib
          clear hr hleft g7 hz7 hV0 hib
          go_loopw [17, 105] (fun v _ wr => ∃ left cnt C ab ac, v = .slice (some ⟨ab, 0, none⟩) (S + 1) ac ∧ wr.ownsRow w.heap.size 3 1 (.slice (some ⟨ab, 0, none⟩) (S + 1) ac) (S + 1) (ints C) ∧ RangeV wr w.heap.size ib n f left cnt ∧ Rep C (setV (pbOf os hok q) F (fun g => (f g).isSome && !left (skey g))) ∧ (∀ g sl, f g = some sl → sl.n = S + 1 ∧ wr.ownsRow w.heap.size 3 1 (.slice (some ⟨sl.b, 0, none⟩) (S + 1) sl.c) (S + 1) (ints (lT os F S q g q.length))) ∧ w.grownBy wr none ∧ ib < wr.heap.size ∧ ab ≠ ib) (fun _ _ wr => wr.rangeLeft w.heap.size ib)
          case atStart => exact ⟨_, _, _, _, _, rfl, K5.out.1, K5.out.2.1, K5.out.2.2.1, K5.out.2.2.2.1, K5.out.2.2.2.2, hib7, by have := HIB.out; have := (own_b HO6.out).2; omega⟩
          case round =>
            clear K5
            obtain ⟨left, cnt, C, ab, ac, rfl, hO, hr, hRep, hrows, hgr, hzr, hab⟩ := hrel
            obtain ⟨wi, rfl⟩ : ∃ wi : World, wi = wr := ⟨_, rfl⟩
            have hCl := own_len hO
            have HO := Lib.hid hO
            have HREP := Lib.hid hRep
            have HROW := Lib.hid hrows
            have HGR := Lib.hid hgr
            clear hO hRep hrows hgr
            go_wp2_with (first | (at_next; refine wpList_nextSV rfl _ rfl w.heap.size ib n f left cnt rfl hr ?_ ?_))
            · intro hdone
              obtain ⟨dS, -, -⟩ := own_int HO.out S (by omega)
              have HGI : Hid (GreatIs (pbOf os hok q) F S (C.getD S 0)) := by
                have h := HREP.out.gr S (by omega)
                have hV : ∀ g, f g ≠ none → ((f g).isSome && !left (skey g)) = true := fun g hg => by
                  rw [hdone]
                  cases e : f g with
                  | none => exact absurd e hg
                  | some _ => rfl
                exact h.iff (fun v => setV_all (pbOf os hok q) F _ (fun j hj => hV _ ((HDq.out _).2 (.inl ⟨j, hj, rfl⟩))) (fun x hx => hV _ ((HDq.out _).2 (by
                  obtain ⟨j, hj, rfl⟩ := List.getElem_of_mem (show x ∈ q from hx)
                  exact .inr ⟨j, _, hj, List.getElem?_eq_getElem hj, rfl⟩))) S v)
              obtain ⟨z, hz⟩ : ∃ z, z = C.getD S 0 := ⟨_, rfl⟩
              rw [← hz] at dS HGI
              have hSS : (S : Int) < (S : Int) + 1 := by omega
              clear hr hdone hz HREP
              go_wp2_with (fail)
              go_ret
              exact ⟨_, rfl, HGI.out, HGR.out⟩
            · intro s x w22 cnt' hfs hl2 hr22 hlt22 g22 hz22 hen
              obtain ⟨xb, xn, xc⟩ := x
              obtain rfl : xn = S + 1 := (HROW.out _ _ hfs).1
              have hv : slV (some ⟨xb, S + 1, xc⟩) = .slice (some ⟨xb, 0, none⟩) (S + 1) xc := rfl
              rw [hv] at hen
              rw [hv]
              have hbi : ∀ g sl, f g = some sl → sl.b ≠ ib := fun g sl e => by
                have := (own_b (HT6.out.row g sl e).2).2
                have := HIB.out
                omega
              have hO22 := own_keep HO.out g22 (.inr (fun e => hab (by simpa [Value.ownBlock] using e)))
              have hrow22 : ∀ g sl, f g = some sl → sl.n = S + 1 ∧ w22.ownsRow w.heap.size 3 1 (.slice (some ⟨sl.b, 0, none⟩) (S + 1) sl.c) (S + 1) (ints (lT os F S q g q.length)) := fun g sl e => ⟨(HROW.out g sl e).1, own_keep (HROW.out g sl e).2 g22 (.inr (fun e2 => hbi g sl e (by simpa [Value.ownBlock] using e2)))⟩
              have hLR := last_rep os hok q F (fun z hz => (HFB.out z hz).1) S s
              have hVs : ((f s).isSome && !left (skey s)) = false := by rw [hl2]; simp
              have hV2 : (fun g => (f g).isSome && !(left (skey g) && !(skey g).sameKey (skey s))) = fun g => ((f g).isSome && !left (skey g)) || decide (g = s) := by
                funext g
                by_cases e : g = s
                · rw [e, skey_same, hfs]; simp
                · rw [Maps.sameKey_ne (fun e2 => e (skey_inj e2))]; simp [e]
              have hR2 : Rep (withT C (lT os F S q s q.length)) (setV (pbOf os hok q) F (fun g => (f g).isSome && !(left (skey g) && !(skey g).sameKey (skey s)))) := by
                rw [hV2]
                refine (Rep.with HREP.out hLR (fun b v hb _ => by rw [lT_len]; omega) (fun r v h => setV_bd _ F _ r v ((setV_add _ F _ s hVs r v).1 h))).iff (fun r _ v => setV_add _ F _ s hVs r v) (fun r v h => setV_bd _ F _ r v h)
              have WA := with_any C (lT os F S q s q.length) (some ⟨ab, 0, none⟩) (some ⟨xb, 0, none⟩) ac xc S w22 (by obtain ⟨_, _, e9, _, _, hc9, _⟩ := own_shape hO22; cases e9; exact hc9) (by obtain ⟨_, _, e9, _, _, hc9, _⟩ := own_shape (hrow22 _ _ hfs).2; cases e9; exact hc9) hCl (by omega) (by rw [lT_len]; omega) HREP.out.mem_bd hLR.mem_bd
              rw [hCl, lT_len] at WA
              have WA := Lib.hid WA
              have HR22 := Lib.hid hr22
              have HRo := Lib.hid hr
              have HLT := Lib.hid hlt22
              have HR2 := Lib.hid hR2
              have HROW22 := Lib.hid hrow22
              have HG22 := Lib.hid (gr_grown HGR.out g22 (fun q e => by have := Option.some.inj e; omega))
              have hz23 : ib < w22.heap.size := by omega
              clear hr22 hr hlt22 hR2 hrow22 g22 hz22 hO22 hLR hV2 hbi HREP HROW hVs hl2 hfs
              go_wp2_with (fail)
              refine WA.out.mono ?_
              rintro e w24 ⟨rfl, o24, g24⟩
              have HR24 := Lib.hid (HR22.out.keep0 g24)
              have HO24 := Lib.hid (own_base o24 HG22.out.size)
              have HROW24 : Hid (∀ g sl, f g = some sl → sl.n = S + 1 ∧ w24.ownsRow w.heap.size 3 1 (.slice (some ⟨sl.b, 0, none⟩) (S + 1) sl.c) (S + 1) (ints (lT os F S q g q.length))) := fun g sl e => ⟨(HROW22.out g sl e).1, own_keep0 (HROW22.out g sl e).2 g24⟩
              have HG24 := Lib.hid (gr_trans HG22.out g24)
              have hz24 := g24.size
              clear o24 g24 WA
              go_wp2_with (fail)
              go_roundw
              case rel => exact ⟨_, _, _, _, _, rfl, HO24.out, HR24.out, HR2.out, HROW24.out, HG24.out, by omega, by omega⟩
              case measure => rw [HR24.out.left, HRo.out.left]; exact HLT.out
end Go.Proofs.YtjhdngfliakidaaDoor
