/- Proved here: the library's pdqsort sorts edges, for every comparison that is a strict weak order. -/
import Derived.Test.YtjneoighgbggcaaGreatC0
import Derived.Test.YtjneoighgbggcaaGreatC1
import Derived.Test.YtjneoighgbggcaaGreatG0
import Derived.Test.YtjneoighgbggcaaGreatG1
import Derived.Test.YtjneoighgbggcaaGreatG2
import Derived.Test.YtjneoighgbggcaaGreatG3
namespace Go.Sl.SE
open Go Go.Proofs Go.Sort

section
variable {d : Array Edge} {lt : Edge → Edge → Bool} {v cmp : Value} {H : Heap} {Q : Value → Heap → Prop}

theorem c_ins {a b : Nat} (hc : Cmp H (blk v) cmp lt) (hd : Arr H v d) (hb : b ≤ d.size) (hs : d.size ≤ 1000000000)
    (h : ∀ H', Arr H' v (insertionSort lt d a b) → Chg (blk v) H H' → Q (.tuple #[]) H') (hab : a ≤ b) : T PP 293 [v, .int .i64 a, .int .i64 b, cmp] H Q := by
  apply T293; unfold sh293
  simp (disch := omega) only [i_add, ev_some]
  intro I stepI
  have outer : ∀ (n i : Nat) (z : Int) (H1 : Heap) (d1 : Array Edge), b - i ≤ n → z = i → a ≤ i → i ≤ b + 1 → Arr H1 v d1 → d1.size = d.size → Chg (blk v) H H1 →
      (∀ H', Arr H' v (insOuter lt a b i d1) → Chg (blk v) H H' → Q (.tuple #[]) H') → I [v, .int .i64 a, .int .i64 b, cmp, .int .i64 z] H1 := by
    intro n
    induction n with
    | zero =>
      intro i z H1 d1 hn hz hai hib h1 hs1 c1 hq
      apply stepI
      simp (disch := omega) only [i_lss, ev_some, Br_f]
      rw [insOuter, if_neg (by omega)] at hq
      exact hq H1 h1 c1
    | succ n ih =>
      intro i z H1 d1 hn hz hai hib h1 hs1 c1 hq
      apply stepI
      by_cases hi : i < b
      · simp (disch := omega) only [i_lss, ev_some, Br_t]
        rw [insOuter, if_pos hi] at hq
        intro J stepJ
        have inner : ∀ (j : Nat) (y : Int) (H2 : Heap) (d2 : Array Edge), y = j → j ≤ i → Arr H2 v d2 → d2.size = d.size → Chg (blk v) H H2 →
            (∀ H', Arr H' v (insOuter lt a b (i + 1) (insInner lt a j d2)) → Chg (blk v) H H' → Q (.tuple #[]) H') → J [v, .int .i64 a, .int .i64 b, cmp, .int .i64 z, .int .i64 y] H2 := by
          intro j
          induction j with
          | zero =>
            intro y H2 d2 hy hj h2 hs2 c2 hq2
            apply stepJ
            intro K stepK
            simp (disch := omega) only [i_gtr, ev_some, Br_f]
            apply stepK
            simp (disch := omega) only [Br_false, i_add, ev_some]
            exact ih (i + 1) _ _ _ (by omega) (by omega) (by omega) (by omega) h2 hs2 c2 hq2
          | succ j jh =>
            intro y H2 d2 hy hj h2 hs2 c2 hq2
            apply stepJ
            intro K stepK
            rw [insInner] at hq2
            have e0 : y.toNat = j + 1 := by omega
            have e1 : (y - 1).toNat = j := by omega
            have stop : (∀ H', Arr H' v (insOuter lt a b (i + 1) d2) → Chg (blk v) H H' → Q (.tuple #[]) H') → K [v, .int .i64 a, .int .i64 b, cmp, .int .i64 z, .int .i64 y, .bool false] H2 := by
              intro hq3
              apply stepK
              simp (disch := omega) only [Br_false, i_add, ev_some]
              exact ih (i + 1) _ _ _ (by omega) (by omega) (by omega) (by omega) h2 hs2 c2 hq3
            by_cases hja : j + 1 > a
            · simp (disch := omega) only [i_gtr, ev_some, Br_t, i_sub, h2.ix (n := 2) rfl, h2.ldn (n := 2) rfl rfl, e0, e1]
              refine hc _ _ _ _ c2 fun r hr => ?_
              simp only [i_lss, ev_some, hr]
              by_cases hl : lt d2[j + 1]! d2[j]! = true
              · rw [hl]
                rw [if_pos (by simp [hja, hl])] at hq2
                apply stepK
                simp (disch := omega) only [Br_true, i_sub, ev_some, h2.ix (n := 2) rfl, h2.ldn (n := 2) rfl rfl, e0, e1]
                refine h2.swp (n := 2) rfl (by omega) (by omega) fun H3 h3 c3 => ?_
                exact jh _ _ _ (by omega) (by omega) h3 (by rw [size_swp]; exact hs2) (c2.trans c3) hq2
              · rw [Bool.not_eq_true] at hl; rw [hl]
                rw [if_neg (by simp [hl])] at hq2
                exact stop hq2
            · simp (disch := omega) only [i_gtr, ev_some, Br_f]
              rw [if_neg (by simp [hja])] at hq2
              exact stop hq2
        exact inner i z H1 d1 hz (by omega) h1 hs1 c1 hq
      · simp (disch := omega) only [i_lss, ev_some, Br_f]
        rw [insOuter, if_neg hi] at hq
        exact hq H1 h1 c1
  exact outer _ (a + 1) _ H d (Nat.le_refl _) (by omega) (by omega) (by omega) hd rfl (Chg.of_sub _ (Sub.refl H)) h
theorem c_sift {lo hi first : Nat} (hc : Cmp H (blk v) cmp lt) (hd : Arr H v d) (hb : first + hi ≤ d.size) (hs : d.size ≤ 1000000000) (hlo : lo ≤ hi)
    (h : ∀ H', Arr H' v (siftDown lt hi first lo d) → Chg (blk v) H H' → Q (.tuple #[]) H') : T PP 377 [v, .int .i64 lo, .int .i64 hi, .int .i64 first, cmp] H Q := by
  apply T377; unfold sh377
  intro I stepI
  have loop : ∀ (n root : Nat) (z : Int) (H1 : Heap) (d1 : Array Edge), hi - root ≤ n → z = root → root ≤ hi → Arr H1 v d1 → d1.size = d.size → Chg (blk v) H H1 →
      (∀ H', Arr H' v (siftDown lt hi first root d1) → Chg (blk v) H H' → Q (.tuple #[]) H') → I [v, .int .i64 hi, .int .i64 first, cmp, .int .i64 z] H1 := by
    intro n
    induction n with
    | zero =>
      intro root z H1 d1 hn hz hr h1 hs1 c1 hq
      apply stepI
      simp (disch := omega) only [i_mul, i_add, i_geq, ev_some, Br_t]
      rw [siftDown, dif_pos (by omega)] at hq
      exact hq H1 h1 c1
    | succ n ih =>
      intro root z H1 d1 hn hz hr h1 hs1 c1 hq
      apply stepI
      by_cases hge : 2 * root + 1 ≥ hi
      · simp (disch := omega) only [i_mul, i_add, i_geq, ev_some, Br_t]
        rw [siftDown, dif_pos hge] at hq
        exact hq H1 h1 c1
      · simp (disch := omega) only [i_mul, i_add, i_geq, ev_some, Br_f]
        rw [siftDown, dif_neg hge] at hq
        intro K stepK
        have kont : ∀ (c : Nat) (w : Int), w = c → root < c → c < hi →
            ((∀ H', Arr H' v (if !lt d1[first + root]! d1[first + c]! then d1 else siftDown lt hi first c (swp d1 (first + root) (first + c))) → Chg (blk v) H H' → Q (.tuple #[]) H')) →
            K [v, .int .i64 hi, .int .i64 first, cmp, .int .i64 z, .int .i64 w] H1 := by
          intro c w hw hrc hci hq2
          apply stepK
          have e0 : ((first : Int) + z).toNat = first + root := by omega
          have e1 : ((first : Int) + w).toNat = first + c := by omega
          simp (disch := omega) only [i_add, ev_some, h1.ix (n := 2) rfl, h1.ldn (n := 2) rfl rfl, e0, e1]
          refine hc _ _ _ _ c1 fun r hr => ?_
          simp only [i_lss, ev_some, hr, u_not]
          by_cases hl : lt d1[first + root]! d1[first + c]! = true
          · rw [hl] at hq2 ⊢
            simp (disch := omega) only [Bool.not_true, Br_false, ev_some, h1.ldn (n := 2) rfl rfl]
            refine h1.swp (n := 2) rfl (by omega) (by omega) fun H3 h3 c3 => ?_
            exact ih c _ _ _ (by omega) hw (by omega) h3 (by rw [size_swp]; exact hs1) (c1.trans c3) (by simpa using hq2)
          · rw [Bool.not_eq_true] at hl; rw [hl] at hq2 ⊢
            simp only [Bool.not_false, Br_true]
            exact hq2 H1 (by simpa using h1) c1
        intro K2 stepK2
        have kont1 : ∀ (bb : Bool), (bb = true → 2 * root + 2 < hi) → (∀ H', Arr H' v (if bb = true then (if !lt d1[first + root]! d1[first + (2 * root + 2)]! then d1 else siftDown lt hi first (2 * root + 2) (swp d1 (first + root) (first + (2 * root + 2)))) else if !lt d1[first + root]! d1[first + (2 * root + 1)]! then d1 else siftDown lt hi first (2 * root + 1) (swp d1 (first + root) (first + (2 * root + 1)))) → Chg (blk v) H H' → Q (.tuple #[]) H') →
            K2 [v, .int .i64 hi, .int .i64 first, cmp, .int .i64 z, .int .i64 (2 * z + 1), .bool bb] H1 := by
          intro bb hbb hq2
          apply stepK2
          cases bb with
          | true =>
            have := hbb rfl
            simp (disch := omega) only [Br_true, i_add, ev_some]
            exact kont (2 * root + 2) _ (by omega) (by omega) (by omega) (by simpa using hq2)
          | false =>
            simp (disch := omega) only [Br_false]
            exact kont (2 * root + 1) _ (by omega) (by omega) (by omega) (by simpa using hq2)
        by_cases h2 : 2 * root + 1 + 1 < hi
        · have e0 : ((first : Int) + (2 * z + 1)).toNat = first + (2 * root + 1) := by omega
          have e1 : ((first : Int) + (2 * z + 1) + 1).toNat = first + (2 * root + 1) + 1 := by omega
          simp (disch := omega) only [i_lss, ev_some, Br_t, h1.ix (n := 2) rfl, h1.ldn (n := 2) rfl rfl, e0, e1]
          refine hc _ _ _ _ c1 fun r hr => ?_
          simp only [i_lss, ev_some, hr]
          refine kont1 _ (fun _ => by omega) fun H' a c => hq H' ?_ c
          cases hl : lt d1[first + (2 * root + 1)]! d1[first + (2 * root + 1) + 1]! with
          | true => rw [hl] at a; simpa [h2, show 2 * root + 2 < hi by omega] using a
          | false => rw [hl] at a; simpa using a
        · simp (disch := omega) only [i_lss, ev_some, Br_f]
          refine kont1 false (by simp) fun H' a c => hq H' ?_ c
          rw [if_neg (by simp [h2])]
          simpa using a
  exact loop _ lo _ H d (Nat.le_refl _) rfl hlo hd rfl (Chg.of_sub _ (Sub.refl H)) h
theorem c_heap {a b : Nat} (hc : Cmp H (blk v) cmp lt) (hd : Arr H v d) (hb : b ≤ d.size) (hs : d.size ≤ 1000000000) (hab : a < b)
    (h : ∀ H', Arr H' v (heapSort lt d a b) → Chg (blk v) H H' → Q (.tuple #[]) H') : T PP 294 [v, .int .i64 a, .int .i64 b, cmp] H Q := by
  apply T294; unfold sh294
  simp (disch := omega) only [i_sub, i_quo, ev_some]
  intro I stepI
  have hmono : ∀ {H1 : Heap}, Chg (blk v) H H1 → Cmp H1 (blk v) cmp lt := fun c1 H' x y K c hk => hc H' x y K (c1.trans c) hk
  have build : ∀ (k : Nat) (z : Int) (H1 : Heap) (d1 : Array Edge), z = (k : Int) - 1 → k ≤ b - a → Arr H1 v d1 → d1.size = d.size → Chg (blk v) H H1 →
      (∀ H', Arr H' v (heapPop lt a (b - a) (heapBuild lt (b - a) a k d1)) → Chg (blk v) H H' → Q (.tuple #[]) H') → I [v, cmp, .int .i64 a, .int .i64 0, .int .i64 ((b : Int) - a), .int .i64 z] H1 := by
    intro k
    induction k with
    | zero =>
      intro z H1 d1 hz hk h1 hs1 c1 hq
      apply stepI
      simp (disch := omega) only [i_geq, i_sub, ev_some, Br_f]
      intro J stepJ
      have pop : ∀ (k : Nat) (z : Int) (H1 : Heap) (d1 : Array Edge), z = (k : Int) - 1 → k ≤ b - a → Arr H1 v d1 → d1.size = d.size → Chg (blk v) H H1 →
          (∀ H', Arr H' v (heapPop lt a k d1) → Chg (blk v) H H' → Q (.tuple #[]) H') → J [v, cmp, .int .i64 a, .int .i64 0, .int .i64 z] H1 := by
        intro k
        induction k with
        | zero =>
          intro z H1 d1 hz hk h1 hs1 c1 hq
          apply stepJ
          simp (disch := omega) only [i_geq, ev_some, Br_f]
          exact hq H1 h1 c1
        | succ k ih =>
          intro z H1 d1 hz hk h1 hs1 c1 hq
          apply stepJ
          have e0 : ((a : Int)).toNat = a := by omega
          have e1 : ((a : Int) + z).toNat = a + k := by omega
          obtain rfl : z = (k : Int) := by omega
          simp (disch := omega) only [i_geq, i_add, ev_some, Br_t, h1.ix (n := 2) rfl, h1.ldn (n := 2) rfl rfl, e0, e1]
          refine h1.swp (n := 2) rfl (by omega) (by omega) fun H3 h3 c3 => ?_
          refine c_sift (lo := 0) (hi := k) (first := a) (hmono (c1.trans c3)) h3 (by rw [size_swp]; omega) (by rw [size_swp]; omega) (by omega) fun H4 h4 c4 => ?_
          simp (disch := omega) only [i_sub, ev_some]
          exact ih _ _ _ rfl (by omega) h4 (by have := size_siftDown lt k a 0 (swp d1 a (a + k)); rw [this, size_swp]; exact hs1) ((c1.trans c3).trans c4) hq
      exact pop (b - a) _ H1 d1 (by omega) (Nat.le_refl _) h1 hs1 c1 hq
    | succ k ih =>
      intro z H1 d1 hz hk h1 hs1 c1 hq
      apply stepI
      obtain rfl : z = (k : Int) := by omega
      simp (disch := omega) only [i_geq, ev_some, Br_t]
      rw [show ((b : Int) - a) = ((b - a : Nat) : Int) by omega]
      refine c_sift (lo := k) (hi := b - a) (first := a) (hmono c1) h1 (by omega) (by omega) (by omega) fun H4 h4 c4 => ?_
      simp (disch := omega) only [i_sub, ev_some]
      rw [show ((b - a : Nat) : Int) = ((b : Int) - a) by omega]
      exact ih _ _ _ rfl (by omega) h4 (by rw [size_siftDown]; exact hs1) (c1.trans c4) hq
  exact build ((b - a - 1) / 2 + 1) _ H d (by omega) (by omega) hd rfl (Chg.of_sub _ (Sub.refl H)) h
theorem c_rev {a b : Nat} (hd : Arr H v d) (hb : b ≤ d.size) (hs : d.size ≤ 1000000000) (hab : a < b)
    (h : ∀ H', Arr H' v (reverseRange d a b) → Chg (blk v) H H' → Q (.tuple #[]) H') : T PP 297 [v, .int .i64 a, .int .i64 b, cmp] H Q := by
  apply T297; unfold sh297
  simp (disch := omega) only [i_sub, ev_some]
  intro I stepI
  have loop : ∀ (n i j : Nat) (z y : Int) (H1 : Heap) (d1 : Array Edge), j - i ≤ n → z = i → y = j → j < d.size → Arr H1 v d1 → d1.size = d.size → Chg (blk v) H H1 →
      (∀ H', Arr H' v (reverseLoop i j d1) → Chg (blk v) H H' → Q (.tuple #[]) H') → I [v, .int .i64 z, .int .i64 y] H1 := by
    intro n
    induction n with
    | zero =>
      intro i j z y H1 d1 hn hz hy hj h1 hs1 c1 hq
      apply stepI
      simp (disch := omega) only [i_lss, ev_some, Br_f]
      rw [reverseLoop, if_neg (by omega)] at hq
      exact hq H1 h1 c1
    | succ n ih =>
      intro i j z y H1 d1 hn hz hy hj h1 hs1 c1 hq
      apply stepI
      by_cases hij : i < j
      · have e0 : z.toNat = i := by omega
        have e1 : y.toNat = j := by omega
        simp (disch := omega) only [i_lss, ev_some, Br_t, h1.ix (n := 2) rfl, h1.ldn (n := 2) rfl rfl, e0, e1]
        refine h1.swp (n := 2) rfl (by omega) (by omega) fun H3 h3 c3 => ?_
        simp (disch := omega) only [i_add, i_sub, ev_some]
        rw [reverseLoop, if_pos hij] at hq
        exact ih (i + 1) (j - 1) _ _ _ _ (by omega) (by omega) (by omega) (by omega) h3 (by rw [size_swp]; exact hs1) (c1.trans c3) hq
      · simp (disch := omega) only [i_lss, ev_some, Br_f]
        rw [reverseLoop, if_neg hij] at hq
        exact hq H1 h1 c1
  exact loop _ a (b - 1) _ _ H d (Nat.le_refl _) rfl (by omega) (by omega) hd rfl (Chg.of_sub _ (Sub.refl H)) h
theorem c_order2 {a b p n : Nat} (hc : Cmp H [p] cmp lt) (hd : Arr H v d) (ha : a < d.size) (hb : b < d.size) (hp : Cell H p n) (hn : n ≤ 1000) (hpv : p ∉ blk v)
    (h : ∀ H', Arr H' v d → Cell H' p (order2 lt d a b n).2.2 → Chg [p] H H' → Q (.tuple #[.int .i64 (order2 lt d a b n).1, .int .i64 (order2 lt d a b n).2.1]) H') :
    T PP 418 [v, .int .i64 a, .int .i64 b, .pointer (some ⟨p, 0, none⟩), cmp] H Q := by
  apply T418; unfold sh418
  simp (disch := omega) only [ev_some, hd.ix (n := 2) rfl, hd.ldn (n := 2) rfl rfl, Int.toNat_natCast]
  refine hc _ _ _ _ (Chg.of_sub _ (Sub.refl H)) fun r hr => ?_
  simp only [i_lss, ev_some, hr]
  unfold order2 at h
  by_cases hl : lt d[b]! d[a]! = true
  · rw [hl]; rw [if_pos hl] at h
    obtain ⟨e, hp⟩ := hp
    have l1 : Sl.ld1 H (.pointer (some ⟨p, 0, none⟩)) = some (.int .i64 (n : Int)) := by simp [Sl.ld1, hp, Blk.rd]
    have s1 : ∀ x : Int, Sl.sto 1 H (.pointer (some ⟨p, 0, none⟩)) (.int .i64 x) = some (upd H p (.cs [.int .i64 x] e)) := by
      intro x; simp [Sl.sto, hp, Value.cells, Sl.flat, Value.oneCell', over]
    simp (disch := omega) only [Br_true, nilV, ev_some, l1, i_add, s1]
    refine h _ (hd.chg (Chg_upd _) (fun b' hb' hm => ?_)) ⟨e, upd_same _ _ _⟩ (Chg_upd _)
    simp only [List.mem_singleton] at hm; subst hm; exact hpv hb'
  · rw [Bool.not_eq_true] at hl; rw [hl]; rw [if_neg (by simp [hl])] at h
    simp only [Br_false]
    exact h H hd hp (Chg.of_sub _ (Sub.refl H))
theorem c_median {a b c p n : Nat} (hc : Cmp H [p] cmp lt) (hd : Arr H v d) (ha : a < d.size) (hb : b < d.size) (hcc : c < d.size) (hp : Cell H p n) (hn : n ≤ 990) (hpv : p ∉ blk v)
    (h : ∀ H', Arr H' v d → Cell H' p (median lt d a b c n).2 → Chg [p] H H' → Q (.int .i64 (median lt d a b c n).1) H') :
    T PP 381 [v, .int .i64 a, .int .i64 b, .int .i64 c, .pointer (some ⟨p, 0, none⟩), cmp] H Q := by
  apply T381; unfold sh381
  have m1 := order2_mem lt d a b n
  have m2 := order2_mem lt d (order2 lt d a b n).2.1 c (order2 lt d a b n).2.2
  refine c_order2 hc hd ha hb hp (by omega) hpv fun H1 h1 p1 c1 => ?_
  simp only [extr0, extr1, ev_some]
  refine c_order2 (hc.bs c1) h1 (by omega) (by omega) p1 (by omega) hpv fun H2 h2 p2 c2 => ?_
  simp only [extr0, extr1, ev_some]
  refine c_order2 (hc.bs (c1.trans c2)) h2 (by omega) (by omega) p2 (by omega) hpv fun H3 h3 p3 c3 => ?_
  simp only [extr0, extr1, ev_some]
  exact h H3 h3 p3 ((c1.trans c2).trans c3)
theorem c_medadj {a p n : Nat} (hc : Cmp H [p] cmp lt) (hd : Arr H v d) (ha : a + 1 < d.size) (h0 : 1 ≤ a) (hs : d.size ≤ 1000000000) (hp : Cell H p n) (hn : n ≤ 990) (hpv : p ∉ blk v)
    (h : ∀ H', Arr H' v d → Cell H' p (medianAdjacent lt d a n).2 → Chg [p] H H' → Q (.int .i64 (medianAdjacent lt d a n).1) H') :
    T PP 380 [v, .int .i64 a, .pointer (some ⟨p, 0, none⟩), cmp] H Q := by
  apply T380; unfold sh380
  simp (disch := omega) only [ev_some, i_add, i_sub]
  rw [show ((a : Int) - 1) = ((a - 1 : Nat) : Int) by omega, show ((a : Int) + 1) = ((a + 1 : Nat) : Int) by omega]
  exact c_median hc hd (by omega) (by omega) (by omega) hp hn hpv h
theorem c_choose {a b : Nat} (hc : Cmp H (blk v) cmp lt) (hd : Arr H v d) (hb : b ≤ d.size) (hs : d.size ≤ 1000000000) (hab : a + 12 < b)
    (h : ∀ H', Sub H H' → Q (.tuple #[.int .i64 (choosePivot lt d a b).1, .int .i64 (hintV (choosePivot lt d a b).2)]) H') :
    T PP 296 [v, .int .i64 a, .int .i64 b, cmp] H Q := by
  apply T296; unfold sh296
  simp (disch := omega) only [ev_some, i_sub]
  intro p hp
  have hpv : p ∉ blk v := by
    intro hm
    obtain ⟨k, hk⟩ := hd.slc.known (by intro he; have : d.size = 0 := by simpa using congrArg List.length he
                                       omega) p hm
    rw [hp] at hk; cases hk
  have s0 : Sub H (upd H p (.cs [.int .i64 0] 3)) := Sub.upd_fresh _ hp
  have hd0 : Arr (upd H p (.cs [.int .i64 0] 3)) v d := Own.sub hd s0
  have p0 : Cell (upd H p (.cs [.int .i64 0] 3)) p 0 := ⟨3, upd_same _ _ _⟩
  have hc0 : Cmp (upd H p (.cs [.int .i64 0] 3)) [p] cmp lt := by
    intro H' x y K c hk
    refine hc H' x y K (Chg.of_sub _ ?_) hk
    exact s0.chg c (by simpa using hp)
  have hsub : ∀ {H' : Heap}, Chg [p] (upd H p (.cs [.int .i64 0] 3)) H' → Sub H H' := fun c => s0.chg c (by simpa using hp)
  generalize upd H p (.cs [.int .i64 0] 3) = H0 at *
  simp (disch := omega) only [ev_some, i_quo, i_mul, i_add]
  intro K stepK
  have fin : ∀ (H1 : Heap) (j n : Nat), Cell H1 p n → Chg [p] H0 H1 → (choosePivot lt d a b) = (j, if n = 0 then .increasing else if n = 12 then .decreasing else .unknown) → K [.pointer (some ⟨p, 0, none⟩), .int .i64 (j : Int)] H1 := by
    intro H1 j n ⟨e, hpn⟩ c1 he
    apply stepK
    have l1 : Sl.ld1 H1 (.pointer (some ⟨p, 0, none⟩)) = some (.int .i64 (n : Int)) := by simp [Sl.ld1, hpn, Blk.rd]
    simp only [l1, ev_some, i_eql]
    rw [he] at h
    by_cases h0 : n = 0
    · subst h0
      rw [Br_t (by simp)]
      simpa [hintV] using h H1 (hsub c1)
    · rw [Br_f (by omega)]
      rw [if_neg h0] at h
      by_cases h12 : n = 12
      · subst h12
        rw [Br_t (by simp)]
        simpa [hintV] using h H1 (hsub c1)
      · rw [Br_f (by omega)]
        simpa [h12, hintV] using h H1 (hsub c1)
  simp only [i_geq, ev_some]
  rw [Br_t (by omega)]
  intro K2 stepK2
  have k2 : ∀ (H1 : Heap) (i j k n : Nat), i < d.size → j < d.size → k < d.size → n ≤ 900 → Cell H1 p n → Arr H1 v d → Chg [p] H0 H1 →
      (choosePivot lt d a b) = ((median lt d i j k n).1, if (median lt d i j k n).2 = 0 then .increasing else if (median lt d i j k n).2 = 12 then .decreasing else .unknown) →
      K2 [v, cmp, .pointer (some ⟨p, 0, none⟩), .int .i64 (i : Int), .int .i64 (j : Int), .int .i64 (k : Int)] H1 := by
    intro H1 i j k n hi hj hk hn hp1 h1 c1 he
    apply stepK2
    refine c_median (hc0.bs c1) h1 hi hj hk hp1 (by omega) hpv fun H2 h2 p2 c2 => ?_
    exact fin H2 _ _ p2 (c1.trans c2) he
  have e1 : ((a : Int) + ((b : Int) - a) / 4 * 1) = ((a + (b - a) / 4 * 1 : Nat) : Int) := by omega
  have e2 : ((a : Int) + ((b : Int) - a) / 4 * 2) = ((a + (b - a) / 4 * 2 : Nat) : Int) := by omega
  have e3 : ((a : Int) + ((b : Int) - a) / 4 * 3) = ((a + (b - a) / 4 * 3 : Nat) : Int) := by omega
  rw [e1, e2, e3]
  by_cases h50 : b - a ≥ 50
  · rw [Br_t (by omega)]
    refine c_medadj hc0 hd0 (by omega) (by omega) hs p0 (by omega) hpv fun H1 h1 p1 c1 => ?_
    have m1 := median_mem lt d (a + (b - a) / 4 * 1 - 1) (a + (b - a) / 4 * 1) (a + (b - a) / 4 * 1 + 1) 0
    refine c_medadj (hc0.bs c1) h1 (by omega) (by omega) hs p1 (by unfold medianAdjacent; omega) hpv fun H2 h2 p2 c2 => ?_
    have m2 := median_mem lt d (a + (b - a) / 4 * 2 - 1) (a + (b - a) / 4 * 2) (a + (b - a) / 4 * 2 + 1) (medianAdjacent lt d (a + (b - a) / 4 * 1) 0).2
    refine c_medadj (hc0.bs (c1.trans c2)) h2 (by omega) (by omega) hs p2 (by unfold medianAdjacent at *; omega) hpv fun H3 h3 p3 c3 => ?_
    have m3 := median_mem lt d (a + (b - a) / 4 * 3 - 1) (a + (b - a) / 4 * 3) (a + (b - a) / 4 * 3 + 1) (medianAdjacent lt d (a + (b - a) / 4 * 2) (medianAdjacent lt d (a + (b - a) / 4 * 1) 0).2).2
    refine k2 H3 _ _ _ _ (by unfold medianAdjacent at *; omega) (by unfold medianAdjacent at *; omega) (by unfold medianAdjacent at *; omega) (by unfold medianAdjacent at *; omega) p3 h3 ((c1.trans c2).trans c3) ?_
    unfold choosePivot
    simp only [show b - a ≥ 8 by omega, h50, if_true]
  · rw [Br_f (by omega)]
    refine k2 H0 _ _ _ 0 (by omega) (by omega) (by omega) (by omega) p0 hd0 (Chg.of_sub _ (Sub.refl _)) ?_
    unfold choosePivot
    simp only [show b - a ≥ 8 by omega, h50, if_true, if_false]
theorem c_brk {a b : Nat} (hd : Arr H v d) (hb : b ≤ d.size) (hs : d.size ≤ 100000000) (hab : a + 12 < b)
    (h : ∀ H', Arr H' v (breakPatterns d a b) → Chg (blk v) H H' → Q (.tuple #[]) H') : T PP 295 [v, .int .i64 a, .int .i64 b, cmp] H Q := by
  apply T295; unfold sh295
  simp (disch := omega) only [ev_some, i_sub, i_geq, Br_t]
  rw [show ((b : Int) - a) = ((b - a : Nat) : Int) by omega, conv_u _ (by omega), ev_some]
  intro p hp
  have hpv : p ∉ blk v := by
    intro hm
    obtain ⟨k, hk⟩ := hd.slc.known (by intro he; have : d.size = 0 := by simpa using congrArg List.length he
                                       omega) p hm
    rw [hp] at hk; cases hk
  have s0 : Sub H (upd H p (.cs [.int .u64 0] 410)) := Sub.upd_fresh _ hp
  have st0 : Sl.sto 1 (upd H p (.cs [.int .u64 0] 410)) (.pointer (some ⟨p, 0, none⟩)) (.int .u64 ((b - a : Nat) : Int)) = some (upd (upd H p (.cs [.int .u64 0] 410)) p (.cs [.int .u64 ((b - a : Nat) : Int)] 410)) := by
    simp [Sl.sto, upd_same, Value.cells, Sl.flat, Value.oneCell', over]
  rw [st0, ev_some]
  obtain ⟨r0, hr0⟩ : ∃ r0 : UInt64, r0 = UInt64.ofNat (b - a) := ⟨_, rfl⟩
  have hr0n : r0.toNat = b - a := by rw [hr0]; simp; omega
  rw [← hr0n]
  have s1 : Sub H (upd (upd H p (.cs [.int .u64 0] 410)) p (.cs [.int .u64 (r0.toNat : Int)] 410)) := s0.chg (Chg_upd _) (by simpa using hp)
  have p1 : (upd (upd H p (.cs [.int .u64 0] 410)) p (.cs [.int .u64 (r0.toNat : Int)] 410)) p = some (.cs [.int .u64 (r0.toNat : Int)] 410) := upd_same _ _ _
  generalize (upd (upd H p (.cs [.int .u64 0] 410)) p (.cs [.int .u64 (r0.toNat : Int)] 410)) = H0 at *
  refine c_npow (by omega) ?_
  obtain ⟨M, hM⟩ : ∃ M : Nat, M = 1 <<< bitsLen (b - a) := ⟨_, rfl⟩
  rw [hr0n]
  rw [← hM]
  have hM1 : 1 ≤ M := by rw [hM, Nat.one_shiftLeft]; exact Nat.two_pow_pos _
  have hM2 : M ≤ 2 * (b - a) := by rw [hM, Nat.one_shiftLeft]; exact two_pow_bitsLen_le (by omega)
  simp (disch := omega) only [ev_some, i_quo, i_mul, i_add, i_sub]
  intro I stepI
  obtain ⟨L, hL⟩ : ∃ L, L = b - a := ⟨_, rfl⟩
  obtain ⟨i0, hi0⟩ : ∃ i0, i0 = a + L / 4 * 2 - 1 := ⟨_, rfl⟩
  have hbk : breakPatterns d a b = (breakStep a L M (breakStep a L M (breakStep a L M (r0, d) i0) (i0 + 1)) (i0 + 2)).2 := by
    unfold breakPatterns
    rw [← hL]
    simp only []
    rw [if_pos (by omega), hM, hr0, ← hL, hi0]
  have round : ∀ (t : Nat) (z : Int) (H1 : Heap) (d1 : Array Edge) (r : UInt64), t < 3 → z = (i0 + t : Nat) → Arr H1 v d1 → d1.size = d.size → H1 p = some (.cs [.int .u64 (r.toNat : Int)] 410) →
      (∀ H2, Arr H2 v (breakStep a L M (r, d1) (i0 + t)).2 → H2 p = some (.cs [.int .u64 ((breakStep a L M (r, d1) (i0 + t)).1.toNat : Int)] 410) → Chg (p :: blk v) H1 H2 → I [v, .int .i64 a, .int .i64 ((b - a : Nat) : Int), .pointer (some ⟨p, 0, none⟩), .int .u64 (M : Int), .int .i64 (z + 1)] H2) →
      I [v, .int .i64 a, .int .i64 ((b - a : Nat) : Int), .pointer (some ⟨p, 0, none⟩), .int .u64 (M : Int), .int .i64 z] H1 := by
    intro t z H1 d1 r ht hz h1 hs1 hp1 hq
    apply stepI
    simp (disch := omega) only [ev_some, i_quo, i_mul, i_add, i_leq, Br_t]
    refine c_xnext hp1 fun H2 hp2 c2 => ?_
    have h2 : Arr H2 v d1 := h1.chg c2 (fun b' hb' hm => by simp only [List.mem_singleton] at hm; subst hm; exact hpv hb')
    have e1 : intV .sub (.int .u64 (M : Int)) (.int .u64 1) = some (.int .u64 ((M - 1 : Nat) : Int)) := by
      unfold intV; dsimp only; rw [if_pos rfl]
      have : IntKind.u64.wrap ((M : Int) - 1) = ((M - 1 : Nat) : Int) := by
        rw [show ((M : Int) - 1) = ((M - 1 : Nat) : Int) by omega]; exact IntWalk.u64_in _ (by omega)
      rw [this]
    rw [e1, ev_some, u64_and _ _ (xorNext r).toNat_lt (by omega), ev_some]
    obtain ⟨o, ho⟩ : ∃ o, o = (xorNext r).toNat &&& (M - 1) := ⟨_, rfl⟩
    have hoM : o ≤ M - 1 := by rw [ho]; exact Nat.and_le_right
    rw [← ho, conv_i _ (by omega), ev_some]
    intro K stepK
    have k1 : ∀ (q : Nat), q < b - a → (breakStep a L M (r, d1) (i0 + t)) = (xorNext r, swp d1 (i0 + t) (a + q)) → K [v, .int .i64 a, .int .i64 ((b - a : Nat) : Int), .pointer (some ⟨p, 0, none⟩), .int .u64 (M : Int), .int .i64 z, .int .i64 (q : Int)] H2 := by
      intro q hqb he
      rw [he] at hq
      apply stepK
      have e0 : z.toNat = i0 + t := by omega
      have e2 : ((a : Int) + (q : Int)).toNat = a + q := by omega
      simp (disch := omega) only [ev_some, i_add, h2.ix (n := 2) rfl, h2.ldn (n := 2) rfl rfl, e0, e2]
      refine h2.swp (n := 2) rfl (by omega) (by omega) fun H3 h3 c3 => ?_
      refine hq H3 h3 ?_ ?_
      · exact c3 p _ hp2 hpv
      · exact (c2.mono (by simp)).trans (c3.mono (fun b' hb' => List.mem_cons_of_mem _ hb'))
    simp only [i_geq, ev_some]
    by_cases hge : o ≥ b - a
    · rw [Br_t (by omega)]
      simp (disch := omega) only [i_sub, ev_some]
      rw [show ((o : Int) - ((b - a : Nat) : Int)) = ((o - (b - a) : Nat) : Int) by omega]
      refine k1 _ (by omega) ?_
      unfold breakStep
      simp only [← ho, ← hL]
      rw [if_pos (by omega)]
    · rw [Br_f (by omega)]
      refine k1 _ (by omega) ?_
      unfold breakStep
      simp only [← ho]
      rw [if_neg (by omega)]
  have z0 : ((a : Int) + ((b - a : Nat) : Int) / 4 * 2 - 1) = ((i0 + 0 : Nat) : Int) := by omega
  rw [z0]
  have hbs : ∀ (r : UInt64) (d1 : Array Edge) (i : Nat), (breakStep a L M (r, d1) i).2.size = d1.size := by intro r d1 i; unfold breakStep; simp only [size_swp]
  refine round 0 _ H0 d r0 (by omega) rfl (Own.sub hd s1) rfl p1 fun H1 h1 q1 c1 => ?_
  refine round 1 _ H1 _ _ (by omega) (by omega) h1 (hbs _ _ _) q1 fun H2 h2 q2 c2 => ?_
  refine round 2 _ H2 _ _ (by omega) (by omega) h2 (by rw [hbs, hbs]) q2 fun H3 h3 q3 c3 => ?_
  apply stepI
  simp (disch := omega) only [ev_some, i_quo, i_mul, i_add, i_leq, Br_f]
  refine h H3 (by rw [hbk]; exact h3) ?_
  intro b' k hk hn
  have hbp : b' ≠ p := by intro he; rw [he, hp] at hk; cases hk
  exact ((c1.trans c2).trans c3) b' k (s1 b' k hk) (by simp [hn, hbp])
theorem c_partial {a b : Nat} (hc : Cmp H (blk v) cmp lt) (hd : Arr H v d) (hb : b ≤ d.size) (hs : d.size ≤ 1000000000) (hab : a < b)
    (h : ∀ H', Arr H' v (partialInsertionSort lt d a b).1 → Chg (blk v) H H' → Q (.bool (partialInsertionSort lt d a b).2) H') : T PP 298 [v, .int .i64 a, .int .i64 b, cmp] H Q := by
  apply T298; unfold sh298
  simp (disch := omega) only [ev_some, i_add]
  intro I stepI
  have main : ∀ (s : Nat) (jz : Int) (i : Nat) (z : Int) (H1 : Heap) (d1 : Array Edge), jz = 5 - (s : Int) → s ≤ 5 → z = i → a + 1 ≤ i → i ≤ b → Arr H1 v d1 → d1.size = d.size → Chg (blk v) H H1 →
      (∀ H', Arr H' v (partialIns lt a b s i d1).1 → Chg (blk v) H H' → Q (.bool (partialIns lt a b s i d1).2) H') → I [v, .int .i64 a, .int .i64 b, cmp, .int .i64 z, .int .i64 jz] H1 := by
    intro s
    induction s with
    | zero =>
      intro jz i z H1 d1 hj hs5 hz hi hib h1 hs1 c1 hq
      apply stepI
      simp (disch := omega) only [i_lss, ev_some, Br_f]
      exact hq H1 h1 c1
    | succ s ih =>
      intro jz i z H1 d1 hj hs5 hz hi hib h1 hs1 c1 hq
      apply stepI
      simp (disch := omega) only [i_lss, ev_some, Br_t]
      intro K15 step15 I24 step24
      obtain ⟨F, hF⟩ : ∃ F : Nat → Array Edge × Bool, F = fun r => if r = b then (d1, true) else if b - a < 50 then (d1, false) else partialIns lt a b s r (fixUp lt b r (fixDown lt a r (swp d1 r (r - 1)))) := ⟨_, rfl⟩
      have hFq : partialIns lt a b (s + 1) i d1 = F (scanSorted lt d1 b i) := by rw [partialIns_succ, hF]
      rw [hFq] at hq
      have scan : ∀ (n i : Nat) (z : Int), b - i ≤ n → z = i → a + 1 ≤ i → i ≤ b →
          (∀ H', Arr H' v (F (scanSorted lt d1 b i)).1 → Chg (blk v) H H' → Q (.bool (F (scanSorted lt d1 b i)).2) H') →
          I24 [v, .int .i64 a, .int .i64 b, cmp, .int .i64 z, .int .i64 jz] H1 := by
        intro n
        induction n with
        | zero =>
          intro i z hn hz hi hib hq
          apply step24
          intro K32 step32
          simp (disch := omega) only [i_lss, ev_some, Br_f]
          apply step32
          have hsc : scanSorted lt d1 b i = i := by rw [scanSorted, if_neg (by simp; omega)]
          have hFi : F i = (d1, true) := by rw [hF]; simp only []; rw [if_pos (by omega)]
          rw [hsc, hFi] at hq
          simp (disch := omega) only [Br_false, i_eql, ev_some, Br_t]
          exact hq H1 h1 c1
        | succ n nh =>
          intro i z hn hz hi hib hq
          apply step24
          intro K32 step32
          by_cases hib2 : i < b
          · have e0 : z.toNat = i := by omega
            have e1 : (z - 1).toNat = i - 1 := by omega
            simp (disch := omega) only [i_lss, ev_some, Br_t, i_sub, h1.ix (n := 2) rfl, h1.ldn (n := 2) rfl rfl, e0, e1]
            refine hc _ _ _ _ c1 fun r hr => ?_
            simp only [i_lss, ev_some, hr, u_not]
            apply step32
            by_cases hl : lt d1[i]! d1[i - 1]! = true
            · rw [hl]
              simp (disch := omega) only [Bool.not_true, Br_false, i_eql, ev_some, Br_f, i_sub, i_lss]
              have hsc : scanSorted lt d1 b i = i := by rw [scanSorted, if_neg (by simp [hl])]
              rw [hsc] at hq
              by_cases h50 : b - a < 50
              · rw [Br_t (by omega)]
                have hFi : F i = (d1, false) := by rw [hF]; simp only []; rw [if_neg (by omega), if_pos h50]
                rw [hFi] at hq
                exact hq H1 h1 c1
              · rw [Br_f (by omega)]
                have hFi : F i = partialIns lt a b s i (fixUp lt b i (fixDown lt a i (swp d1 i (i - 1)))) := by rw [hF]; simp only []; rw [if_neg (by omega), if_neg h50]
                rw [hFi] at hq
                simp (disch := omega) only [ev_some, h1.ix (n := 2) rfl, h1.ldn (n := 2) rfl rfl, e0, e1]
                refine h1.swp (n := 2) rfl (by omega) (by omega) fun H3 h3 c3 => ?_
                intro K55 step55
                have up : ∀ (H4 : Heap) (d4 : Array Edge), Arr H4 v d4 → d4.size = d.size → Chg (blk v) H H4 →
                    (∀ H', Arr H' v (partialIns lt a b s i (fixUp lt b i d4)).1 → Chg (blk v) H H' → Q (.bool (partialIns lt a b s i (fixUp lt b i d4)).2) H') →
                    K55 [v, .int .i64 a, .int .i64 b, cmp, .int .i64 z, .int .i64 jz] H4 := by
                  intro H4 d4 h4 hs4 c4 hq4
                  apply step55
                  simp (disch := omega) only [ev_some, i_sub, i_geq]
                  have done : ∀ (H5 : Heap) (d5 : Array Edge), Arr H5 v d5 → d5.size = d.size → Chg (blk v) H H5 →
                      (∀ H', Arr H' v (partialIns lt a b s i d5).1 → Chg (blk v) H H' → Q (.bool (partialIns lt a b s i d5).2) H') → K15 [v, .int .i64 a, .int .i64 b, cmp, .int .i64 z, .int .i64 jz] H5 := by
                    intro H5 d5 h5 hs5' c5 hq5
                    apply step15
                    simp (disch := omega) only [ev_some, i_add]
                    exact ih _ i _ _ _ (by omega) (by omega) hz hi hib h5 hs5' c5 hq5
                  by_cases h2 : b - i ≥ 2
                  · simp only [fixUp, if_pos h2] at hq4
                    rw [Br_t (by omega)]
                    simp (disch := omega) only [ev_some, i_add]
                    intro I66 step66
                    have loop : ∀ (n j : Nat) (y : Int) (H5 : Heap) (d5 : Array Edge), b - j ≤ n → y = j → i + 1 ≤ j → j ≤ b → Arr H5 v d5 → d5.size = d.size → Chg (blk v) H H5 →
                        (∀ H', Arr H' v (partialIns lt a b s i (shiftUp lt b j d5)).1 → Chg (blk v) H H' → Q (.bool (partialIns lt a b s i (shiftUp lt b j d5)).2) H') →
                        I66 [v, .int .i64 a, .int .i64 b, cmp, .int .i64 z, .int .i64 jz, .int .i64 y] H5 := by
                      intro n
                      induction n with
                      | zero =>
                        intro j y H5 d5 hn hy hj hjb h5 hs5' c5 hq5
                        apply step66
                        simp (disch := omega) only [i_lss, ev_some, Br_f]
                        rw [shiftUp, if_neg (by omega)] at hq5
                        exact done H5 d5 h5 hs5' c5 hq5
                      | succ n nh2 =>
                        intro j y H5 d5 hn hy hj hjb h5 hs5' c5 hq5
                        apply step66
                        by_cases hjb2 : j < b
                        · have f0 : y.toNat = j := by omega
                          have f1 : (y - 1).toNat = j - 1 := by omega
                          simp (disch := omega) only [i_lss, ev_some, Br_t, i_sub, h5.ix (n := 2) rfl, h5.ldn (n := 2) rfl rfl, f0, f1]
                          refine hc _ _ _ _ c5 fun r hr => ?_
                          simp only [i_lss, ev_some, hr, u_not]
                          rw [shiftUp, if_pos hjb2] at hq5
                          by_cases hl5 : lt d5[j]! d5[j - 1]! = true
                          · rw [hl5]
                            rw [if_neg (by simp [hl5])] at hq5
                            simp (disch := omega) only [Bool.not_true, Br_false, ev_some, h5.ldn (n := 2) rfl rfl]
                            refine h5.swp (n := 2) rfl (by omega) (by omega) fun H6 h6 c6 => ?_
                            simp (disch := omega) only [ev_some, i_add]
                            exact nh2 (j + 1) _ _ _ (by omega) (by omega) (by omega) (by omega) h6 (by rw [size_swp]; exact hs5') (c5.trans c6) hq5
                          · rw [Bool.not_eq_true] at hl5; rw [hl5]
                            rw [if_pos (by simp [hl5])] at hq5
                            simp only [Bool.not_false, Br_true]
                            exact done H5 d5 h5 hs5' c5 hq5
                        · simp (disch := omega) only [i_lss, ev_some, Br_f]
                          rw [shiftUp, if_neg hjb2] at hq5
                          exact done H5 d5 h5 hs5' c5 hq5
                    exact loop _ (i + 1) _ H4 d4 (Nat.le_refl _) (by omega) (by omega) (by omega) h4 hs4 c4 hq4
                  · simp only [fixUp, if_neg h2] at hq4
                    rw [Br_f (by omega)]
                    exact done H4 d4 h4 hs4 c4 hq4
                simp (disch := omega) only [ev_some, i_geq]
                by_cases hia : i - a ≥ 2
                · rw [Br_t (by omega)]
                  simp only [fixDown, if_pos hia] at hq
                  intro I99 step99
                  have loop : ∀ (j : Nat) (y : Int) (H5 : Heap) (d5 : Array Edge), y = j → j ≤ i → Arr H5 v d5 → d5.size = d.size → Chg (blk v) H H5 →
                      (∀ H', Arr H' v (partialIns lt a b s i (fixUp lt b i (shiftDown lt j d5))).1 → Chg (blk v) H H' → Q (.bool (partialIns lt a b s i (fixUp lt b i (shiftDown lt j d5))).2) H') →
                      I99 [v, .int .i64 a, .int .i64 b, cmp, .int .i64 z, .int .i64 jz, .int .i64 y] H5 := by
                    intro j
                    induction j with
                    | zero =>
                      intro y H5 d5 hy hj h5 hs5' c5 hq5
                      apply step99
                      simp (disch := omega) only [i_geq, ev_some, Br_f]
                      exact up H5 d5 h5 hs5' c5 hq5
                    | succ j jh =>
                      intro y H5 d5 hy hj h5 hs5' c5 hq5
                      apply step99
                      have f0 : y.toNat = j + 1 := by omega
                      have f1 : (y - 1).toNat = j := by omega
                      simp (disch := omega) only [i_geq, ev_some, Br_t, i_sub, h5.ix (n := 2) rfl, h5.ldn (n := 2) rfl rfl, f0, f1]
                      refine hc _ _ _ _ c5 fun r hr => ?_
                      simp only [i_lss, ev_some, hr, u_not]
                      by_cases hl5 : lt d5[j + 1]! d5[j]! = true
                      · rw [hl5]
                        simp only [shiftDown, hl5, Bool.not_true, Bool.false_eq_true, if_false] at hq5
                        simp (disch := omega) only [Bool.not_true, Br_false, ev_some, h5.ldn (n := 2) rfl rfl]
                        refine h5.swp (n := 2) rfl (by omega) (by omega) fun H6 h6 c6 => ?_
                        exact jh _ _ _ (by omega) (by omega) h6 (by rw [size_swp]; exact hs5') (c5.trans c6) hq5
                      · rw [Bool.not_eq_true] at hl5; rw [hl5]
                        simp only [shiftDown, hl5, Bool.not_false, if_true] at hq5
                        simp only [Bool.not_false, Br_true]
                        exact up H5 d5 h5 hs5' c5 hq5
                  exact loop (i - 1) _ H3 _ (by omega) (by omega) h3 (by rw [size_swp]; exact hs1) (c1.trans c3) hq
                · rw [Br_f (by omega)]
                  simp only [fixDown, if_neg hia] at hq
                  exact up H3 _ h3 (by rw [size_swp]; exact hs1) (c1.trans c3) hq
            · rw [Bool.not_eq_true] at hl; rw [hl]
              simp (disch := omega) only [Bool.not_false, Br_true, i_add, ev_some]
              have hsc : scanSorted lt d1 b i = scanSorted lt d1 b (i + 1) := by rw [scanSorted, if_pos (by simp [hl, hib2])]
              rw [hsc] at hq
              exact nh (i + 1) _ (by omega) (by omega) (by omega) (by omega) hq
          · simp (disch := omega) only [i_lss, ev_some, Br_f]
            apply step32
            have hsc : scanSorted lt d1 b i = i := by rw [scanSorted, if_neg (by simp; omega)]
            have hFi : F i = (d1, true) := by rw [hF]; simp only []; rw [if_pos (by omega)]
            rw [hsc, hFi] at hq
            simp (disch := omega) only [Br_false, i_eql, ev_some, Br_t]
            exact hq H1 h1 c1
      exact scan _ i z (Nat.le_refl _) hz hi hib hq
  exact main 5 _ (a + 1) _ H d (by omega) (by omega) (by omega) (by omega) (by omega) hd rfl (Chg.of_sub _ (Sub.refl H)) h
theorem c_parteq {a b pv : Nat} (hc : Cmp H (blk v) cmp lt) (hd : Arr H v d) (hb : b ≤ d.size) (hs : d.size ≤ 1000000000) (hab : a < b) (hpa : a ≤ pv) (hpb : pv < b)
    (h : ∀ H', Arr H' v (partitionEqual lt d a b pv).2 → Chg (blk v) H H' → Q (.int .i64 (partitionEqual lt d a b pv).1) H') : T PP 299 [v, .int .i64 a, .int .i64 b, .int .i64 pv, cmp] H Q := by
  apply T299; unfold sh299
  simp (disch := omega) only [ev_some, hd.ix (n := 2) rfl, hd.ldn (n := 2) rfl rfl, Int.toNat_natCast]
  refine hd.swp (n := 2) rfl (by omega) (by omega) fun H0 h0 c0 => ?_
  have hs0 : (swp d a pv).size = d.size := size_swp _ _ _
  unfold partitionEqual at h
  generalize swp d a pv = d0 at *
  simp (disch := omega) only [ev_some, i_add, i_sub]
  intro I stepI
  have loop : ∀ (n i j : Nat) (z y : Int) (H1 : Heap) (d1 : Array Edge), j + 1 - i = n → z = i → y = j → a < i → i ≤ d.size + 1 → j < b → Arr H1 v d1 → d1.size = d.size → Chg (blk v) H H1 →
      (∀ H', Arr H' v (partEqLoop lt a i j d1).2 → Chg (blk v) H H' → Q (.int .i64 (partEqLoop lt a i j d1).1) H') → I [v, .int .i64 a, cmp, .int .i64 z, .int .i64 y] H1 := by
    intro n
    induction n using Nat.strongRecOn with
    | _ n IH =>
      intro i j z y H1 d1 hn hz hy hai hij hjb h1 hs1 c1 hq
      apply stepI
      intro J stepJ
      rw [partEqLoop_eq] at hq
      obtain ⟨p, hp⟩ : ∃ p : Edge → Bool, p = fun x => !lt d1[a]! x := ⟨_, rfl⟩
      obtain ⟨q, hqq⟩ : ∃ q : Edge → Bool, q = fun x => lt d1[a]! x := ⟨_, rfl⟩
      rw [← hp, ← hqq] at hq
      have up : ∀ (m i' : Nat) (z : Int), j + 1 - i' = m → z = i' → i ≤ i' → i' ≤ d.size + 1 → scanUp p d1 j i' = scanUp p d1 j i → J [v, .int .i64 a, cmp, .int .i64 z, .int .i64 y] H1 := by
        intro m
        induction m using Nat.strongRecOn with
        | _ m mh =>
          intro i' z hm hz hi' hij' he
          apply stepJ
          intro K stepK
          have term : scanUp p d1 j i' = i' → K [v, .int .i64 a, cmp, .int .i64 z, .int .i64 y, .bool false] H1 := by
            intro hsc
            apply stepK
            simp only [Br_false]
            intro L stepL
            have down : ∀ (j' : Nat) (y : Int), y = j' → j' ≤ j → i' ≤ d.size + 1 → scanDown q d1 i' j' = scanDown q d1 i' j → L [v, .int .i64 a, cmp, .int .i64 z, .int .i64 y] H1 := by
              intro j'
              induction j' with
              | zero =>
                intro y hy hj' hij2 he2
                apply stepL
                intro M stepM
                simp (disch := omega) only [i_leq, ev_some, Br_f]
                apply stepM
                simp (disch := omega) only [Br_false, i_gtr, ev_some, Br_t]
                rw [scanDown] at he2
                rw [← he, hsc, ← he2, if_pos (by omega)] at hq
                rw [hz]
                exact hq H1 h1 c1
              | succ j' jh =>
                intro y hy hj' hij2 he2
                apply stepL
                intro M stepM
                have term2 : scanDown q d1 i' (j' + 1) = j' + 1 → M [v, .int .i64 a, cmp, .int .i64 z, .int .i64 y, .bool false] H1 := by
                  intro hsd
                  apply stepM
                  simp only [Br_false, i_gtr, ev_some]
                  rw [← he, hsc, ← he2, hsd] at hq
                  by_cases hgt : i' > j' + 1
                  · rw [Br_t (by omega)]
                    rw [if_pos hgt] at hq
                    rw [hz]
                    exact hq H1 h1 c1
                  · rw [Br_f (by omega)]
                    rw [if_neg hgt] at hq
                    have e0 : z.toNat = i' := by omega
                    have e1 : y.toNat = j' + 1 := by omega
                    simp (disch := omega) only [ev_some, h1.ix (n := 2) rfl, h1.ldn (n := 2) rfl rfl, e0, e1]
                    refine h1.swp (n := 2) rfl (by omega) (by omega) fun H3 h3 c3 => ?_
                    simp (disch := omega) only [ev_some, i_add, i_sub]
                    exact IH (j' + 1 - 1 + 1 - (i' + 1)) (by omega) (i' + 1) (j' + 1 - 1) _ _ H3 _ rfl (by omega) (by omega) (by omega) (by omega) (by omega) h3 (by rw [size_swp]; exact hs1) (c1.trans c3) hq
                simp only [i_leq, ev_some]
                by_cases hle : i' ≤ j' + 1
                · rw [Br_t (by omega)]
                  have e1 : y.toNat = j' + 1 := by omega
                  simp (disch := omega) only [ev_some, h1.ix (n := 2) rfl, h1.ldn (n := 2) rfl rfl, Int.toNat_natCast, e1]
                  refine hc _ _ _ _ c1 fun r hr => ?_
                  simp only [i_lss, ev_some, hr]
                  by_cases hl : lt d1[a]! d1[j' + 1]! = true
                  · rw [hl]
                    apply stepM
                    simp (disch := omega) only [Br_true, i_sub, ev_some]
                    refine jh _ (by omega) (by omega) (by omega) ?_
                    rw [← he2, scanDown, if_pos (by simp [hqq, hl, hle])]
                  · rw [Bool.not_eq_true] at hl; rw [hl]
                    refine term2 ?_
                    rw [scanDown, if_neg (by simp [hqq, hl])]
                · rw [Br_f (by omega)]
                  refine term2 ?_
                  rw [scanDown, if_neg (by simp; omega)]
            exact down j y hy (Nat.le_refl _) hij' rfl
          simp only [i_leq, ev_some]
          by_cases hle : i' ≤ j
          · rw [Br_t (by omega)]
            have e0 : z.toNat = i' := by omega
            simp (disch := omega) only [ev_some, h1.ix (n := 2) rfl, h1.ldn (n := 2) rfl rfl, Int.toNat_natCast, e0]
            refine hc _ _ _ _ c1 fun r hr => ?_
            simp only [i_lss, ev_some, hr, u_not]
            by_cases hl : lt d1[a]! d1[i']! = true
            · rw [hl]
              refine term ?_
              rw [scanUp, if_neg (by simp [hp, hl])]
            · rw [Bool.not_eq_true] at hl; rw [hl]
              apply stepK
              simp (disch := omega) only [Bool.not_false, Br_true, i_add, ev_some]
              refine mh (j + 1 - (i' + 1)) (by omega) (i' + 1) _ rfl (by omega) (by omega) (by omega) ?_
              rw [← he]; conv => rhs; rw [scanUp, if_pos (by simp [hp, hl, hle])]
          · rw [Br_f (by omega)]
            refine term ?_
            rw [scanUp, if_neg (by simp; omega)]
      exact up _ i z rfl hz (Nat.le_refl _) hij rfl
  exact loop _ (a + 1) (b - 1) _ _ H0 d0 rfl (by omega) (by omega) (by omega) (by omega) (by omega) h0 hs0 c0 h
theorem c_part {a b pv : Nat} (hc : Cmp H (blk v) cmp lt) (hd : Arr H v d) (hb : b ≤ d.size) (hs : d.size ≤ 1000000000) (hab : a < b) (hpa : a ≤ pv) (hpb : pv < b)
    (h : ∀ H', Arr H' v (partition lt d a b pv).2.2 → Chg (blk v) H H' → Q (.tuple #[.int .i64 (partition lt d a b pv).1, .bool (partition lt d a b pv).2.1]) H') : T PP 300 [v, .int .i64 a, .int .i64 b, .int .i64 pv, cmp] H Q := by
  apply T300; unfold sh300
  simp (disch := omega) only [ev_some, hd.ix (n := 2) rfl, hd.ldn (n := 2) rfl rfl, Int.toNat_natCast]
  refine hd.swp (n := 2) rfl (by omega) (by omega) fun H0 h0 c0 => ?_
  have hs0 : (swp d a pv).size = d.size := size_swp _ _ _
  unfold partition at h
  generalize swp d a pv = d0 at *
  simp (disch := omega) only [ev_some, i_add, i_sub]
  intro J stepJ
  have first : ∀ (i j : Nat) (z y : Int), z = i → y = j → a < i → i ≤ d.size + 1 → j < b →
      (∀ H', Arr H' v (if scanUp (fun x => lt x d0[a]!) d0 j i > scanDown (fun x => !lt x d0[a]!) d0 (scanUp (fun x => lt x d0[a]!) d0 j i) j then (scanDown (fun x => !lt x d0[a]!) d0 (scanUp (fun x => lt x d0[a]!) d0 j i) j, true, swp d0 (scanDown (fun x => !lt x d0[a]!) d0 (scanUp (fun x => lt x d0[a]!) d0 j i) j) a) else partRest lt a (scanUp (fun x => lt x d0[a]!) d0 j i + 1) (scanDown (fun x => !lt x d0[a]!) d0 (scanUp (fun x => lt x d0[a]!) d0 j i) j - 1) (swp d0 (scanUp (fun x => lt x d0[a]!) d0 j i) (scanDown (fun x => !lt x d0[a]!) d0 (scanUp (fun x => lt x d0[a]!) d0 j i) j))).2.2 → Chg (blk v) H H' →
        Q (.tuple #[.int .i64 (if scanUp (fun x => lt x d0[a]!) d0 j i > scanDown (fun x => !lt x d0[a]!) d0 (scanUp (fun x => lt x d0[a]!) d0 j i) j then (scanDown (fun x => !lt x d0[a]!) d0 (scanUp (fun x => lt x d0[a]!) d0 j i) j, true, swp d0 (scanDown (fun x => !lt x d0[a]!) d0 (scanUp (fun x => lt x d0[a]!) d0 j i) j) a) else partRest lt a (scanUp (fun x => lt x d0[a]!) d0 j i + 1) (scanDown (fun x => !lt x d0[a]!) d0 (scanUp (fun x => lt x d0[a]!) d0 j i) j - 1) (swp d0 (scanUp (fun x => lt x d0[a]!) d0 j i) (scanDown (fun x => !lt x d0[a]!) d0 (scanUp (fun x => lt x d0[a]!) d0 j i) j))).1, .bool (if scanUp (fun x => lt x d0[a]!) d0 j i > scanDown (fun x => !lt x d0[a]!) d0 (scanUp (fun x => lt x d0[a]!) d0 j i) j then (scanDown (fun x => !lt x d0[a]!) d0 (scanUp (fun x => lt x d0[a]!) d0 j i) j, true, swp d0 (scanDown (fun x => !lt x d0[a]!) d0 (scanUp (fun x => lt x d0[a]!) d0 j i) j) a) else partRest lt a (scanUp (fun x => lt x d0[a]!) d0 j i + 1) (scanDown (fun x => !lt x d0[a]!) d0 (scanUp (fun x => lt x d0[a]!) d0 j i) j - 1) (swp d0 (scanUp (fun x => lt x d0[a]!) d0 j i) (scanDown (fun x => !lt x d0[a]!) d0 (scanUp (fun x => lt x d0[a]!) d0 j i) j))).2.1]) H') →
      J [v, .int .i64 a, cmp, .int .i64 z, .int .i64 y] H0 := by
    intro i j z y hz hy hai hij hjb hq
    obtain ⟨p, hp⟩ : ∃ p : Edge → Bool, p = fun x => lt x d0[a]! := ⟨_, rfl⟩
    obtain ⟨q, hqq⟩ : ∃ q : Edge → Bool, q = fun x => !lt x d0[a]! := ⟨_, rfl⟩
    rw [← hp, ← hqq] at hq
    have up : ∀ (m i' : Nat) (z : Int), j + 1 - i' = m → z = i' → i ≤ i' → i' ≤ d.size + 1 → scanUp p d0 j i' = scanUp p d0 j i → J [v, .int .i64 a, cmp, .int .i64 z, .int .i64 y] H0 := by
      intro m
      induction m using Nat.strongRecOn with
      | _ m mh =>
        intro i' z hm hz hi' hij' he
        apply stepJ
        intro K stepK
        have term : scanUp p d0 j i' = i' → K [v, .int .i64 a, cmp, .int .i64 z, .int .i64 y, .bool false] H0 := by
          intro hsc
          apply stepK
          simp only [Br_false]
          intro L stepL
          have down : ∀ (j' : Nat) (y : Int), y = j' → j' ≤ j → i' ≤ d.size + 1 → scanDown q d0 i' j' = scanDown q d0 i' j → L [v, .int .i64 a, cmp, .int .i64 z, .int .i64 y] H0 := by
            intro j'
            induction j' with
            | zero =>
              intro y hy hj' hij2 he2
              apply stepL
              intro M stepM
              simp (disch := omega) only [i_leq, ev_some, Br_f]
              apply stepM
              rw [scanDown] at he2
              rw [← he, hsc, ← he2, if_pos (by omega)] at hq
              have e0 : z.toNat = i' := by omega
              have e1 : y.toNat = 0 := by omega
              simp (disch := omega) only [Br_false, i_gtr, ev_some, Br_t, h0.ix (n := 2) rfl, h0.ldn (n := 2) rfl rfl, Int.toNat_natCast, e1]
              refine h0.swp (n := 2) rfl (i := 0) (by omega) (by omega) fun H4 h4 c4 => ?_
              rw [hy]
              exact hq H4 h4 (c0.trans c4)
            | succ j' jh =>
              intro y hy hj' hij2 he2
              apply stepL
              intro M stepM
              have term2 : scanDown q d0 i' (j' + 1) = j' + 1 → M [v, .int .i64 a, cmp, .int .i64 z, .int .i64 y, .bool false] H0 := by
                intro hsd
                apply stepM
                simp only [Br_false, i_gtr, ev_some]
                rw [← he, hsc, ← he2, hsd] at hq
                have e0 : z.toNat = i' := by omega
                have e1 : y.toNat = j' + 1 := by omega
                by_cases hgt : i' > j' + 1
                · rw [Br_t (by omega)]
                  rw [if_pos hgt] at hq
                  simp (disch := omega) only [ev_some, h0.ix (n := 2) rfl, h0.ldn (n := 2) rfl rfl, Int.toNat_natCast, e1]
                  refine h0.swp (n := 2) rfl (i := (j' + 1)) (by omega) (by omega) fun H4 h4 c4 => ?_
                  rw [hy]
                  exact hq H4 h4 (c0.trans c4)
                · rw [Br_f (by omega)]
                  rw [if_neg hgt] at hq
                  simp (disch := omega) only [ev_some, h0.ix (n := 2) rfl, h0.ldn (n := 2) rfl rfl, e0, e1]
                  refine h0.swp (n := 2) rfl (by omega) (by omega) fun H3 h3 c3 => ?_
                  simp (disch := omega) only [ev_some, i_add, i_sub]
                  intro I stepI
                  have main : ∀ (n i j : Nat) (z y : Int) (H1 : Heap) (d1 : Array Edge), j + 1 - i = n → z = i → y = j → a < i → i ≤ d.size + 1 → j < b → Arr H1 v d1 → d1.size = d.size → Chg (blk v) H H1 →
                      (∀ H', Arr H' v (partRest lt a i j d1).2.2 → Chg (blk v) H H' → Q (.tuple #[.int .i64 (partRest lt a i j d1).1, .bool (partRest lt a i j d1).2.1]) H') → I [v, .int .i64 a, cmp, .int .i64 z, .int .i64 y] H1 := by
                    clear hq
                    intro n
                    induction n using Nat.strongRecOn with
                    | _ n IH =>
                      intro i j z y H1 d1 hn hz hy hai hij hjb h1 hs1 c1 hq
                      apply stepI
                      intro J2 stepJ2
                      rw [partRest_eq] at hq
                      obtain ⟨p, hp⟩ : ∃ p : Edge → Bool, p = fun x => lt x d1[a]! := ⟨_, rfl⟩
                      obtain ⟨q, hqq⟩ : ∃ q : Edge → Bool, q = fun x => !lt x d1[a]! := ⟨_, rfl⟩
                      rw [← hp, ← hqq] at hq
                      have up : ∀ (m i' : Nat) (z : Int), j + 1 - i' = m → z = i' → i ≤ i' → i' ≤ d.size + 1 → scanUp p d1 j i' = scanUp p d1 j i → J2 [v, .int .i64 a, cmp, .int .i64 z, .int .i64 y] H1 := by
                        intro m
                        induction m using Nat.strongRecOn with
                        | _ m mh =>
                          intro i' z hm hz hi' hij' he
                          apply stepJ2
                          intro K stepK
                          have term : scanUp p d1 j i' = i' → K [v, .int .i64 a, cmp, .int .i64 z, .int .i64 y, .bool false] H1 := by
                            intro hsc
                            apply stepK
                            simp only [Br_false]
                            intro L2 stepL2
                            have down : ∀ (j' : Nat) (y : Int), y = j' → j' ≤ j → i' ≤ d.size + 1 → scanDown q d1 i' j' = scanDown q d1 i' j → L2 [v, .int .i64 a, cmp, .int .i64 z, .int .i64 y] H1 := by
                              intro j'
                              induction j' with
                              | zero =>
                                intro y hy hj' hij2 he2
                                apply stepL2
                                intro M stepM
                                simp (disch := omega) only [i_leq, ev_some, Br_f]
                                apply stepM
                                rw [scanDown] at he2
                                rw [← he, hsc, ← he2, if_pos (by omega)] at hq
                                have e0 : z.toNat = i' := by omega
                                have e1 : y.toNat = 0 := by omega
                                simp (disch := omega) only [Br_false, i_gtr, ev_some, Br_t, h1.ix (n := 2) rfl, h1.ldn (n := 2) rfl rfl, Int.toNat_natCast, e1]
                                refine h1.swp (n := 2) rfl (i := 0) (by omega) (by omega) fun H4 h4 c4 => ?_
                                rw [hy]
                                exact hq H4 h4 (c1.trans c4)
                              | succ j' jh =>
                                intro y hy hj' hij2 he2
                                apply stepL2
                                intro M stepM
                                have term2 : scanDown q d1 i' (j' + 1) = j' + 1 → M [v, .int .i64 a, cmp, .int .i64 z, .int .i64 y, .bool false] H1 := by
                                  intro hsd
                                  apply stepM
                                  simp only [Br_false, i_gtr, ev_some]
                                  rw [← he, hsc, ← he2, hsd] at hq
                                  have e0 : z.toNat = i' := by omega
                                  have e1 : y.toNat = j' + 1 := by omega
                                  by_cases hgt : i' > j' + 1
                                  · rw [Br_t (by omega)]
                                    rw [if_pos hgt] at hq
                                    simp (disch := omega) only [ev_some, h1.ix (n := 2) rfl, h1.ldn (n := 2) rfl rfl, Int.toNat_natCast, e1]
                                    refine h1.swp (n := 2) rfl (i := (j' + 1)) (by omega) (by omega) fun H4 h4 c4 => ?_
                                    rw [hy]
                                    exact hq H4 h4 (c1.trans c4)
                                  · rw [Br_f (by omega)]
                                    rw [if_neg hgt] at hq
                                    simp (disch := omega) only [ev_some, h1.ix (n := 2) rfl, h1.ldn (n := 2) rfl rfl, e0, e1]
                                    refine h1.swp (n := 2) rfl (by omega) (by omega) fun H3 h3 c3 => ?_
                                    simp (disch := omega) only [ev_some, i_add, i_sub]
                                    exact IH (j' + 1 - 1 + 1 - (i' + 1)) (by omega) (i' + 1) (j' + 1 - 1) _ _ H3 _ rfl (by omega) (by omega) (by omega) (by omega) (by omega) h3 (by rw [size_swp]; exact hs1) (c1.trans c3) hq
                                simp only [i_leq, ev_some]
                                by_cases hle : i' ≤ j' + 1
                                · rw [Br_t (by omega)]
                                  have e1 : y.toNat = j' + 1 := by omega
                                  simp (disch := omega) only [ev_some, h1.ix (n := 2) rfl, h1.ldn (n := 2) rfl rfl, Int.toNat_natCast, e1]
                                  refine hc _ _ _ _ c1 fun r hr => ?_
                                  simp only [i_lss, ev_some, hr, u_not]
                                  by_cases hl : lt d1[j' + 1]! d1[a]! = true
                                  · rw [hl]
                                    refine term2 ?_
                                    rw [scanDown, if_neg (by simp [hqq, hl])]
                                  · rw [Bool.not_eq_true] at hl; rw [hl]
                                    apply stepM
                                    simp (disch := omega) only [Bool.not_false, Br_true, i_sub, ev_some]
                                    refine jh _ (by omega) (by omega) (by omega) ?_
                                    rw [← he2, scanDown, if_pos (by simp [hqq, hl, hle])]
                                · rw [Br_f (by omega)]
                                  refine term2 ?_
                                  rw [scanDown, if_neg (by simp; omega)]
                            exact down j y hy (Nat.le_refl _) hij' rfl
                          simp only [i_leq, ev_some]
                          by_cases hle : i' ≤ j
                          · rw [Br_t (by omega)]
                            have e0 : z.toNat = i' := by omega
                            simp (disch := omega) only [ev_some, h1.ix (n := 2) rfl, h1.ldn (n := 2) rfl rfl, Int.toNat_natCast, e0]
                            refine hc _ _ _ _ c1 fun r hr => ?_
                            simp only [i_lss, ev_some, hr]
                            by_cases hl : lt d1[i']! d1[a]! = true
                            · rw [hl]
                              apply stepK
                              simp (disch := omega) only [Br_true, i_add, ev_some]
                              refine mh (j + 1 - (i' + 1)) (by omega) (i' + 1) _ rfl (by omega) (by omega) (by omega) ?_
                              rw [← he]; conv => rhs; rw [scanUp, if_pos (by simp [hp, hl, hle])]
                            · rw [Bool.not_eq_true] at hl; rw [hl]
                              refine term ?_
                              rw [scanUp, if_neg (by simp [hp, hl])]
                          · rw [Br_f (by omega)]
                            refine term ?_
                            rw [scanUp, if_neg (by simp; omega)]
                      exact up _ i z rfl hz (Nat.le_refl _) hij rfl
                  
                  exact main _ (i' + 1) (j' + 1 - 1) _ _ H3 _ rfl (by omega) (by omega) (by omega) (by omega) (by omega) h3 (by rw [size_swp]; exact hs0) (c0.trans c3) hq
              simp only [i_leq, ev_some]
              by_cases hle : i' ≤ j' + 1
              · rw [Br_t (by omega)]
                have e1 : y.toNat = j' + 1 := by omega
                simp (disch := omega) only [ev_some, h0.ix (n := 2) rfl, h0.ldn (n := 2) rfl rfl, Int.toNat_natCast, e1]
                refine hc _ _ _ _ c0 fun r hr => ?_
                simp only [i_lss, ev_some, hr, u_not]
                by_cases hl : lt d0[j' + 1]! d0[a]! = true
                · rw [hl]
                  refine term2 ?_
                  rw [scanDown, if_neg (by simp [hqq, hl])]
                · rw [Bool.not_eq_true] at hl; rw [hl]
                  apply stepM
                  simp (disch := omega) only [Bool.not_false, Br_true, i_sub, ev_some]
                  refine jh _ (by omega) (by omega) (by omega) ?_
                  rw [← he2, scanDown, if_pos (by simp [hqq, hl, hle])]
              · rw [Br_f (by omega)]
                refine term2 ?_
                rw [scanDown, if_neg (by simp; omega)]
          exact down j y hy (Nat.le_refl _) hij' rfl
        simp only [i_leq, ev_some]
        by_cases hle : i' ≤ j
        · rw [Br_t (by omega)]
          have e0 : z.toNat = i' := by omega
          simp (disch := omega) only [ev_some, h0.ix (n := 2) rfl, h0.ldn (n := 2) rfl rfl, Int.toNat_natCast, e0]
          refine hc _ _ _ _ c0 fun r hr => ?_
          simp only [i_lss, ev_some, hr]
          by_cases hl : lt d0[i']! d0[a]! = true
          · rw [hl]
            apply stepK
            simp (disch := omega) only [Br_true, i_add, ev_some]
            refine mh (j + 1 - (i' + 1)) (by omega) (i' + 1) _ rfl (by omega) (by omega) (by omega) ?_
            rw [← he]; conv => rhs; rw [scanUp, if_pos (by simp [hp, hl, hle])]
          · rw [Bool.not_eq_true] at hl; rw [hl]
            refine term ?_
            rw [scanUp, if_neg (by simp [hp, hl])]
        · rw [Br_f (by omega)]
          refine term ?_
          rw [scanUp, if_neg (by simp; omega)]
    exact up _ i z rfl hz (Nat.le_refl _) hij rfl
  exact first (a + 1) (b - 1) _ _ (by omega) (by omega) (by omega) (by omega) (by omega) (fun H' a1 a2 => h H' a1 a2)
end
section
variable {lt : Edge → Edge → Bool} {v cmp : Value}
theorem c_pdqN (N : Nat) : ∀ {a b limit : Nat} {d : Array Edge} {H : Heap} {Q : Value → Heap → Prop}, b - a = N → Cmp H (blk v) cmp lt → Arr H v d → b ≤ d.size → d.size ≤ 100000000 → a ≤ b → limit ≤ 1000 →
    (∀ H', Arr H' v (pdq lt d a b limit true true) → Chg (blk v) H H' → Q (.tuple #[]) H') → T PP 182 [v, .int .i64 a, .int .i64 b, .int .i64 limit, cmp] H Q := by
  induction N using Nat.strongRecOn with
  | _ N IHf =>
  intro a b limit d H Q hN hc hd hb hs hab hlim h
  apply T182; unfold sh182
  intro I stepI
  have main : ∀ (n a b limit : Nat) (wb wp : Bool) (za zb zl : Int) (H1 : Heap) (d1 : Array Edge), b - a = n → n ≤ N → za = a → zb = b → zl = limit → a ≤ b → b ≤ d.size → limit ≤ 1000 → Arr H1 v d1 → Chg (blk v) H H1 →
      (∀ H', Arr H' v (pdq lt d1 a b limit wb wp) → Chg (blk v) H H' → Q (.tuple #[]) H') → I [v, .int .i64 za, .int .i64 zb, .int .i64 zl, cmp, .bool wb, .bool wp] H1 := by
    intro n
    induction n using Nat.strongRecOn with
    | _ n IH =>
    intro a b limit wb wp za zb zl H1 d1 hn hnN hza hzb hzl hab hb hlim h1 c1 hq
    subst hza hzb hzl
    have hs1 := hd.size_eq h1
    apply stepI
    simp (disch := omega) only [i_sub, i_leq, i_eql, ev_some]
    by_cases h12 : b - a ≤ 12
    · rw [Br_t (by omega)]
      have hq' : ∀ H', Arr H' v (insertionSort lt d1 a b) → Chg (blk v) H1 H' → Q (.tuple #[]) H' := by
        intro H' a2 c2
        refine hq H' ?_ (c1.trans c2)
        rw [pdq, if_pos h12]; exact a2
      exact c_ins (hc.chg c1) h1 (by omega) (by omega) hq' hab
    · rw [Br_f (by omega)]
      rw [pdq_eq lt d1 a b limit wb wp (by omega) (by omega), if_neg h12] at hq
      by_cases hl0 : limit = 0
      · rw [Br_t (by omega)]
        rw [if_pos hl0] at hq
        exact c_heap (hc.chg c1) h1 (by omega) (by omega) (by omega) fun H' a2 c2 => hq H' a2 (c1.trans c2)
      · rw [Br_f (by omega)]
        rw [if_neg hl0] at hq
        intro K22 step22
        have k22 : ∀ (H2 : Heap) (d2 : Array Edge) (lm : Nat), lm ≤ 1000 → Arr H2 v d2 → Chg (blk v) H H2 → (∀ H', Arr H' v (pdqB lt d2 a b lm wb wp) → Chg (blk v) H H' → Q (.tuple #[]) H') →
            K22 [v, .int .i64 (a : Int), .int .i64 (b : Int), .int .i64 (lm : Int), cmp, .bool wb, .bool wp, .int .i64 ((b : Int) - a)] H2 := by
          intro H2 d2 lm hlm h2 c2 hq
          have hs2 := hd.size_eq h2
          apply step22
          refine c_choose (hc.chg c2) h2 (by omega) (by omega) (by omega) fun H3 s3 => ?_
          have h3 : Arr H3 v d2 := Own.sub h2 s3
          have c3 : Chg (blk v) H H3 := c2.trans (Chg.of_sub _ s3)
          have hcr := choosePivot_holds lt d2 a b (by omega)
          unfold pdqB at hq
          revert hq hcr
          generalize choosePivot lt d2 a b = cc
          obtain ⟨pv, hint⟩ := cc
          intro hq hcr
          simp only at hq hcr
          simp only [extr0, extr1, ev_some]
          intro K36 step36
          have k36 : ∀ (H4 : Heap) (d4 : Array Edge) (pv : Nat) (hint : Hint), a ≤ pv → pv < b → Arr H4 v d4 → Chg (blk v) H H4 → (∀ H', Arr H' v (pdqC lt d4 a b lm wb wp pv hint) → Chg (blk v) H H' → Q (.tuple #[]) H') →
              K36 [v, .int .i64 (a : Int), .int .i64 (b : Int), .int .i64 (lm : Int), cmp, .bool wb, .bool wp, .int .i64 ((b : Int) - a), .int .i64 (pv : Int), .int .i64 (hintV hint)] H4 := by
            intro H4 d4 pv hint hpa hpb h4 c4 hq
            have hs4 := hd.size_eq h4
            apply step36
            intro K48 step48
            have k48 : ∀ (H5 : Heap) (d5 : Array Edge), Arr H5 v d5 → Chg (blk v) H H5 → (∀ H', Arr H' v (pdqD lt d5 a b lm wb wp pv) → Chg (blk v) H H' → Q (.tuple #[]) H') →
                K48 [v, .int .i64 (a : Int), .int .i64 (b : Int), .int .i64 (lm : Int), cmp, .bool wb, .bool wp, .int .i64 ((b : Int) - a), .int .i64 (pv : Int)] H5 := by
              intro H5 d5 h5 c5 hq
              have hs5 := hd.size_eq h5
              apply step48
              intro K59 step59
              unfold pdqD at hq
              have kf : (∀ H', Arr H' v (if (partition lt d5 a b pv).1 - a < b - (partition lt d5 a b pv).1 then
                  pdq lt (pdq lt (partition lt d5 a b pv).2.2 a (partition lt d5 a b pv).1 lm true true) ((partition lt d5 a b pv).1 + 1) b lm (decide ((partition lt d5 a b pv).1 - a ≥ (b - a) / 8)) (partition lt d5 a b pv).2.1
                  else pdq lt (pdq lt (partition lt d5 a b pv).2.2 ((partition lt d5 a b pv).1 + 1) b lm true true) a (partition lt d5 a b pv).1 lm (decide (b - (partition lt d5 a b pv).1 ≥ (b - a) / 8)) (partition lt d5 a b pv).2.1) → Chg (blk v) H H' → Q (.tuple #[]) H') →
                  K59 [v, .int .i64 (a : Int), .int .i64 (b : Int), .int .i64 (lm : Int), cmp, .bool wb, .bool wp, .int .i64 ((b : Int) - a), .int .i64 (pv : Int), .bool false] H5 := by
                intro hq
                apply step59
                simp only [Br_false]
                refine c_part (hc.chg c5) h5 (by omega) (by omega) (by omega) hpa hpb fun H6 h6 c6 => ?_
                have hr := part_range (lt := lt) (d := d5) hpa hpb (by omega)
                revert hr hq h6
                generalize partition lt d5 a b pv = r
                obtain ⟨mid, al, d6⟩ := r
                intro hq h6 hr
                simp only at hr hq h6
                have hs6 := hd.size_eq h6
                simp (disch := omega) only [extr0, extr1, ev_some, i_sub, i_quo, i_lss, i_geq, i_add]
                by_cases hlr : mid - a < b - mid
                · rw [Br_t (by omega)]
                  rw [if_pos hlr] at hq
                  refine IHf (mid - a) (by omega) rfl ((hc.chg (c5.trans c6))) h6 (by omega) (by omega) (by omega) hlm fun H7 h7 c7 => ?_
                  have e1 : (decide (((b : Int) - a) / 8 ≤ (mid : Int) - a)) = decide (mid - a ≥ (b - a) / 8) := by
                    apply decide_eq_decide.2; omega
                  rw [e1]
                  exact IH (b - (mid + 1)) (by omega) (mid + 1) b lm _ _ _ _ _ H7 _ rfl (by omega) (by omega) rfl rfl (by omega) (by omega) hlm h7 ((c5.trans c6).trans c7) hq
                · rw [Br_f (by omega)]
                  rw [if_neg hlr] at hq
                  rw [show ((mid : Int) + 1) = ((mid + 1 : Nat) : Int) by omega]
                  refine IHf (b - (mid + 1)) (by omega) rfl ((hc.chg (c5.trans c6))) h6 (by omega) (by omega) (by omega) hlm fun H7 h7 c7 => ?_
                  have e1 : (decide (((b : Int) - a) / 8 ≤ (b : Int) - mid)) = decide (b - mid ≥ (b - a) / 8) := by
                    apply decide_eq_decide.2; omega
                  rw [e1]
                  exact IH (mid - a) (by omega) a mid lm _ _ _ _ _ H7 _ rfl (by omega) rfl rfl rfl (by omega) (by omega) hlm h7 ((c5.trans c6).trans c7) hq
              simp only [i_gtr, ev_some]
              by_cases ha0 : a > 0
              · rw [Br_t (by omega)]
                have e0 : ((a : Int) - 1).toNat = a - 1 := by omega
                simp (disch := omega) only [i_sub, ev_some, h5.ix (n := 2) rfl, h5.ldn (n := 2) rfl rfl, Int.toNat_natCast, e0]
                refine hc _ _ _ _ c5 fun r hr => ?_
                simp only [i_lss, ev_some, hr, u_not]
                by_cases hl : lt d5[a - 1]! d5[pv]! = true
                · rw [hl]
                  rw [if_neg (by simp [hl])] at hq
                  exact kf hq
                · rw [Bool.not_eq_true] at hl; rw [hl]
                  rw [if_pos (by simp [hl, ha0])] at hq
                  apply step59
                  simp only [Bool.not_false, Br_true]
                  refine c_parteq (hc.chg c5) h5 (by omega) (by omega) (by omega) hpa hpb fun H6 h6 c6 => ?_
                  have hr := parteq_range (lt := lt) (d := d5) hpa hpb (by omega)
                  exact IH (b - (partitionEqual lt d5 a b pv).1) (by omega) _ b lm wb wp _ _ _ H6 _ rfl (by omega) rfl rfl rfl hr.2 hb hlm h6 (c5.trans c6) hq
              · rw [Br_f (by omega)]
                rw [if_neg (by simp [ha0])] at hq
                exact kf hq
            intro K99 step99
            unfold pdqC at hq
            have k99 : ∀ (bb : Bool), bb = (wb && wp && decide (hint = .increasing)) → K99 [v, .int .i64 (a : Int), .int .i64 (b : Int), .int .i64 (lm : Int), cmp, .bool wb, .bool wp, .int .i64 ((b : Int) - a), .int .i64 (pv : Int), .bool bb] H4 := by
              intro bb hbb
              rw [← hbb] at hq
              apply step99
              cases bb with
              | true =>
                simp only [Br_true]
                rw [if_pos rfl] at hq
                refine c_partial (hc.chg c4) h4 (by omega) (by omega) (by omega) fun H5 h5 c5 => ?_
                revert hq h5
                generalize partialInsertionSort lt d4 a b = r
                obtain ⟨d5, done⟩ := r
                intro hq h5
                cases done with
                | true => simp only [Br_true]; exact hq H5 h5 (c4.trans c5)
                | false => simp only [Br_false]; exact k48 H5 _ h5 (c4.trans c5) hq
              | false =>
                simp only [Br_false]
                rw [if_neg (by simp)] at hq
                exact k48 H4 _ h4 c4 hq
            cases wb with
            | true =>
              simp only [Br_true]
              cases wp with
              | true =>
                simp only [Br_true, i_eql, ev_some]
                refine k99 _ ?_
                cases hint <;> simp [hintV]
              | false => simp only [Br_false]; exact k99 _ (by simp)
            | false => simp only [Br_false]; exact k99 _ (by simp)
          simp only [i_eql, ev_some]
          by_cases hdec : hint = .decreasing
          · rw [if_pos hdec] at hq
            rw [Br_t (by rw [hdec]; rfl)]
            refine c_rev h3 (by omega) (by omega) (by omega) fun H4 h4 c4 => ?_
            simp (disch := omega) only [i_sub, ev_some]
            rw [show ((b : Int) - 1 - ((pv : Int) - a)) = ((b - 1 - (pv - a) : Nat) : Int) by omega]
            exact k36 H4 _ _ .increasing (by omega) (by omega) h4 (c3.trans c4) hq
          · rw [if_neg hdec] at hq
            rw [Br_f (by cases hint <;> simp [hintV] at hdec ⊢)]
            exact k36 H3 _ _ hint hcr.1 hcr.2 h3 c3 hq
        simp only [u_not, ev_some]
        cases wb with
        | true =>
          simp only [Bool.not_true, Br_false]
          exact k22 H1 d1 limit hlim h1 c1 hq
        | false =>
          simp only [Bool.not_false, Br_true]
          refine c_brk h1 (by omega) (by omega) (by omega) fun H2 h2 c2 => ?_
          rw [show ((limit : Int) - 1) = ((limit - 1 : Nat) : Int) by omega]
          exact k22 H2 _ (limit - 1) (by omega) h2 (c1.trans c2) hq
  exact main N a b limit true true _ _ _ H d hN (Nat.le_refl _) rfl rfl rfl hab hb hlim hd (Chg.of_sub _ (Sub.refl H)) h
/-- What a sort leaves. -/
theorem c_sort {d : Array Edge} {H : Heap} {Q : Value → Heap → Prop} (hS : SWO lt) (hc : Cmp H (blk v) cmp lt) (hd : Arr H v d) (hs : d.size ≤ 100000000)
    (h : ∀ H' d', Arr H' v d' → Chg (blk v) H H' → d'.toList.Perm d.toList → SortedIn lt 0 d'.size d' → Q (.tuple #[]) H') : T PP 86 [v, cmp] H Q := by
  apply T86; unfold sh86
  obtain ⟨a, c, e⟩ := (Own.slc hd).len
  have hl : lenS v = some (.int .i64 ((d.size : Nat) : Int)) := by rw [(Own.slc hd).lenS]; simp
  rw [hl, ev_some, conv_u _ (by omega), ev_some]
  refine c_len (by omega) ?_
  have hb : bitsLen d.size ≤ 64 := (bitsLen_le_iff _ _).2 (by omega)
  refine c_pdqN d.size (a := 0) (b := d.size) (limit := bitsLen d.size) (by omega) hc hd (Nat.le_refl _) hs (Nat.zero_le _) (by omega) fun H' a2 c2 => ?_
  have := sort_sorts lt hS d
  unfold Sort.sort at this
  have hsz := hd.size_eq a2
  refine h H' _ a2 c2 ?_ ?_
  · have hp := this.1
    have e0 : ∀ x : Array Edge, x.size = d.size → x.extract 0 d.size = x := fun x hx => by rw [← hx]; simp
    have e1 := e0 _ hsz
    have e2 : d.extract 0 d.size = d := by simp
    have h3 := hp.2.2
    rw [e1, e2] at h3; exact h3
  · rw [hsz]; exact this.2
end
end Go.Sl.SE
