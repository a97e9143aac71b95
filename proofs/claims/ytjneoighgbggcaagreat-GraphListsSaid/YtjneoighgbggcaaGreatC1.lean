/- Proved here: what serves each instance of the library's pdqsort. -/
import Derived.Test.YtjneoighgbggcaaGreatC0
import Derived.Test.YtjneoighgbggcaaGreatA2
import Derived.Sort.LotA
import Derived.Sort.LotC
import Derived.Sort.LotD1
import Derived.Sort.AssemblyPlain
namespace Go.Sl
open Go Go.Proofs Go.Sort

/-- What a comparison is asked: it tells 'less', whatever else is written. -/
def Cmp {α : Type} [Enc α] (H : Heap) (bs : List Nat) (f : Value) (lt : α → α → Bool) : Prop :=
  ∀ H' x y K, Chg bs H H' → (∀ r, decide (r < 0) = lt x y → K (.int .i64 r) H') → clW PP f [Enc.val x, Enc.val y] H' K
theorem size_siftDown {α : Type} [Inhabited α] (lt : α → α → Bool) (hi first root : Nat) (d : Array α) : (siftDown lt hi first root d).size = d.size := by
  induction hn : hi - root using Nat.strongRecOn generalizing root d with
  | _ n ih =>
    rw [siftDown]
    split
    · rfl
    · split
      · split
        · rfl
        · split
          · rw [ih _ (by omega) _ _ rfl, size_swp]
          · rfl
      · split
        · rfl
        · rw [ih _ (by omega) _ _ rfl, size_swp]
theorem extr0 (x : Value) (xs : List Value) : extrV 0 (.tuple ⟨x :: xs⟩) = some x := rfl
theorem extr1 (x y : Value) (xs : List Value) : extrV 1 (.tuple ⟨x :: y :: xs⟩) = some y := rfl
theorem extr2 (x y z : Value) (xs : List Value) : extrV 2 (.tuple ⟨x :: y :: z :: xs⟩) = some z := rfl
theorem Cmp.chg {α : Type} [Enc α] {lt : α → α → Bool} {v cmp : Value} {H H1 : Heap} (hc : Cmp H (blk v) cmp lt) (c1 : Chg (blk v) H H1) : Cmp H1 (blk v) cmp lt := fun H' x y K c hk => hc H' x y K (c1.trans c) hk
/-- 'swaps' in its cell. -/
def Cell (H : Heap) (p : Nat) (n : Nat) : Prop := ∃ e, H p = some (.cs [.int .i64 (n : Int)] e)
theorem order2_mem {α : Type} [Inhabited α] (lt : α → α → Bool) (d : Array α) (a b n : Nat) : ((order2 lt d a b n).1 = a ∧ (order2 lt d a b n).2.1 = b ∨ (order2 lt d a b n).1 = b ∧ (order2 lt d a b n).2.1 = a) ∧ (order2 lt d a b n).2.2 ≤ n + 1 := by
  unfold order2; split <;> simp
theorem Cmp.bs {α : Type} [Enc α] {lt : α → α → Bool} {cmp : Value} {H H1 : Heap} {bs : List Nat} (hc : Cmp H bs cmp lt) (c1 : Chg bs H H1) : Cmp H1 bs cmp lt := fun H' x y K c hk => hc H' x y K (c1.trans c) hk
theorem median_mem {α : Type} [Inhabited α] (lt : α → α → Bool) (d : Array α) (a b c n : Nat) : ((median lt d a b c n).1 = a ∨ (median lt d a b c n).1 = b ∨ (median lt d a b c n).1 = c) ∧ (median lt d a b c n).2 ≤ n + 3 := by
  unfold median
  have m1 := order2_mem lt d a b n
  generalize order2 lt d a b n = r1 at *
  obtain ⟨x1, y1, n1⟩ := r1
  have m2 := order2_mem lt d y1 c n1
  dsimp only at *
  generalize order2 lt d y1 c n1 = r2 at *
  obtain ⟨x2, y2, n2⟩ := r2
  have m3 := order2_mem lt d x1 x2 n2
  dsimp only at *
  generalize order2 lt d x1 x2 n2 = r3 at *
  obtain ⟨x3, y3, n3⟩ := r3
  dsimp only at *
  omega
def hintV : Hint → Int | .unknown => 0 | .increasing => 1 | .decreasing => 2
theorem size_shiftDown {α : Type} [Inhabited α] (lt : α → α → Bool) (j : Nat) (d : Array α) : (shiftDown lt j d).size = d.size := by
  induction j generalizing d with
  | zero => rfl
  | succ j ih => rw [shiftDown]; split; rfl; rw [ih, size_swp]
theorem size_shiftUp {α : Type} [Inhabited α] (lt : α → α → Bool) (b j : Nat) (d : Array α) : (shiftUp lt b j d).size = d.size := by
  induction hn : b - j generalizing j d with
  | zero => rw [shiftUp, if_neg (by omega)]
  | succ n ih => rw [shiftUp, if_pos (by omega)]; split; rfl; rw [ih _ _ (by omega), size_swp]
def partRest {α : Type} [Inhabited α] (lt : α → α → Bool) (a i j : Nat) (d : Array α) : Nat × Bool × Array α := ((partLoop lt a i j d).1, false, swp (partLoop lt a i j d).2 (partLoop lt a i j d).1 a)
theorem partRest_eq {α : Type} [Inhabited α] (lt : α → α → Bool) (a i j : Nat) (d : Array α) : partRest lt a i j d =
    if scanUp (fun x => lt x d[a]!) d j i > scanDown (fun x => !lt x d[a]!) d (scanUp (fun x => lt x d[a]!) d j i) j then (scanDown (fun x => !lt x d[a]!) d (scanUp (fun x => lt x d[a]!) d j i) j, false, swp d (scanDown (fun x => !lt x d[a]!) d (scanUp (fun x => lt x d[a]!) d j i) j) a)
    else partRest lt a (scanUp (fun x => lt x d[a]!) d j i + 1) (scanDown (fun x => !lt x d[a]!) d (scanUp (fun x => lt x d[a]!) d j i) j - 1) (swp d (scanUp (fun x => lt x d[a]!) d j i) (scanDown (fun x => !lt x d[a]!) d (scanUp (fun x => lt x d[a]!) d j i) j)) := by
  unfold partRest
  conv => lhs; rw [partLoop_eq]
  split <;> rfl
theorem part_range {α : Type} [Inhabited α] {lt : α → α → Bool} {d : Array α} {a b pv : Nat} (ha : a ≤ pv) (hb : pv < b) (hs : b ≤ d.size) : a ≤ (partition lt d a b pv).1 ∧ (partition lt d a b pv).1 < b := by
  rw [partition_fst]
  have := partLoop_spec (lt := lt) a b _ (a + 1) (b - 1) (swp d a pv) (Nat.le_refl _) (Nat.lt_succ_self a) (by omega) (by omega) (by rw [size_swp]; exact hs) (fun t h1 h2 => by omega) (fun t h1 h2 => by omega)
  exact ⟨this.1, this.2.1⟩
theorem parteq_range {α : Type} [Inhabited α] {lt : α → α → Bool} {d : Array α} {a b pv : Nat} (ha : a ≤ pv) (hb : pv < b) (hs : b ≤ d.size) : a < (partitionEqual lt d a b pv).1 ∧ (partitionEqual lt d a b pv).1 ≤ b := by
  unfold partitionEqual
  have := partEqLoop_spec (lt := lt) a b _ (a + 1) (b - 1) (swp d a pv) (Nat.le_refl _) (Nat.lt_succ_self a) (by omega) (by omega) (by rw [size_swp]; exact hs) (fun t h1 h2 => by omega) (fun t h1 h2 => by omega)
  exact ⟨this.1, this.2.1⟩
/-- pdq's last part: the partitions. -/
def pdqD {α : Type} [Inhabited α] (lt : α → α → Bool) (d : Array α) (a b limit : Nat) (wb wp : Bool) (pv : Nat) : Array α :=
  if a > 0 && !lt d[a - 1]! d[pv]! then pdq lt (partitionEqual lt d a b pv).2 (partitionEqual lt d a b pv).1 b limit wb wp
  else if (partition lt d a b pv).1 - a < b - (partition lt d a b pv).1 then
    pdq lt (pdq lt (partition lt d a b pv).2.2 a (partition lt d a b pv).1 limit true true) ((partition lt d a b pv).1 + 1) b limit (decide ((partition lt d a b pv).1 - a ≥ (b - a) / 8)) (partition lt d a b pv).2.1
  else pdq lt (pdq lt (partition lt d a b pv).2.2 ((partition lt d a b pv).1 + 1) b limit true true) a (partition lt d a b pv).1 limit (decide (b - (partition lt d a b pv).1 ≥ (b - a) / 8)) (partition lt d a b pv).2.1
def pdqC {α : Type} [Inhabited α] (lt : α → α → Bool) (d : Array α) (a b limit : Nat) (wb wp : Bool) (pv : Nat) (hint : Hint) : Array α :=
  if wb && wp && hint = .increasing then
    if (partialInsertionSort lt d a b).2 then (partialInsertionSort lt d a b).1 else pdqD lt (partialInsertionSort lt d a b).1 a b limit wb wp pv
  else pdqD lt d a b limit wb wp pv
def pdqB {α : Type} [Inhabited α] (lt : α → α → Bool) (d : Array α) (a b limit : Nat) (wb wp : Bool) : Array α :=
  if (choosePivot lt d a b).2 = .decreasing then pdqC lt (reverseRange d a b) a b limit wb wp ((b - 1) - ((choosePivot lt d a b).1 - a)) .increasing
  else pdqC lt d a b limit wb wp (choosePivot lt d a b).1 (choosePivot lt d a b).2
theorem size_brk {α : Type} [Inhabited α] (d : Array α) (a b : Nat) : (breakPatterns d a b).size = d.size := by
  unfold breakPatterns; simp only []; split
  · unfold breakStep; simp only [size_swp]
  · rfl
theorem size_revLoop {α : Type} [Inhabited α] (i j : Nat) (d : Array α) : (reverseLoop i j d).size = d.size := by
  induction hn : j - i using Nat.strongRecOn generalizing i j d with
  | _ n ih =>
    rw [reverseLoop]; split
    · rw [ih _ (by omega) _ _ _ rfl, size_swp]
    · rfl
theorem size_rev {α : Type} [Inhabited α] (d : Array α) (a b : Nat) : (reverseRange d a b).size = d.size := size_revLoop _ _ _
theorem size_partial {α : Type} [Inhabited α] (lt : α → α → Bool) (d : Array α) (a b : Nat) : (partialInsertionSort lt d a b).1.size = d.size := by
  unfold partialInsertionSort
  generalize a + 1 = i
  generalize 5 = s
  induction s generalizing i d with
  | zero => rfl
  | succ s ih =>
    rw [partialIns_succ]
    split
    · rfl
    · split
      · rfl
      · rw [ih]; unfold fixUp fixDown; split <;> split <;> simp only [size_shiftUp, size_shiftDown, size_swp]
theorem pdqD_eq {α : Type} [Inhabited α] (lt : α → α → Bool) (d : Array α) (a b limit : Nat) (wb wp : Bool) (pv : Nat) (ha : a ≤ pv) (hb : pv < b) (hs : b ≤ d.size) :
    (if a > 0 && !lt d[a - 1]! d[pv]! then
      match partitionEqual lt d a b pv with
      | (mid, d4) => if _h : a < mid ∧ mid ≤ b then pdq lt d4 mid b limit wb wp else d4
    else
      match partition lt d a b pv with
      | (mid, alreadyPartitioned, d4) =>
        if _h : a ≤ mid ∧ mid < b then
          if mid - a < b - mid then
            pdq lt (pdq lt d4 a mid limit true true) (mid + 1) b limit (decide (mid - a ≥ (b - a) / 8)) alreadyPartitioned
          else
            pdq lt (pdq lt d4 (mid + 1) b limit true true) a mid limit (decide (b - mid ≥ (b - a) / 8)) alreadyPartitioned
        else d4) = pdqD lt d a b limit wb wp pv := by
  unfold pdqD
  have r1 := part_range (lt := lt) ha hb hs
  have r2 := parteq_range (lt := lt) ha hb hs
  split
  · generalize partitionEqual lt d a b pv = x at *
    obtain ⟨m, d4⟩ := x
    simp only at r2 ⊢
    rw [dif_pos r2]
  · generalize partition lt d a b pv = x at *
    obtain ⟨m, al, d4⟩ := x
    simp only at r1 ⊢
    rw [dif_pos r1]
theorem pdq_eq {α : Type} [Inhabited α] (lt : α → α → Bool) (d : Array α) (a b limit : Nat) (wb wp : Bool) (hab : a < b) (hs : b ≤ d.size) : pdq lt d a b limit wb wp =
    if b - a ≤ 12 then insertionSort lt d a b else if limit = 0 then heapSort lt d a b else
      pdqB lt (if !wb then breakPatterns d a b else d) a b (if !wb then limit - 1 else limit) wb wp := by
  rw [pdq]
  by_cases h1 : b - a ≤ 12
  · rw [if_pos h1, if_pos h1]
  · rw [if_neg h1, if_neg h1]
    by_cases h2 : limit = 0
    · rw [if_pos h2, if_pos h2]
    · rw [if_neg h2, if_neg h2]
      have hs1 : b ≤ (if (!wb) = true then breakPatterns d a b else d).size := by split; rw [size_brk]; exact hs; exact hs
      generalize (if (!wb) = true then breakPatterns d a b else d) = d1 at *
      generalize (if (!wb) = true then limit - 1 else limit) = limit1 at *
      unfold pdqB
      have hc := choosePivot_holds lt d1 a b hab
      simp only []
      generalize choosePivot lt d1 a b = c at *
      obtain ⟨pv, hint⟩ := c
      simp only at hc ⊢
      by_cases hd : hint = .decreasing
      · simp only [hd, if_true]
        unfold pdqC
        have hs2 : b ≤ (reverseRange d1 a b).size := by rw [size_rev]; exact hs1
        generalize reverseRange d1 a b = d2 at *
        by_cases hi : (wb && wp) = true
        · have e1 : (wb && wp && decide True) = true := by simpa using hi
          have e2 : (wb && wp && decide (Hint.increasing = Hint.increasing)) = true := by simpa using hi
          rw [e2, if_pos rfl]
          simp only [e1, if_true]
          split
          · rfl
          · exact pdqD_eq lt _ a b limit1 wb wp _ (by omega) (by omega) (by rw [size_partial]; exact hs2)
        · have e1 : (wb && wp && decide True) = false := by simpa using hi
          have e2 : (wb && wp && decide (Hint.increasing = Hint.increasing)) = false := by simpa using hi
          rw [e2]
          simp only [e1, Bool.false_eq_true, if_false]
          exact pdqD_eq lt _ a b limit1 wb wp _ (by omega) (by omega) hs2
      · simp only [hd, if_false]
        unfold pdqC
        by_cases hi : (wb && wp && decide (hint = Hint.increasing)) = true
        · rw [if_pos hi, if_pos hi]
          split
          · rfl
          · exact pdqD_eq lt _ a b limit1 wb wp _ (by omega) (by omega) (by rw [size_partial]; exact hs1)
        · rw [if_neg hi, if_neg hi]
          simp only [Bool.false_eq_true, if_false]
          exact pdqD_eq lt _ a b limit1 wb wp _ (by omega) (by omega) hs1
theorem Arr.size_eq {α : Type} [Enc α] [Inhabited α] {H H' : Heap} {v : Value} {d d' : Array α} (h : Arr H v d) (h' : Arr H' v d') : d'.size = d.size := by
  obtain ⟨a, c, e⟩ := (Own.slc h).len
  obtain ⟨a', c', e'⟩ := (Own.slc h').len
  rw [e] at e'
  simp only [Value.slice.injEq, Array.length_toList] at e'
  exact e'.2.1.symm
/-- .. of an ordered type's own less. -/
def CmpO {α : Type} [Enc α] (P : Program) (f : FuncId) (H : Heap) (bs : List Nat) (lt : α → α → Bool) : Prop :=
  ∀ H' x y K, Chg bs H H' → K (.bool (lt x y)) H' → T P f [Enc.val x, Enc.val y] H' K
theorem CmpO.chg {α : Type} [Enc α] {P : Program} {f : FuncId} {lt : α → α → Bool} {v : Value} {H H1 : Heap} (hc : CmpO P f H (blk v) lt) (c1 : Chg (blk v) H H1) : CmpO P f H1 (blk v) lt := fun H' x y K c hk => hc H' x y K (c1.trans c) hk
theorem CmpO.bs {α : Type} [Enc α] {P : Program} {f : FuncId} {lt : α → α → Bool} {H H1 : Heap} {bs : List Nat} (hc : CmpO P f H bs lt) (c1 : Chg bs H H1) : CmpO P f H1 bs lt := fun H' x y K c hk => hc H' x y K (c1.trans c) hk
end Go.Sl
