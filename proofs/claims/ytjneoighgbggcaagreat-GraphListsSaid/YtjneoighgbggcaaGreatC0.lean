/- Proved here: plain facts of lists in strict order, and words of 64 bits. -/
import Derived.Sort.AssemblyPlain
import Derived.Test.YtjneoighgbggcaaGreatG0
import Derived.Test.YtjneoighgbggcaaGreatG1
import Derived.Test.YtjneoighgbggcaaGreatG2
import Derived.Test.YtjneoighgbggcaaGreatG3
import Derived.Test.YtjneoighgbggcaaGreatA2
import Derived.Sort.LotD1
import Derived.Sort.LotD5
namespace Go.Sl
open Go Go.Sort

section
variable {α : Type} [DecidableEq α]

/-- Neighbours that are alike: once. -/
def dd : List α → List α
  | [] => []
  | [x] => [x]
  | x :: y :: t => if x = y then dd (y :: t) else x :: dd (y :: t)

theorem dd_snoc (l : List α) (a x : α) : dd (l ++ [a] ++ [x]) = if a = x then dd (l ++ [a]) else dd (l ++ [a]) ++ [x] := by
  induction l with
  | nil => by_cases h : a = x <;> simp [dd, h]
  | cons y l ih =>
    cases l with
    | nil =>
      by_cases h1 : y = a <;> by_cases h2 : a = x <;> simp [dd, h1, h2]
    | cons z l =>
      simp only [List.cons_append] at ih ⊢
      simp only [dd]
      rw [ih]
      by_cases h1 : y = z <;> by_cases h2 : a = x <;> simp [h1, h2]
theorem dd_mem (l : List α) (x : α) : x ∈ dd l ↔ x ∈ l := by
  induction l with
  | nil => simp [dd]
  | cons y l ih =>
    cases l with
    | nil => simp [dd]
    | cons z l =>
      simp only [dd]
      by_cases h : y = z
      · subst h; rw [if_pos rfl, ih]; simp
      · rw [if_neg h, List.mem_cons, ih, List.mem_cons (a := x) (b := y)]
theorem dd_len (l : List α) : (dd l).length ≤ l.length := by
  induction l with
  | nil => simp [dd]
  | cons y l ih =>
    cases l with
    | nil => simp [dd]
    | cons z l =>
      simp only [dd]
      by_cases h : y = z
      · rw [if_pos h]; exact Nat.le_succ_of_le ih
      · rw [if_neg h]; simpa using ih

/-- Strict total. -/
structure STO (lt : α → α → Bool) : Prop where
  irrefl : ∀ x, lt x x = false
  trans : ∀ x y z, lt x y = true → lt y z = true → lt x z = true
  tri : ∀ x y, lt x y = false → lt y x = false → x = y

theorem STO.swo {lt : α → α → Bool} (h : STO lt) : SWO lt where
  irrefl := h.irrefl
  trans := h.trans
  ntrans x y z hxy hyz := by
    have _ := (inferInstance : DecidableEq α)
    cases hxz : lt x z with
    | false => rfl
    | true =>
      exfalso
      cases hyx : lt y x with
      | true =>
        have := h.trans _ _ _ hyx hxz
        rw [hyz] at this; cases this
      | false =>
        have := h.tri _ _ hxy hyx
        subst this; rw [hyz] at hxz; cases hxz

abbrev Srt (lt : α → α → Bool) (l : List α) : Prop := l.Pairwise fun x y => lt x y = true

theorem dd_srt {lt : α → α → Bool} (h : STO lt) : ∀ (l : List α), l.Pairwise (fun x y => lt y x = false) → Srt lt (dd l)
  | [], _ => List.Pairwise.nil
  | [x], _ => by simp [dd, Srt]
  | x :: y :: t, hp => by
    have ih := dd_srt h (y :: t) (List.Pairwise.of_cons hp)
    simp only [dd]
    by_cases e : x = y
    · rw [if_pos e]; exact ih
    · rw [if_neg e]
      refine List.Pairwise.cons (fun z hz => ?_) ih
      rw [dd_mem] at hz
      have h1 : lt z x = false := (List.pairwise_cons.1 hp).1 z hz
      cases hxz : lt x z with
      | true => rfl
      | false =>
        exfalso
        have hxz' := h.tri _ _ hxz h1
        subst hxz'
        rcases List.mem_cons.1 hz with e2 | e2
        · exact e e2
        · have h3 : lt x y = false := (List.pairwise_cons.1 (List.Pairwise.of_cons hp)).1 x e2
          have h4 : lt y x = false := (List.pairwise_cons.1 hp).1 y (by simp)
          exact e (h.tri _ _ h3 h4)

theorem srt_uniq {lt : α → α → Bool} (h : STO lt) : ∀ (l m : List α), Srt lt l → Srt lt m → (∀ x, x ∈ l ↔ x ∈ m) → l = m
  | [], [], _, _, _ => rfl
  | [], y :: m, _, _, he => absurd ((he y).2 (by simp)) (by simp)
  | x :: l, [], _, _, he => absurd ((he x).1 (by simp)) (by simp)
  | x :: l, y :: m, hl, hm, he => by
    have _ := (inferInstance : DecidableEq α)
    have hl' := List.pairwise_cons.1 hl
    have hm' := List.pairwise_cons.1 hm
    have exy : x = y := by
      rcases List.mem_cons.1 ((he x).1 (by simp)) with e | e
      · exact e
      · rcases List.mem_cons.1 ((he y).2 (by simp)) with e2 | e2
        · exact e2.symm
        · have a1 := hm'.1 x e
          have a2 := hl'.1 y e2
          have := h.trans _ _ _ a1 a2
          rw [h.irrefl] at this; cases this
    subst exy
    congr 1
    refine srt_uniq h l m hl'.2 hm'.2 fun z => ?_
    have := he z
    simp only [List.mem_cons] at this
    constructor
    · intro hz
      rcases this.1 (.inr hz) with e | e
      · subst e; have := hl'.1 z hz; rw [h.irrefl] at this; cases this
      · exact e
    · intro hz
      rcases this.2 (.inr hz) with e | e
      · subst e; have := hm'.1 z hz; rw [h.irrefl] at this; cases this
      · exact e

/-- Where one stands, or would. -/
def pos (lt : α → α → Bool) (l : List α) (x : α) : Nat := (l.takeWhile fun y => lt y x).length
def ins (lt : α → α → Bool) (l : List α) (x : α) : List α := if l[pos lt l x]? = some x then l else l.take (pos lt l x) ++ x :: l.drop (pos lt l x)
def canon (lt : α → α → Bool) (l : List α) : List α := l.foldl (ins lt) []

theorem ins_cons {lt : α → α → Bool} (y : α) (l : List α) (x : α) : ins lt (y :: l) x = if lt y x = true then y :: ins lt l x else if y = x then y :: l else x :: y :: l := by
  unfold ins pos
  by_cases h : lt y x = true
  · simp only [List.takeWhile_cons, h, if_true, List.length_cons, List.getElem?_cons_succ, List.take_succ_cons, List.drop_succ_cons]
    split <;> simp
  · simp only [List.takeWhile_cons, h, Bool.false_eq_true, if_false, List.length_nil, List.getElem?_cons_zero, Option.some.injEq, List.take_zero, List.drop_zero, List.nil_append]
theorem mem_ins {lt : α → α → Bool} (l : List α) (x z : α) : z ∈ ins lt l x ↔ z ∈ l ∨ z = x := by
  induction l with
  | nil => simp [ins, pos]
  | cons y l ih =>
    rw [ins_cons]
    split
    · simp only [List.mem_cons, ih]; exact or_assoc.symm
    · split
      · rename_i e; subst e; simp only [List.mem_cons]; constructor
        · intro h; exact .inl h
        · rintro (h | rfl)
          · exact h
          · exact .inl rfl
      · simp only [List.mem_cons]; constructor
        · rintro (rfl | h)
          · exact .inr rfl
          · exact .inl h
        · rintro (h | rfl)
          · exact .inr h
          · exact .inl rfl
theorem srt_ins {lt : α → α → Bool} (h : STO lt) {l : List α} (hl : Srt lt l) (x : α) : Srt lt (ins lt l x) := by
  induction l with
  | nil => simp [ins, pos, Srt]
  | cons y l ih =>
    have hl' := List.pairwise_cons.1 hl
    rw [ins_cons]
    split
    · rename_i hyx
      refine List.Pairwise.cons (fun z hz => ?_) (ih hl'.2)
      rcases (mem_ins l x z).1 hz with e | e
      · exact hl'.1 z e
      · rw [e]; exact hyx
    · split
      · exact hl
      · rename_i h1 h2
        rw [Bool.not_eq_true] at h1
        have hxy : lt x y = true := by
          cases hh : lt x y with
          | true => rfl
          | false => exact absurd (h.tri _ _ h1 hh) h2
        refine List.Pairwise.cons (fun z hz => ?_) hl
        rcases List.mem_cons.1 hz with e | e
        · rw [e]; exact hxy
        · exact h.trans _ _ _ hxy (hl'.1 z e)
theorem canon_aux {lt : α → α → Bool} (h : STO lt) : ∀ (l a : List α), Srt lt a → Srt lt (l.foldl (ins lt) a) ∧ ∀ z, z ∈ l.foldl (ins lt) a ↔ z ∈ l ∨ z ∈ a
  | [], a, ha => ⟨ha, fun z => by simp⟩
  | x :: l, a, ha => by
    have := canon_aux h l (ins lt a x) (srt_ins h ha x)
    refine ⟨this.1, fun z => ?_⟩
    rw [List.foldl_cons, this.2, mem_ins, List.mem_cons]
    constructor
    · rintro (e | e | e)
      · exact .inl (.inr e)
      · exact .inr e
      · exact .inl (.inl e)
    · rintro ((e | e) | e)
      · exact .inr (.inr e)
      · exact .inl e
      · exact .inr (.inl e)
theorem canon_srt {lt : α → α → Bool} (h : STO lt) (l : List α) : Srt lt (canon lt l) := (canon_aux h l [] List.Pairwise.nil).1
theorem canon_mem {lt : α → α → Bool} (h : STO lt) (l : List α) (z : α) : z ∈ canon lt l ↔ z ∈ l := by have := (canon_aux h l [] List.Pairwise.nil).2 z; simpa [canon] using this
theorem canon_eq {lt : α → α → Bool} (h : STO lt) {l m : List α} (hm : Srt lt m) (he : ∀ x, x ∈ m ↔ x ∈ l) : canon lt l = m := srt_uniq h _ _ (canon_srt h l) hm fun x => by rw [canon_mem h, he]
theorem ins_len {lt : α → α → Bool} (l : List α) (x : α) : (ins lt l x).length ≤ l.length + 1 := by
  unfold ins; split
  · omega
  · simp only [List.length_append, List.length_take, List.length_cons, List.length_drop]; omega
theorem canon_len {lt : α → α → Bool} (l : List α) : (canon lt l).length ≤ l.length := by
  have : ∀ (l a : List α), (l.foldl (ins lt) a).length ≤ l.length + a.length := by
    intro l
    induction l with
    | nil => simp
    | cons x l ih => intro a; have h1 := ih (ins lt a x); have h2 := ins_len (lt := lt) a x; simp only [List.foldl_cons, List.length_cons]; omega
  simpa [canon] using this l []
end

theorem sorted_pairwise {α : Type} [Inhabited α] {lt : α → α → Bool} {d : Array α} (h : SortedIn lt 0 d.size d) : d.toList.Pairwise (fun x y => lt y x = false) := by
  rw [List.pairwise_iff_getElem]
  intro i j hi hj hij
  have := h i j (Nat.zero_le _) hij (by simpa using hj)
  simp at hi hj
  simpa [hi, hj] using this
end Go.Sl
namespace Go.Sl
open Go Go.Proofs Go.Sort

theorem u_geq (k : IntKind) (a b : Int) : intV .geq (.int k a) (.int k b) = some (.bool (decide (b ≤ a))) := i_geq k a b
theorem u64_xor (a b : Nat) (ha : a < 18446744073709551616) (hb : b < 18446744073709551616) : intV .xor (.int .u64 a) (.int .u64 b) = some (.int .u64 ((a ^^^ b : Nat) : Int)) := by
  have h : a ^^^ b < 2 ^ 64 := Nat.xor_lt_two_pow (by omega) (by omega)
  have e : (BitVec.ofInt 64 (a : Int) ^^^ BitVec.ofInt 64 (b : Int)).toNat = a ^^^ b := by
    rw [BitVec.toNat_xor, BitVec.ofInt_natCast, BitVec.ofInt_natCast, BitVec.toNat_ofNat, BitVec.toNat_ofNat, Nat.mod_eq_of_lt (by omega), Nat.mod_eq_of_lt (by omega)]
  unfold intV; dsimp only; rw [if_pos rfl]
  show some (Value.int .u64 (IntKind.u64.wrap (((BitVec.ofInt 64 (a : Int) ^^^ BitVec.ofInt 64 (b : Int)).toNat : Nat) : Int))) = _
  rw [e]
  have : IntKind.u64.wrap ((a ^^^ b : Nat) : Int) = ((a ^^^ b : Nat) : Int) := IntWalk.u64_in _ (by omega)
  rw [this]
theorem u64_and (a b : Nat) (ha : a < 18446744073709551616) (hb : b < 18446744073709551616) : intV .and (.int .u64 a) (.int .u64 b) = some (.int .u64 ((a &&& b : Nat) : Int)) := by
  have h : a &&& b ≤ a := Nat.and_le_left
  have e : (BitVec.ofInt 64 (a : Int) &&& BitVec.ofInt 64 (b : Int)).toNat = a &&& b := by
    rw [BitVec.toNat_and, BitVec.ofInt_natCast, BitVec.ofInt_natCast, BitVec.toNat_ofNat, BitVec.toNat_ofNat, Nat.mod_eq_of_lt (by omega), Nat.mod_eq_of_lt (by omega)]
  unfold intV; dsimp only; rw [if_pos rfl]
  show some (Value.int .u64 (IntKind.u64.wrap (((BitVec.ofInt 64 (a : Int) &&& BitVec.ofInt 64 (b : Int)).toNat : Nat) : Int))) = _
  rw [e]
  have : IntKind.u64.wrap ((a &&& b : Nat) : Int) = ((a &&& b : Nat) : Int) := IntWalk.u64_in _ (by omega)
  rw [this]
theorem u64_shl (a k : Nat) (hk : k ≤ 64) : shV .shl (.int .u64 a) (.int .u64 k) = some (.int .u64 ((a * 2 ^ k % 18446744073709551616 : Nat) : Int)) := by
  unfold shV; dsimp only
  rw [if_neg (by omega)]
  have hb : IntKind.u64.bits = 64 := rfl
  rw [hb, show min (Int.toNat (k : Int)) 64 = k by omega]
  have : IntKind.u64.wrap ((a : Int) * 2 ^ k) = ((a * 2 ^ k % 18446744073709551616 : Nat) : Int) := by
    have e : ((a : Int) * 2 ^ k) = ((a * 2 ^ k : Nat) : Int) := by push_cast; rfl
    rw [e]; simp [IntKind.wrap]; rfl
  rw [this]
theorem u64_shr (a k : Nat) (hk : k ≤ 64) : shV .shr (.int .u64 a) (.int .u64 k) = some (.int .u64 ((a / 2 ^ k : Nat) : Int)) := by
  unfold shV; dsimp only
  rw [if_neg (by omega)]
  have hb : IntKind.u64.bits = 64 := rfl
  rw [hb, show min (Int.toNat (k : Int)) 64 = k by omega]
  have : (a : Int).fdiv (2 ^ k) = ((a / 2 ^ k : Nat) : Int) := by
    have : (0:Int) ≤ 2 ^ k := by have := Int.pow_nonneg (n := 2) (m := k) (by decide); exact this
    rw [Int.fdiv_eq_ediv_of_nonneg _ this]; push_cast; rfl
  rw [this]
theorem conv_u (n : Nat) (h : n < 18446744073709551616) (k : IntKind) : convV .u64 (.int k n) = some (.int .u64 n) := by
  unfold convV; dsimp only
  have : IntKind.u64.wrap (n : Int) = n := IntWalk.u64_in _ (by omega)
  rw [this]
theorem conv_i (n : Int) (h : -9223372036854775808 ≤ n ∧ n ≤ 9223372036854775807) (k : IntKind) : convV .i64 (.int k n) = some (.int .i64 n) := by
  unfold convV; dsimp only; rw [wrap64 h]
theorem conv_u8 (n : Nat) (h : n < 256) (k : IntKind) : convV .u8 (.int k n) = some (.int .u8 n) := by
  unfold convV; dsimp only
  have : IntKind.u8.wrap (n : Int) = n := IntWalk.u8_in _ (by omega)
  rw [this]

theorem bitsLen_shift (x k : Nat) (h : 2 ^ k ≤ x) : bitsLen (x / 2 ^ k) + k = bitsLen x := by
  have hp : 0 < 2 ^ k := Nat.two_pow_pos k
  have h1 : bitsLen x ≤ bitsLen (x / 2 ^ k) + k := by
    rw [bitsLen_le_iff, Nat.pow_add]
    have := lt_two_pow_bitsLen (x / 2 ^ k)
    rwa [Nat.div_lt_iff_lt_mul hp] at this
  have hk : k ≤ bitsLen x := by
    refine Decidable.byContradiction fun hn => ?_
    have : x < 2 ^ k := Nat.lt_of_lt_of_le (lt_two_pow_bitsLen x) (Nat.pow_le_pow_right (by decide) (by omega))
    omega
  have h2 : bitsLen (x / 2 ^ k) ≤ bitsLen x - k := by
    rw [bitsLen_le_iff, Nat.div_lt_iff_lt_mul hp, ← Nat.pow_add, show bitsLen x - k + k = bitsLen x by omega]
    exact lt_two_pow_bitsLen x
  omega

def lenTab : ByteArray := ⟨((([0, 1, 2, 2, 3, 3, 3, 3, 4, 4, 4, 4, 4, 4, 4, 4, 5, 5, 5, 5, 5, 5, 5, 5, 5, 5, 5, 5, 5, 5, 5, 5, 6, 6, 6, 6, 6, 6, 6, 6, 6, 6, 6, 6, 6, 6, 6, 6, 6, 6, 6, 6, 6, 6, 6, 6, 6, 6, 6, 6, 6, 6, 6, 6] : List UInt8) ++ ([7, 7, 7, 7, 7, 7, 7, 7, 7, 7, 7, 7, 7, 7, 7, 7, 7, 7, 7, 7, 7, 7, 7, 7, 7, 7, 7, 7, 7, 7, 7, 7, 7, 7, 7, 7, 7, 7, 7, 7, 7, 7, 7, 7, 7, 7, 7, 7, 7, 7, 7, 7, 7, 7, 7, 7, 7, 7, 7, 7, 7, 7, 7, 7] : List UInt8)) ++ (([8, 8, 8, 8, 8, 8, 8, 8, 8, 8, 8, 8, 8, 8, 8, 8, 8, 8, 8, 8, 8, 8, 8, 8, 8, 8, 8, 8, 8, 8, 8, 8, 8, 8, 8, 8, 8, 8, 8, 8, 8, 8, 8, 8, 8, 8, 8, 8, 8, 8, 8, 8, 8, 8, 8, 8, 8, 8, 8, 8, 8, 8, 8, 8] : List UInt8) ++ ([8, 8, 8, 8, 8, 8, 8, 8, 8, 8, 8, 8, 8, 8, 8, 8, 8, 8, 8, 8, 8, 8, 8, 8, 8, 8, 8, 8, 8, 8, 8, 8, 8, 8, 8, 8, 8, 8, 8, 8, 8, 8, 8, 8, 8, 8, 8, 8, 8, 8, 8, 8, 8, 8, 8, 8, 8, 8, 8, 8, 8, 8, 8, 8] : List UInt8))).toArray⟩
theorem lenTab_size : lenTab.size = 256 := by decide +kernel
theorem lenTab_tab : ∀ i : _root_.Fin 256, ((lenTab.data.toList[i.1]?).map (·.toNat) = some 0 ∧ i.1 < 1) ∨ ∃ k : _root_.Fin 8, (lenTab.data.toList[i.1]?).map (·.toNat) = some (k.1 + 1) ∧ i.1 < 2 ^ (k.1 + 1) ∧ 2 ^ k.1 ≤ i.1 := by decide +kernel
theorem lenTab_get (i : Nat) (h : i < 256) : ∃ u : UInt8, lenTab[i]? = some u ∧ u.toNat = bitsLen i := by
  have hs : i < lenTab.data.size := Nat.lt_of_lt_of_eq h lenTab_size.symm
  have hs' : i < lenTab.size := hs
  refine ⟨lenTab.data[i], getElem?_pos lenTab i hs', ?_⟩
  have e : (lenTab.data.toList[i]?).map (·.toNat) = some lenTab.data[i].toNat := by rw [Array.getElem?_toList, getElem?_pos lenTab.data i hs]; rfl
  rcases lenTab_tab ⟨i, h⟩ with ⟨h1, h2⟩ | ⟨k, h1, h2, h3⟩
  · rw [e] at h1; simp only [Option.some.injEq] at h1
    have h2' : i < 1 := h2
    have : i = 0 := by omega
    subst this; rw [h1]; rfl
  · rw [e] at h1; simp only [Option.some.injEq] at h1
    rw [h1]
    have a1 := (bitsLen_le_iff i (k.1 + 1)).2 h2
    have h3' : 2 ^ k.1 ≤ i := h3
    have a2 : ¬ bitsLen i ≤ k.1 := by rw [bitsLen_le_iff]; omega
    omega

set_option maxRecDepth 100000 in
theorem c_len64 {H : Heap} {Q : Value → Heap → Prop} {x : Nat} (hx : x < 18446744073709551616) (h : Q (.int .i64 (bitsLen x : Nat)) H) : T PP 302 [.int .u64 (x : Int)] H Q := by
  apply T302; unfold sh302
  intro K2 step2
  have k2 : ∀ (y n : Nat), y < 4294967296 → n ≤ 64 → bitsLen y + n = bitsLen x → K2 [.int .u64 (y : Int), .int .i64 (n : Int)] H := by
    intro y n hy hn he
    apply step2
    intro K6 step6
    have k6 : ∀ (y n : Nat), y < 65536 → n ≤ 96 → bitsLen y + n = bitsLen x → K6 [.int .u64 (y : Int), .int .i64 (n : Int)] H := by
      intro y n hy hn he
      apply step6
      intro K10 step10
      have k10 : ∀ (y n : Nat), y < 256 → n ≤ 128 → bitsLen y + n = bitsLen x → K10 [.int .u64 (y : Int), .int .i64 (n : Int)] H := by
        intro y n hy hn he
        apply step10
        obtain ⟨u, hu, hun⟩ := lenTab_get y hy
        rw [conv_u8 y hy, ev_some]
        have hx2 : ixT (.string lenTab) (.int .u8 (y : Int)) = some (.int .u8 (u.toNat : Int)) := by simp [ixT, hu]
        have hu8 : u.toNat < 256 := u.toNat_lt
        refine ev_iff.2 ⟨_, hx2, ?_⟩
        simp (disch := omega) only [conv_i, i_add, ev_some]
        rw [hun, show ((n : Int) + (bitsLen y : Nat)) = ((bitsLen x : Nat) : Int) by omega]
        exact h
      by_cases hy2 : y < 256
      · simp (disch := omega) only [i_geq, ev_some, Br_f]
        exact k10 y n hy2 (by omega) he
      · simp (disch := omega) only [i_geq, ev_some, Br_t, i_add]
        have e : shV .shr (.int .u64 (y : Int)) (.int .u64 8) = some (.int .u64 ((y / 2 ^ 8 : Nat) : Int)) := u64_shr y 8 (by decide)
        rw [e, ev_some]
        have := bitsLen_shift y 8 (by omega)
        exact k10 (y / 2 ^ 8) (n + 8) (by omega) (by omega) (by omega)
    by_cases hy2 : y < 65536
    · simp (disch := omega) only [i_geq, ev_some, Br_f]
      exact k6 y n hy2 (by omega) he
    · simp (disch := omega) only [i_geq, ev_some, Br_t, i_add]
      have e : shV .shr (.int .u64 (y : Int)) (.int .u64 16) = some (.int .u64 ((y / 2 ^ 16 : Nat) : Int)) := u64_shr y 16 (by decide)
      rw [e, ev_some]
      have := bitsLen_shift y 16 (by omega)
      exact k6 (y / 2 ^ 16) (n + 16) (by omega) (by omega) (by omega)
  by_cases hy2 : x < 4294967296
  · simp (disch := omega) only [i_geq, ev_some, Br_f]
    exact k2 x 0 hy2 (by omega) rfl
  · simp (disch := omega) only [i_geq, ev_some, Br_t]
    have e : shV .shr (.int .u64 (x : Int)) (.int .u64 32) = some (.int .u64 ((x / 2 ^ 32 : Nat) : Int)) := u64_shr x 32 (by decide)
    rw [e, ev_some]
    have := bitsLen_shift x 32 (by omega)
    exact k2 (x / 2 ^ 32) 32 (by omega) (by omega) (by omega)

theorem c_len {H : Heap} {Q : Value → Heap → Prop} {x : Nat} (hx : x < 18446744073709551616) (h : Q (.int .i64 (bitsLen x : Nat)) H) : T PP 183 [.int .u64 (x : Int)] H Q := by
  apply T183; unfold sh183
  exact c_len64 hx h

theorem c_npow {H : Heap} {Q : Value → Heap → Prop} {x : Nat} (hx : x < 1000000000) (h : Q (.int .u64 ((1 <<< bitsLen x : Nat) : Int)) H) : T PP 378 [.int .i64 (x : Int)] H Q := by
  apply T378; unfold sh378
  rw [conv_u x (by omega), ev_some]
  refine c_len (by omega) ?_
  have hb : bitsLen x ≤ 30 := (bitsLen_le_iff _ _).2 (by omega)
  have e : shV .shl (.int .u64 1) (.int .i64 ((bitsLen x : Nat) : Int)) = some (.int .u64 ((1 <<< bitsLen x : Nat) : Int)) := by
    have := u64_shl 1 (bitsLen x) (by omega)
    have hp : 2 ^ bitsLen x ≤ 2 ^ 30 := Nat.pow_le_pow_right (by decide) hb
    rw [Nat.one_mul, Nat.mod_eq_of_lt (by omega)] at this
    rw [Nat.one_shiftLeft, ← this]; rfl
  rw [e, ev_some]; exact h

/-- The generator. -/
theorem c_xnext {H : Heap} {Q : Value → Heap → Prop} {p : Nat} {r : UInt64} {e : TypeId} (hp : H p = some (.cs [.int .u64 (r.toNat : Int)] e))
    (h : ∀ H', H' p = some (.cs [.int .u64 ((xorNext r).toNat : Int)] e) → Chg [p] H H' → Q (.int .u64 ((xorNext r).toNat : Int)) H') : T PP 379 [.pointer (some ⟨p, 0, none⟩)] H Q := by
  apply T379; unfold sh379
  have hr : r.toNat < 18446744073709551616 := r.toNat_lt
  have st : ∀ (H1 : Heap) (a : Nat), Chg [p] H H1 → H1 p = some (.cs [.int .u64 (a : Int)] e) → Sl.ld1 H1 (.pointer (some ⟨p, 0, none⟩)) = some (.int .u64 (a : Int)) := by
    intro H1 a _ h1; simp [Sl.ld1, h1, Blk.rd]
  have so : ∀ (H1 : Heap) (a b : Nat), H1 p = some (.cs [.int .u64 (a : Int)] e) → Sl.sto 1 H1 (.pointer (some ⟨p, 0, none⟩)) (.int .u64 (b : Int)) = some (upd H1 p (.cs [.int .u64 (b : Int)] e)) := by
    intro H1 a b h1; simp [Sl.sto, h1, Value.cells, Sl.flat, Value.oneCell', over]
  simp only [nilV, ev_some]
  have c0 : Chg [p] H H := Chg.of_sub _ (Sub.refl H)
  rw [st H r.toNat c0 hp, ev_some, ev_some, show (Value.int .u64 13) = .int .u64 ((13 : Nat) : Int) from rfl, u64_shl _ 13 (by decide), ev_some, u64_xor _ _ hr (Nat.mod_lt _ (by decide)), ev_some]
  let a := r.toNat ^^^ (r.toNat * 2 ^ 13 % 18446744073709551616)
  have ha : a < 18446744073709551616 := Nat.xor_lt_two_pow (n := 64) (by omega) (by omega)
  rw [so H r.toNat a hp, ev_some]
  have h1 : upd H p (.cs [.int .u64 (a : Int)] e) p = some (.cs [.int .u64 (a : Int)] e) := upd_same _ _ _
  have c1 : Chg [p] H (upd H p (.cs [.int .u64 (a : Int)] e)) := Chg_upd _
  rw [st _ a c1 h1, ev_some, ev_some, show (Value.int .u64 7) = .int .u64 ((7 : Nat) : Int) from rfl, u64_shr _ 7 (by decide), ev_some, u64_xor _ _ ha (by omega), ev_some]
  let b := a ^^^ (a / 2 ^ 7)
  have hb : b < 18446744073709551616 := Nat.xor_lt_two_pow (n := 64) (by omega) (by omega)
  rw [so _ a b h1, ev_some]
  have h2 : upd (upd H p (.cs [.int .u64 (a : Int)] e)) p (.cs [.int .u64 (b : Int)] e) p = some (.cs [.int .u64 (b : Int)] e) := upd_same _ _ _
  have c2 : Chg [p] H (upd (upd H p (.cs [.int .u64 (a : Int)] e)) p (.cs [.int .u64 (b : Int)] e)) := c1.trans (Chg_upd _)
  rw [st _ b c2 h2, ev_some, ev_some, show (Value.int .u64 17) = .int .u64 ((17 : Nat) : Int) from rfl, u64_shl _ 17 (by decide), ev_some, u64_xor _ _ hb (Nat.mod_lt _ (by decide)), ev_some]
  let c := b ^^^ (b * 2 ^ 17 % 18446744073709551616)
  have hc : c = (xorNext r).toNat := by rw [xorNext_toNat]; simp [c, b, a, xorNextN]
  rw [so _ b c h2, ev_some]
  have h3 : upd (upd (upd H p (.cs [.int .u64 (a : Int)] e)) p (.cs [.int .u64 (b : Int)] e)) p (.cs [.int .u64 (c : Int)] e) p = some (.cs [.int .u64 (c : Int)] e) := upd_same _ _ _
  have c3 := c2.trans (Chg_upd (H := upd (upd H p (.cs [.int .u64 (a : Int)] e)) p (.cs [.int .u64 (b : Int)] e)) (b := p) (.cs [.int .u64 (c : Int)] e))
  rw [st _ c c3 h3, ev_some]
  rw [hc] at h3 c3 ⊢
  exact h _ h3 c3
end Go.Sl
namespace Go.Sl
open Go

structure Edge where
  From : Int
  To : Int
  deriving Inhabited, DecidableEq
instance : Enc Edge where
  val e := .agg #[.int .i64 e.From, .int .i64 e.To]
  sz := 2
  ag := true
  size _ := rfl
  pos := by decide
  flat _ := rfl
  agg _ e := ⟨_, rfl⟩
  one h := by cases h
instance : Enc Int where
  val n := .int .i64 n
  sz := 1
  ag := false
  size _ := rfl
  pos := by decide
  flat _ := rfl
  agg h := by cases h
  one _ _ := rfl
end Go.Sl
