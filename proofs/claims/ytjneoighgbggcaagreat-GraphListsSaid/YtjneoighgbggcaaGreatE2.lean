/- Proved here: what the buckets answer. -/
import Derived.Test.YtjneoighgbggcaaGreatE1
namespace Go.Sl
open Go Go.Proofs

theorem u64_rem (a b : Nat) (hb : b ≠ 0) : intV .rem (.int .u64 a) (.int .u64 b) = some (.int .u64 ((a % b : Nat) : Int)) := by
  unfold intV; dsimp only; rw [if_pos rfl, if_neg (by omega)]; rfl
theorem u64_quo (a b : Nat) (hb : b ≠ 0) (ha : a < 18446744073709551616) : intV .quo (.int .u64 a) (.int .u64 b) = some (.int .u64 ((a / b : Nat) : Int)) := by
  unfold intV; dsimp only; rw [if_pos rfl, if_neg (by omega)]
  have : (a : Int).tdiv (b : Int) = ((a / b : Nat) : Int) := rfl
  have h2 : a / b ≤ a := Nat.div_le_self _ _
  rw [this, uwrap, Nat.mod_eq_of_lt (by omega)]
theorem u64_sub (a b : Nat) (hb : b ≤ a) (ha : a < 18446744073709551616) : intV .sub (.int .u64 a) (.int .u64 b) = some (.int .u64 ((a - b : Nat) : Int)) := by
  unfold intV; dsimp only; rw [if_pos rfl]
  have : (a : Int) - (b : Int) = ((a - b : Nat) : Int) := by omega
  rw [this, uwrap, Nat.mod_eq_of_lt (by omega)]

structure Pair where
  key : Nat
  v : Int
  deriving Inhabited, DecidableEq
instance : Enc Pair where
  val e := .agg #[.int .u64 e.key, .int .i64 e.v]
  sz := 2
  ag := true
  size _ := rfl
  pos := by decide
  flat _ := rfl
  agg _ e := ⟨_, rfl⟩
  one h := by cases h
/-- A slice as an element. -/
structure SV where
  a : Option Addr
  len : Nat
  cap : Nat
  deriving Inhabited
instance : Enc SV where
  val e := .slice e.a e.len e.cap
  sz := 1
  ag := false
  size _ := rfl
  pos := by decide
  flat _ := rfl
  agg h := by cases h
  one _ _ := rfl
theorem Own.sv {α : Type} [Enc α] {H : Heap} {v : Value} {l : List α} (h : Own H v l) : ∃ sv : SV, v = Enc.val sv := by
  obtain ⟨a, c, rfl⟩ := h.slc.len; exact ⟨⟨a, _, c⟩, rfl⟩

def pw (n : Nat) : Nat := 2 ^ n.log2
def hstep (k h : Nat) : Nat := (h * 1099511628211 % 18446744073709551616) ^^^ (k % 256)
def rounds (step : Nat → Nat → Nat) : Nat → Nat → Nat → Nat
  | 0, _, h => h
  | n + 1, k, h => rounds step n (k / 256) (step k h)
theorem rounds_zero (step : Nat → Nat → Nat) (k h : Nat) : rounds step 0 k h = h := rfl
theorem rounds_succ (step : Nat → Nat → Nat) (n k h : Nat) : rounds step (n + 1) k h = rounds step n (k / 256) (step k h) := rfl
def hsh (k : Nat) : Nat := rounds hstep 8 k 14695981039346656037
/-- The bucket of a key, of n. -/
def bIx (n k : Nat) : Nat := if hsh k % (2 * pw n) ≥ n then hsh k % (2 * pw n) - pw n else hsh k % (2 * pw n)

theorem pw_pos (n : Nat) : 0 < pw n := Nat.two_pow_pos _
theorem pw_le {n : Nat} (h : n ≠ 0) : pw n ≤ n := Nat.log2_self_le h
theorem lt_pw (n : Nat) : n < 2 * pw n := by
  have := @Nat.lt_log2_self n
  rw [Nat.pow_succ] at this; unfold pw; omega
theorem xor_small {a b : Nat} (ha : a < 18446744073709551616) (hb : b < 256) : a ^^^ b < 18446744073709551616 := by
  have h : a ^^^ b < 2 ^ 64 := Nat.xor_lt_two_pow (by omega) (by omega)
  omega
theorem hstep_lt (k h : Nat) : hstep k h < 18446744073709551616 := by
  unfold hstep
  have h1 : h * 1099511628211 % 18446744073709551616 < 18446744073709551616 := by omega
  have h2 : k % 256 < 256 := by omega
  exact xor_small h1 h2
theorem rounds_lt {step : Nat → Nat → Nat} {U : Nat} (hs : ∀ k h, step k h < U) (n : Nat) : ∀ k h, h < U → rounds step n k h < U := by
  induction n with
  | zero => intro k h hh; exact hh
  | succ n ih => intro k h hh; rw [rounds_succ]; exact ih _ _ (hs _ _)
theorem hsh_lt (k : Nat) : hsh k < 18446744073709551616 := by
  unfold hsh
  exact rounds_lt hstep_lt 8 k 14695981039346656037 (by omega)
theorem bIx_lt {n k : Nat} (h : n ≠ 0) : bIx n k < n := by
  have h1 := pw_pos n
  have h2 := pw_le h
  have h3 := lt_pw n
  have h4 : hsh k % (2 * pw n) < 2 * pw n := Nat.mod_lt _ (by omega)
  unfold bIx; split <;> omega

section
variable {H : Heap} {Q : Value → Heap → Prop}

theorem c_hash {k : Nat} (hk : k < 18446744073709551616) (h : Q (.int .u64 (hsh k : Nat)) H) : T PP 410 [.int .u64 (k : Int)] H Q := by
  apply T410; unfold sh410
  intro I stepI
  have main : ∀ (n : Nat) (k h0 : Nat) (z : Int), z = 8 - n → n ≤ 8 → k < 18446744073709551616 → h0 < 18446744073709551616 → Q (.int .u64 (rounds hstep n k h0 : Nat)) H → I [.int .u64 (k : Int), .int .u64 (h0 : Int), .int .i64 z] H := by
    intro n
    induction n with
    | zero =>
      intro k h0 z hz _ _ _ hq
      rw [rounds_zero] at hq
      apply stepI
      simp only [i_lss, ev_some]
      rw [Br_f (by omega)]; exact hq
    | succ n ih =>
      intro k h0 z hz hn hk hh hq
      rw [rounds_succ] at hq
      have hlt := hstep_lt k h0
      have e0 : ((h0 * 1099511628211 % 18446744073709551616) ^^^ (k % 256)) = hstep k h0 := by unfold hstep; rfl
      have hk2 : k % 256 < 256 := Nat.mod_lt _ (by omega)
      have hm : h0 * 1099511628211 % 18446744073709551616 < 18446744073709551616 := by omega
      apply stepI
      simp only [i_lss, ev_some]
      rw [Br_t (by omega)]
      rw [show (Value.int .u64 1099511628211) = Value.int .u64 ((1099511628211 : Nat) : Int) from rfl, show (Value.int .u64 256) = Value.int .u64 ((256 : Nat) : Int) from rfl, u64_mul, ev_some, u64_rem _ _ (by omega), ev_some]
      rw [u64_xor _ _ hm (by omega), ev_some, u64_quo _ _ (by omega) hk, ev_some, e0]
      simp (disch := omega) only [i_add, ev_some]
      generalize hstep k h0 = s at *
      exact ih _ _ _ (by omega) (by omega) (by omega) hlt hq
  unfold hsh at h
  exact main 8 k 14695981039346656037 0 (by omega) (by omega) hk (by omega) h

theorem c_power {n : Nat} (hn : n ≠ 0) (hb : n ≤ 100000000000) (h : Q (.int .u64 (pw n : Nat)) H) : T PP 262 [.int .i64 (n : Int)] H Q := by
  apply T262; unfold sh262
  intro I stepI
  have hl : n.log2 < 63 := by
    have := Nat.log2_self_le hn
    rcases Nat.lt_or_ge n.log2 63 with h1 | h1
    · exact h1
    · have : 2 ^ 63 ≤ 2 ^ n.log2 := Nat.pow_le_pow_right (by decide) h1
      have e : (2 : Nat) ^ 63 = 9223372036854775808 := by decide
      omega
  have main : ∀ (m j : Nat), n.log2 - j = m → j ≤ n.log2 → I [.int .i64 (n : Int), .int .u64 ((2 ^ j : Nat) : Int)] H := by
    intro m
    induction m using Nat.strongRecOn with
    | _ m ih =>
    intro j hm hj
    apply stepI
    have hj2 : 2 ^ j ≤ 2 ^ n.log2 := Nat.pow_le_pow_right (by decide) hj
    have hself := Nat.log2_self_le hn
    rw [show (Value.int .u64 2) = Value.int .u64 ((2 : Nat) : Int) from rfl, u64_mul, ev_some, conv_u n (by omega), ev_some]
    simp only [i_leq, ev_some]
    rw [Nat.mod_eq_of_lt (by omega)]
    by_cases hle : 2 * 2 ^ j ≤ n
    · rw [Br_t (by omega)]
      rw [u64_mul, ev_some, Nat.mod_eq_of_lt (by omega)]
      have : j + 1 ≤ n.log2 := by
        rw [Nat.le_log2 hn, Nat.pow_succ]; omega
      have e : 2 ^ j * 2 = 2 ^ (j + 1) := by rw [Nat.pow_succ]
      rw [e]
      exact ih _ (by omega) (j + 1) rfl this
    · rw [Br_f (by omega)]
      have : n.log2 < j + 1 := by
        rw [Nat.log2_lt hn, Nat.pow_succ]; omega
      have e : j = n.log2 := by omega
      unfold pw at h; rw [← e] at h; exact h
  exact main _ 0 rfl (Nat.zero_le _)

def tot (bk : List (List Pair)) : Nat := (bk.map List.length).sum
/-- The buckets as they lie: ow tells whose a block is (0: the head's, 1: the row's, 2 + i: bucket i's); c: the count. -/
def BktO (ow : Nat → Nat) (S : Nat → Prop) (H : Heap) (m : Nat) (vl : Value) (rows : List SV) (bk : List (List Pair)) (c : Int) : Prop :=
  S m ∧ ow m = 0 ∧ H m = some (.cs [vl, .int .i64 c] 251) ∧ Own H vl rows ∧ rows.length = bk.length ∧ (∀ b ∈ blk vl, S b ∧ ow b = 1) ∧
    (∀ (i : Nat) (sv : SV) (l : List Pair), rows[i]? = some sv → bk[i]? = some l → Own H (Enc.val sv) l ∧ ∀ b ∈ blk (Enc.val sv), S b ∧ ow b = 2 + i) ∧ ∀ b, S b → H b ≠ none
def Bkt (S : Nat → Prop) (H : Heap) (m : Nat) (bk : List (List Pair)) : Prop := ∃ ow vl rows, BktO ow S H m vl rows bk (tot bk : Nat)

variable {ow : Nat → Nat} {S : Nat → Prop} {m : Nat} {vl : Value} {rows : List SV} {bk : List (List Pair)} {c : Int}

theorem Own.keep {α : Type} [Enc α] {H H' : Heap} {v : Value} {l : List α} (h : Own H v l) (s : ∀ b ∈ blk v, ∀ k, H b = some k → H' b = some k) : Own H' v l := by
  rcases h with h | ⟨b, off, cap, k, e, a1, a2, a3, a4⟩
  · exact .inl h
  · exact .inr ⟨b, off, cap, k, e, a1, a2, s b (by rw [a1]; simp [blk]) _ a3, a4⟩
theorem BktO.keep {H' : Heap} (h : BktO ow S H m vl rows bk c) (s : ∀ b k, S b → H b = some k → H' b = some k) : BktO ow S H' m vl rows bk c := by
  obtain ⟨a1, a2, a3, a4, a5, a6, a7, a8⟩ := h
  refine ⟨a1, a2, s m _ a1 a3, a4.keep fun b hb k hk => s b k (a6 b hb).1 hk, a5, a6, fun i sv l h1 h2 => ?_, fun b hb => ?_⟩
  · obtain ⟨o, f⟩ := a7 i sv l h1 h2
    exact ⟨o.keep fun b hb k hk => s b k (f b hb).1 hk, f⟩
  · cases hh : H b with
    | none => exact absurd hh (a8 b hb)
    | some k => rw [s b k hb hh]; simp
theorem Bkt.keep {H' : Heap} (h : Bkt S H m bk) (s : ∀ b k, S b → H b = some k → H' b = some k) : Bkt S H' m bk := by
  obtain ⟨ow, vl, rows, h⟩ := h; exact ⟨ow, vl, rows, h.keep s⟩

theorem BktO.row (h : BktO ow S H m vl rows bk c) {i : Nat} (hi : i < bk.length) : ∃ sv l, rows[i]? = some sv ∧ bk[i]? = some l ∧ Own H (Enc.val sv) l ∧ ∀ b ∈ blk (Enc.val sv), S b ∧ ow b = 2 + i := by
  obtain ⟨a1, a2, a3, a4, a5, a6, a7, a8⟩ := h
  obtain ⟨sv, hsv⟩ : ∃ sv, rows[i]? = some sv := ⟨rows[i]'(by omega), List.getElem?_eq_getElem (by omega)⟩
  obtain ⟨l, hl⟩ : ∃ l, bk[i]? = some l := ⟨bk[i], List.getElem?_eq_getElem hi⟩
  obtain ⟨o, f⟩ := a7 i sv l hsv hl
  exact ⟨sv, l, hsv, hl, o, f⟩

theorem c_bnew (h : ∀ m S' H', Bkt S' H' m [[], [], [], []] → Sub H H' → (∀ b, S' b → H b = none) → Q (ptr m) H') : T PP 93 [] H Q := by
  apply T93; unfold sh93
  refine ⟨⟨by omega, by omega, by omega, by omega⟩, fun b hb => ?_⟩
  have o1 := own_new (H := H) (b := b) (e := 315) (List.replicate 4 (⟨none, 0, 0⟩ : SV))
  have s1 := Sub.upd_fresh (.cs (enc (List.replicate 4 (⟨none, 0, 0⟩ : SV))) 315) hb
  have kb := upd_same H b (.cs (enc (List.replicate 4 (⟨none, 0, 0⟩ : SV))) 315)
  have hz : zRow (Int.toNat 4) [Value.slice none 0 0] = enc (List.replicate 4 (⟨none, 0, 0⟩ : SV)) := rfl
  rw [hz]
  generalize upd H b (.cs (enc (List.replicate 4 (⟨none, 0, 0⟩ : SV))) 315) = H1 at *
  refine ev_iff.2 ⟨.agg #[.slice (some ⟨b, 0, none⟩) 4 4, .int .i64 0], rfl, fun a ha => ?_⟩
  have hab : a ≠ b := fun e => by subst e; rw [kb] at ha; cases ha
  have haH : H a = none := by
    cases hh : H a with
    | none => rfl
    | some k => rw [s1 a k hh] at ha; cases ha
  have s2 := Sub.upd_fresh (.cs [.slice (some ⟨b, 0, none⟩) 4 4, .int .i64 0] 251) ha
  refine h a (fun x => x = a ∨ x = b) _ ⟨fun x => if x = a then 0 else 1, .slice (some ⟨b, 0, none⟩) 4 4, List.replicate 4 ⟨none, 0, 0⟩, .inl rfl, by simp, upd_same _ _ _, o1.sub s2, rfl, ?_, ?_, ?_⟩ (s1.trans s2) ?_
  · intro x hx; simp [blk] at hx; subst hx; exact ⟨.inr rfl, by simp [Ne.symm hab]⟩
  · intro i sv l h1 h2
    have e1 : sv = ⟨none, 0, 0⟩ := by
      rw [List.getElem?_replicate] at h1; split at h1
      · exact (Option.some.inj h1).symm
      · cases h1
    have e2 : l = [] := by
      match i, h2 with
      | 0, h2 => exact (Option.some.inj h2).symm
      | 1, h2 => exact (Option.some.inj h2).symm
      | 2, h2 => exact (Option.some.inj h2).symm
      | 3, h2 => exact (Option.some.inj h2).symm
      | n + 4, h2 => simp at h2
    subst e1 e2
    exact ⟨Own.nil none, by simp [blk, Enc.val]⟩
  · rintro x (rfl | rfl)
    · rw [upd_same]; simp
    · show upd H1 a (.cs [.slice (some ⟨x, 0, none⟩) 4 4, .int .i64 0] 251) x ≠ none
      rw [s2 x _ kb]; simp
  · rintro x (rfl | rfl)
    · exact haH
    · exact hb

theorem c_bok (h : BktO ow S H m vl rows bk c) (hn : bk ≠ []) (hq : Q (.bool true) H) : T PP 259 [ptr m] H Q := by
  apply T259; unfold sh259
  obtain ⟨a1, a2, a3, a4, a5, a6, a7, a8⟩ := h
  have : 0 < bk.length := List.length_pos_iff.2 hn
  simp only [eqP_nil, notB_t, ev_some, Bool.not_false, Br_true, nilV_p, fldA_p, Nat.zero_add, ld1_cs a3, List.getElem?_cons_zero, a4.slc.lenS, i_gtr]
  rw [show decide ((0 : Int) < rows.length) = true by simp; omega]; exact hq

theorem c_bucket (h : BktO ow S H m vl rows bk c) (hn : bk ≠ []) (hb : bk.length ≤ 100000000) {k : Nat} (hk : k < 18446744073709551616) (hq : Q (.int .i64 (bIx bk.length k : Nat)) H) : T PP 355 [ptr m, .int .u64 (k : Int)] H Q := by
  apply T355; unfold sh355
  have hpos : 0 < bk.length := List.length_pos_iff.2 hn
  refine c_bok h hn ?_
  obtain ⟨a1, a2, a3, a4, a5, a6, a7, a8⟩ := h
  simp only [u_not, Bool.not_true, ev_some, Br_false, nilV_p, fldA_p, Nat.zero_add, ld1_cs a3, List.getElem?_cons_zero, a4.slc.lenS, a5]
  refine c_power (by omega) (by omega) (c_hash hk ?_)
  have h1 := pw_pos bk.length
  have h2 := pw_le (n := bk.length) (by omega)
  have h3 := lt_pw bk.length
  have h4 : hsh k % (2 * pw bk.length) < 2 * pw bk.length := Nat.mod_lt _ (by omega)
  rw [show (Value.int .u64 2) = Value.int .u64 ((2 : Nat) : Int) from rfl, u64_mul, ev_some, Nat.mod_eq_of_lt (by omega), u64_rem _ _ (by omega), ev_some]
  intro K step
  have fin : K [.int .u64 (bIx bk.length k : Nat)] H := by
    apply step
    have := bIx_lt (n := bk.length) (k := k) (by omega)
    rw [conv_i _ (by omega), ev_some]; exact hq
  unfold bIx at fin
  simp only [ld1_cs a3, List.getElem?_cons_zero, ev_some, a4.slc.lenS, a5]
  rw [conv_u _ (by omega), ev_some, i_geq, ev_some]
  by_cases hge : hsh k % (2 * pw bk.length) ≥ bk.length
  · rw [Br_t (by omega), u64_sub _ _ (by omega) (by omega), ev_some]
    rw [if_pos hge] at fin; exact fin
  · rw [Br_f (by omega)]
    rw [if_neg hge] at fin; exact fin

theorem c_bfind (h : BktO ow S H m vl rows bk c) (hn : bk ≠ []) (hb : bk.length ≤ 100000000) {k : Nat} (hk : k < 18446744073709551616) {l : List Pair} (hl : bk[bIx bk.length k]? = some l) (hbl : l.length ≤ 100000000)
    (hq : Q (.tuple #[.int .i64 (bIx bk.length k : Nat), .int .i64 (fix (fun x : Pair => decide (x.key = k)) l)]) H) : T PP 260 [ptr m, .int .u64 (k : Int)] H Q := by
  apply T260; unfold sh260
  have hpos : 0 < bk.length := List.length_pos_iff.2 hn
  intro J step
  refine c_bucket h hn hb hk (c_bok h hn ?_)
  simp only [u_not, Bool.not_true, ev_some, Br_false]
  have hlt := bIx_lt (n := bk.length) (k := k) (by omega)
  obtain ⟨sv, l', hsv, hl', o, f⟩ := h.row hlt
  rw [hl] at hl'; cases hl'
  obtain ⟨a1, a2, a3, a4, a5, a6, a7, a8⟩ := h
  have main : ∀ (n i : Nat) (z : Int), l.length - i = n → z = i → i ≤ l.length → (∀ j a, j < i → l[j]? = some a → a.key ≠ k) → J 0 [ptr m, .int .u64 (k : Int), .int .i64 (bIx bk.length k : Nat), .int .i64 z] H := by
    intro n
    induction n using Nat.strongRecOn with
    | _ n ih =>
    intro i z hn' hz hi hpre
    apply step
    simp (disch := omega) only [nilV_p, fldA_p, Nat.zero_add, ld1_cs a3, List.getElem?_cons_zero, ev_some, a4.slc.ixi (n := 1) rfl, Int.toNat_natCast, a4.slc.rd1 (n := 1) rfl rfl hsv, o.slc.lenS, i_eql]
    by_cases he : i = l.length
    · rw [Br_t (by omega)]
      have : l.findIdx? (fun x : Pair => decide (x.key = k)) = none := by
        rw [List.findIdx?_eq_none_iff]
        intro a ha
        obtain ⟨j, hj⟩ := List.getElem?_of_mem ha
        have := (List.getElem?_eq_some_iff.1 hj).1
        simpa using hpre j a (by omega) hj
      rw [fix_none this] at hq; exact hq
    · rw [Br_f (by omega)]
      have hlt' : i < l.length := by omega
      obtain ⟨a, ha⟩ : ∃ a, l[i]? = some a := ⟨l[i], List.getElem?_eq_getElem hlt'⟩
      have e0 : z.toNat = i := by omega
      simp (disch := omega) only [o.slc.ixi (n := 2) rfl, ev_some, e0, o.slc.fldi (n := 2) rfl hlt', o.slc.ldfi (n := 2) rfl ha (off := 0) (u := .int .u64 (a.key : Int)) rfl, i_neq]
      by_cases hak : a.key = k
      · rw [Br_f (by simp [hak])]
        have : l.findIdx? (fun x : Pair => decide (x.key = k)) = some i := by
          rw [List.findIdx?_eq_some_iff_getElem]
          refine ⟨hlt', ?_, fun j hj => ?_⟩
          · rw [List.getElem?_eq_getElem hlt'] at ha; rw [Option.some.inj ha]; simpa using hak
          · have := hpre j _ hj (List.getElem?_eq_getElem (by omega)); simpa using this
        rw [fix_some this] at hq
        rw [hz]; exact hq
      · rw [Br_t (by simpa using fun e => hak (by omega))]
        simp (disch := omega) only [i_add, ev_some]
        refine ih _ (by omega) (i + 1) _ rfl (by omega) (by omega) fun j b hj hb => ?_
        by_cases e : j = i
        · subst e; rw [ha] at hb; cases hb; exact hak
        · exact hpre j b (by omega) hb
  exact main _ 0 0 rfl rfl (Nat.zero_le _) (fun j a hj => by omega)

/-- What a key stands for. -/
def bGet (bk : List (List Pair)) (k : Nat) : Option Int := (((bk[bIx bk.length k]?).getD []).find? fun x => decide (x.key = k)).map (·.v)

theorem len_le_tot {bk : List (List Pair)} {i : Nat} {l : List Pair} (h : bk[i]? = some l) : l.length ≤ tot bk := by
  unfold tot
  induction bk generalizing i with
  | nil => simp at h
  | cons x bk ih =>
    simp only [List.map_cons, List.sum_cons]
    cases i with
    | zero => simp at h; subst h; omega
    | succ i => have := ih (by simpa using h); omega

theorem c_bget (h : Bkt S H m bk) (hn : bk ≠ []) (hb : bk.length ≤ 100000000) (ht : tot bk ≤ 100000000) {k : Nat} (hk : k < 18446744073709551616)
    (hq : Q (.tuple #[.int .i64 ((bGet bk k).getD 0), .bool (bGet bk k).isSome]) H) : T PP 256 [ptr m, .int .u64 (k : Int)] H Q := by
  apply T256; unfold sh256
  obtain ⟨ow, vl, rows, h⟩ := h
  have hpos : 0 < bk.length := List.length_pos_iff.2 hn
  have hlt := bIx_lt (n := bk.length) (k := k) (by omega)
  obtain ⟨sv, l, hsv, hl, o, f⟩ := h.row hlt
  have hll := len_le_tot hl
  refine c_bfind h hn hb hk hl (by omega) ?_
  obtain ⟨a1, a2, a3, a4, a5, a6, a7, a8⟩ := h
  have x0 : ∀ a b : Value, extrV 0 (.tuple #[a, b]) = some a := fun _ _ => rfl
  have x1 : ∀ a b : Value, extrV 1 (.tuple #[a, b]) = some b := fun _ _ => rfl
  simp only [x0, x1, ev_some, i_lss]
  unfold bGet at hq
  rw [hl] at hq
  simp only [Option.getD_some] at hq
  cases hf : l.findIdx? (fun x : Pair => decide (x.key = k)) with
  | none =>
    rw [find_none hf] at hq
    rw [fix_none hf, Br_t (by omega)]; exact hq
  | some i =>
    obtain ⟨a, ha, hfd, _⟩ := find_idx hf
    rw [hfd] at hq
    have hi := (List.getElem?_eq_some_iff.1 ha).1
    rw [fix_some hf, Br_f (by omega)]
    simp (disch := omega) only [nilV_p, fldA_p, Nat.zero_add, ld1_cs a3, List.getElem?_cons_zero, ev_some, a4.slc.ixi (n := 1) rfl, Int.toNat_natCast, a4.slc.rd1 (n := 1) rfl rfl hsv, o.slc.ixi (n := 2) rfl, o.slc.fldi (n := 2) rfl hi, o.slc.ldfi (n := 2) rfl ha (off := 1) (u := .int .i64 a.v) rfl]
    exact hq
end
end Go.Sl
namespace Go.Sl
open Go Go.Proofs

theorem u315 : PP.underlying 315 = some (.slice 314) := by kernel_rfl
theorem s314 : szT PP 314 = some 2 := by kernel_rfl
theorem b314 : bytT PP 314 = some 16 := by kernel_rfl
theorem z314 : zeT PP 314 = some [.int .u64 0, .int .i64 0] := by kernel_rfl
theorem u249 : PP.underlying 249 = some (.slice 315) := by kernel_rfl
theorem s315 : szT PP 315 = some 1 := by kernel_rfl
theorem b315 : bytT PP 315 = some 24 := by kernel_rfl
theorem z315 : zeT PP 315 = some [.slice none 0 0] := by kernel_rfl

def addAt (bk : List (List Pair)) (x : Pair) : List (List Pair) := bk.set (bIx bk.length x.key) (((bk[bIx bk.length x.key]?).getD []) ++ [x])
theorem addAt_len (bk : List (List Pair)) (x : Pair) : (addAt bk x).length = bk.length := by simp [addAt]
def partGo : List Pair → List (List Pair) → List (List Pair)
  | [], bk => bk
  | x :: l, bk => partGo l (addAt bk x)
def bPart (bk : List (List Pair)) (b : Nat) : List (List Pair) := partGo ((bk[b]?).getD []) (bk.set b [])
/-- A key more. -/
def bPut (bk : List (List Pair)) (x : Pair) : List (List Pair) :=
  if tot (addAt bk x) > 2 * bk.length then bPart (addAt bk x ++ [[]]) (bk.length - pw bk.length) else addAt bk x

theorem tot_set {bk : List (List Pair)} {i : Nat} {l m : List Pair} (h : bk[i]? = some l) : tot (bk.set i m) + l.length = tot bk + m.length := by
  unfold tot
  induction bk generalizing i with
  | nil => simp at h
  | cons y bk ih =>
    cases i with
    | zero => simp at h; subst h; simp; omega
    | succ i => have := ih (i := i) (by simpa using h); simp at this ⊢; omega
theorem tot_addAt {bk : List (List Pair)} (x : Pair) (h : bk ≠ []) : tot (addAt bk x) = tot bk + 1 := by
  have hlt := bIx_lt (n := bk.length) (k := x.key) (fun e => h (List.eq_nil_of_length_eq_zero e))
  have e : bk[bIx bk.length x.key]? = some bk[bIx bk.length x.key] := List.getElem?_eq_getElem hlt
  have := tot_set (m := bk[bIx bk.length x.key] ++ [x]) e
  unfold addAt
  rw [e]; simp at this ⊢; omega

section
variable {H : Heap} {Q : Value → Heap → Prop} {ow : Nat → Nat} {S : Nat → Prop} {m : Nat} {vl : Value} {rows : List SV} {bk : List (List Pair)} {c : Int}

/-- Only what is in S was changed; S' is of it, or new. -/
def Frm (S S' : Nat → Prop) (H H' : Heap) : Prop := (∀ b, S' b → S b ∨ H b = none) ∧ ∀ b kk, H b = some kk → ¬ S b → H' b = some kk
theorem Frm.refl (S : Nat → Prop) (H : Heap) : Frm S S H H := ⟨fun _b hb => .inl hb, fun _b _kk h _ => h⟩
theorem Frm.trans {S S1 S2 : Nat → Prop} {H H1 H2 : Heap} (h : Frm S S1 H H1) (g : Frm S1 S2 H1 H2) : Frm S S2 H H2 := by
  refine ⟨fun b hb => ?_, fun b kk hk hn => g.2 b kk (h.2 b kk hk hn) fun h1 => ?_⟩
  · rcases g.1 b hb with h1 | h1
    · exact h.1 b h1
    · by_cases hs : S b
      · exact .inl hs
      · right
        cases hh : H b with
        | none => rfl
        | some kk => rw [h.2 b kk hh hs] at h1; cases h1
  · rcases h.1 b h1 with h2 | h2
    · exact hn h2
    · rw [hk] at h2; cases h2
theorem Frm.sub {S S' : Nat → Prop} {H H1 H' : Heap} (s : Sub H H1) (_hS : ∀ b, S b → H b ≠ none) (g : Frm S S' H1 H') : Frm S S' H H' := by
  refine ⟨fun b hb => ?_, fun b kk hk hn => g.2 b kk (s b kk hk) hn⟩
  rcases g.1 b hb with h1 | h1
  · exact .inl h1
  · right
    cases hh : H b with
    | none => rfl
    | some kk => rw [s b kk hh] at h1; cases h1

theorem bApp (h : BktO ow S H m vl rows bk c) {k : Nat} {sv : SV} {l : List Pair} (hsv : rows[k]? = some sv) (hl : bk[k]? = some l) (x : Pair) (hlen : l.length ≤ 100000000) {K : Heap → Prop}
    (hK : ∀ ow' S' H' rows', BktO ow' S' H' m vl rows' (bk.set k (l ++ [x])) c → Frm S S' H H' → (∀ b, H b ≠ none → ow' b = ow b) → (∀ b kk, H b = some kk → ow b ≠ 1 → ow b ≠ 2 + k → H' b = some kk ∧ (S b → S' b)) → K H') :
    nsW 314 1 1 (enc [x]) H fun v40 H41 => ev (ld1 H41 (.pointer (some ⟨m, 0, none⟩))) fun v42 => v42 = vl ∧ appW PP 315 315 (Enc.val sv) v40 H41 fun v43 H44 =>
      ev (ld1 H44 (.pointer (some ⟨m, 0, none⟩))) fun v45 => v45 = vl ∧ ev (sto 1 H44 (elt vl 1 k) v43) fun H47 => K H47 := by
  intro q hq
  obtain ⟨a1, a2, a3, a4, a5, a6, a7, a8⟩ := id h
  obtain ⟨o, f⟩ := a7 k sv l hsv hl
  have hk : k < rows.length := (List.getElem?_eq_some_iff.1 hsv).1
  have s1 := Sub.upd_fresh (.cs (enc [x]) 314) hq
  have x1 := own_new (H := H) (b := q) (e := 314) [x]
  generalize upd H q (.cs (enc [x]) 314) = H1 at *
  rw [ld1_cs (s1 m _ a3)]
  refine ⟨rfl, ?_⟩
  refine app_own u315 s314 b314 z314 rfl rfl (by decide) (o.sub s1) x1.slc (by simp; omega) fun v' H2 o2 c2 f2 => ?_
  have mb : ∀ b ∈ blk (Enc.val sv), b ≠ m := fun b hb e => by have := (f b hb).2; rw [e, a2] at this; omega
  have vb : ∀ b ∈ blk vl, b ∉ blk (Enc.val sv) := fun b hb hb2 => by have e1 := (a6 b hb).2; have e2 := (f b hb2).2; omega
  have e3 := c2 m _ (s1 m _ a3) (fun hb => mb m hb rfl)
  have o4 : Own H2 vl rows := (a4.sub s1).chg c2 vb
  rw [ld1_cs e3]
  refine ⟨rfl, ?_⟩
  obtain ⟨sv', hsv'⟩ := o2.sv
  subst hsv'
  refine o4.stl (n := 1) rfl hk sv' fun H3 o5 c5 => ?_
  -- new blocks
  have nb : ∀ b ∈ blk (Enc.val sv'), b ∈ blk (Enc.val sv) ∨ H b = none := fun b hb => by
    rcases f2 b hb with h1 | h1
    · exact .inl h1
    · right
      cases hh : H b with
      | none => rfl
      | some kk => rw [s1 b kk hh] at h1; cases h1
  have kn : ∀ b ∈ blk (Enc.val sv'), H2 b ≠ none := fun b hb => by
    obtain ⟨kk, hkk⟩ := o2.slc.known (by simp) b hb
    rw [hkk]; simp
  have nvl : ∀ b ∈ blk (Enc.val sv'), b ∉ blk vl := fun b hb hb2 => by
    rcases nb b hb with h1 | h1
    · exact vb b hb2 h1
    · exact a8 b (a6 b hb2).1 h1
  have nm : ∀ b ∈ blk (Enc.val sv'), b ≠ m := fun b hb e => by
    rcases nb b hb with h1 | h1
    · exact mb b h1 e
    · rw [e, a3] at h1; cases h1
  have k3 : ∀ b ∈ blk (Enc.val sv'), H3 b ≠ none := fun b hb => by
    cases hh : H2 b with
    | none => exact absurd hh (kn b hb)
    | some kk => rw [c5 b kk hh (nvl b hb)]; simp
  have v3 : ∀ b ∈ blk vl, H3 b ≠ none := fun b hbv => by
    rcases o5 with ⟨e0, _⟩ | ⟨b', off, cap, cc, e', e1, _, e5, _⟩
    · have := congrArg List.length e0; rw [List.length_set, List.length_nil] at this; omega
    · rw [e1] at hbv; simp [blk] at hbv; subst hbv; rw [e5]; simp
  have keep3 : ∀ b kk, H b = some kk → b ∉ blk (Enc.val sv) → b ∉ blk vl → H3 b = some kk := fun b kk h1 h2 h3 => c5 b kk (c2 b kk (s1 b kk h1) h2) h3
  refine hK (fun b => if b ∈ blk (Enc.val sv') then 2 + k else ow b) (fun b => (S b ∨ b ∈ blk (Enc.val sv')) ∧ H3 b ≠ none) H3 (rows.set k sv')
    ⟨⟨.inl a1, ?_⟩, ?_, ?_, o5, by simpa using a5, ?_, ?_, fun b hb => hb.2⟩ ⟨?_, ?_⟩ ?_ ?_
  · rw [keep3 m _ a3 (fun hb => mb m hb rfl) (fun hb => by have := (a6 m hb).2; omega)]; simp
  · dsimp only; rw [if_neg (fun hb => nm m hb rfl)]; exact a2
  · exact keep3 m _ a3 (fun hb => mb m hb rfl) (fun hb => by have := (a6 m hb).2; omega)
  · intro b hb
    refine ⟨⟨.inl (a6 b hb).1, v3 b hb⟩, ?_⟩
    dsimp only; rw [if_neg (fun h2 => nvl b h2 hb)]; exact (a6 b hb).2
  · intro i svi li h1 h2
    by_cases hik : i = k
    · subst hik
      have hkb : i < bk.length := by omega
      rw [List.getElem?_set_self hk] at h1; cases h1
      rw [List.getElem?_set_self hkb] at h2; cases h2
      refine ⟨o2.chg c5 nvl, fun b hb => ⟨⟨.inr hb, k3 b hb⟩, by dsimp only; rw [if_pos hb]⟩⟩
    · rw [List.getElem?_set_ne (Ne.symm hik)] at h1 h2
      obtain ⟨oi, fi⟩ := a7 i svi li h1 h2
      have n1 : ∀ b ∈ blk (Enc.val svi), b ∉ blk (Enc.val sv) := fun b hb hb2 => by have e1 := (fi b hb).2; have e2 := (f b hb2).2; omega
      have n2 : ∀ b ∈ blk (Enc.val svi), b ∉ blk vl := fun b hb hb2 => by have e1 := (fi b hb).2; have e2 := (a6 b hb2).2; omega
      have n3 : ∀ b ∈ blk (Enc.val svi), b ∉ blk (Enc.val sv') := fun b hb hb2 => by
        rcases nb b hb2 with h3 | h3
        · exact n1 b hb h3
        · exact a8 b (fi b hb).1 h3
      refine ⟨((oi.sub s1).chg c2 n1).chg c5 n2, fun b hb => ⟨⟨.inl (fi b hb).1, ?_⟩, by dsimp only; rw [if_neg (n3 b hb)]; exact (fi b hb).2⟩⟩
      cases hh : H b with
      | none => exact absurd hh (a8 b (fi b hb).1)
      | some kk => rw [keep3 b kk hh (n1 b hb) (n2 b hb)]; simp
  · rintro b ⟨h1 | h1, _⟩
    · exact .inl h1
    · rcases nb b h1 with h2 | h2
      · exact .inl (f b h2).1
      · exact .inr h2
  · intro b kk h1 h2
    exact keep3 b kk h1 (fun hb => h2 (f b hb).1) (fun hb => h2 (a6 b hb).1)
  · intro b hb
    by_cases h1 : b ∈ blk (Enc.val sv')
    · rw [if_pos h1]
      rcases nb b h1 with h2 | h2
      · exact (f b h2).2.symm
      · exact absurd h2 hb
    · rw [if_neg h1]
  · intro b kk h1 h2 h3
    have e := keep3 b kk h1 (fun hb => h3 (f b hb).2) (fun hb => h2 (a6 b hb).2)
    exact ⟨e, fun hs => ⟨.inl hs, by rw [e]; simp⟩⟩

theorem bd_pair (x : Pair) : bldL (zRow 1 [.int .u64 0, .int .i64 0]) [(0, 2, Enc.val x)] = some (enc [x]) := rfl

/-- A count is not the buckets' own. -/
theorem tot_addAt' {bk : List (List Pair)} {x : Pair} : (bk ≠ []) → addAt bk x ≠ [] := fun h e => h (by have := congrArg List.length e; rw [addAt_len] at this; exact List.eq_nil_of_length_eq_zero this)

theorem c_part (h : BktO ow S H m vl rows bk c) (hn : bk ≠ []) (hb : bk.length ≤ 100000000) (ht : tot bk ≤ 50000000) (hkeys : ∀ l ∈ bk, ∀ x ∈ l, x.key < 18446744073709551616) {b0 : Nat} (hb0 : b0 < bk.length)
    (hK : ∀ ow' S' H' rows', BktO ow' S' H' m vl rows' (bPart bk b0) c → Frm S S' H H' → Q (.tuple #[]) H') : T PP 261 [ptr m, .int .i64 (b0 : Int)] H Q := by
  apply T261; unfold sh261
  obtain ⟨sv, l, hsv, hl, o, f⟩ := h.row hb0
  obtain ⟨a1, a2, a3, a4, a5, a6, a7, a8⟩ := id h
  have hr0 : b0 < rows.length := by omega
  have mb : ∀ b ∈ blk (Enc.val sv), b ≠ m := fun b hb e => by have := (f b hb).2; rw [e, a2] at this; omega
  have vb : ∀ b ∈ blk vl, b ∉ blk (Enc.val sv) := fun b hb hb2 => by have e1 := (a6 b hb).2; have e2 := (f b hb2).2; omega
  have hmv : m ∉ blk vl := fun hb => by have := (a6 m hb).2; omega
  simp (disch := omega) only [nilV_p, fldA_p, Nat.zero_add, ld1_cs a3, List.getElem?_cons_zero, ev_some, a4.slc.ixi (n := 1) rfl, Int.toNat_natCast, a4.slc.rd1 (n := 1) rfl rfl hsv]
  refine a4.stl (n := 1) rfl hr0 (⟨none, 0, 0⟩ : SV) fun H1 o1 c1 => ?_
  have hll := len_le_tot hl
  have ol : Own H1 (Enc.val sv) l := o.chg c1 fun b hb hb2 => vb b hb2 hb
  have v1 : ∀ b ∈ blk vl, H1 b ≠ none := fun b hbv => by
    rcases o1 with ⟨e0, _⟩ | ⟨b', off, cap, cc, e', e1, _, e5, _⟩
    · have := congrArg List.length e0; rw [List.length_set, List.length_nil] at this; omega
    · rw [e1] at hbv; simp [blk] at hbv; subst hbv; rw [e5]; simp
  -- the buckets without this one; its block is nobody's
  have st1 : BktO (fun b => if b ∈ blk (Enc.val sv) then 2 + bk.length + 7 else ow b) S H1 m vl (rows.set b0 ⟨none, 0, 0⟩) (bk.set b0 []) c := by
    refine ⟨a1, ?_, c1 m _ a3 hmv, o1, by simpa using a5, fun b hb => ⟨(a6 b hb).1, ?_⟩, fun i svi li h1 h2 => ?_, fun b hb => ?_⟩
    · dsimp only; rw [if_neg (fun hb => mb m hb rfl)]; exact a2
    · dsimp only; rw [if_neg (vb b hb)]; exact (a6 b hb).2
    · by_cases hik : i = b0
      · subst hik
        rw [List.getElem?_set_self hr0] at h1; cases h1
        rw [List.getElem?_set_self hb0] at h2; cases h2
        exact ⟨Own.nil none, fun b hb => by simp [blk, Enc.val] at hb⟩
      · rw [List.getElem?_set_ne (Ne.symm hik)] at h1 h2
        obtain ⟨oi, fi⟩ := a7 i svi li h1 h2
        have n1 : ∀ b ∈ blk (Enc.val svi), b ∉ blk (Enc.val sv) := fun b hb hb2 => by have e1 := (fi b hb).2; have e2 := (f b hb2).2; omega
        have n2 : ∀ b ∈ blk (Enc.val svi), b ∉ blk vl := fun b hb hb2 => by have e1 := (fi b hb).2; have e2 := (a6 b hb2).2; omega
        exact ⟨oi.chg c1 n2, fun b hb => ⟨(fi b hb).1, by dsimp only; rw [if_neg (n1 b hb)]; exact (fi b hb).2⟩⟩
    · by_cases hbv : b ∈ blk vl
      · exact v1 b hbv
      · cases hh : H b with
        | none => exact absurd hh (a8 b hb)
        | some kk => rw [c1 b kk hh hbv]; simp
  have fr1 : Frm S S H H1 := ⟨fun b hb => .inl hb, fun b kk h1 h2 => c1 b kk h1 fun hb => h2 (a6 b hb).1⟩
  have es : ∀ b ∈ blk (Enc.val sv), (fun b => if b ∈ blk (Enc.val sv) then 2 + bk.length + 7 else ow b) b = 2 + bk.length + 7 := fun b hb => by dsimp only; rw [if_pos hb]
  have kn1 : l ≠ [] → ∀ b ∈ blk (Enc.val sv), H1 b ≠ none := fun hl0 b hb => by
    obtain ⟨k, hk⟩ := ol.slc.known hl0 b hb; rw [hk]; simp
  have hpart : bPart bk b0 = partGo l (bk.set b0 []) := by unfold bPart; rw [hl]; rfl
  rw [hpart] at hK
  have ht0 : tot (bk.set b0 []) ≤ 50000000 := by have := tot_set (m := []) hl; simp at this; omega
  have hlen0 : (bk.set b0 []).length = bk.length := List.length_set
  have hne0 : bk.set b0 [] ≠ [] := fun e => hn (by have := congrArg List.length e; rw [hlen0] at this; exact List.eq_nil_of_length_eq_zero this)
  have hkl : ∀ x ∈ l, x.key < 18446744073709551616 := hkeys l (List.mem_of_getElem? hl)
  generalize hbk1 : bk.set b0 [] = bk1 at *
  generalize (fun b => if b ∈ blk (Enc.val sv) then 2 + bk.length + 7 else ow b) = ow1 at *
  generalize rows.set b0 ⟨none, 0, 0⟩ = rows1 at *
  simp only [o.slc.lenS, ev_some]
  intro I stepI
  have main : ∀ (n i : Nat) (z : Int) (ow2 : Nat → Nat) (S2 : Nat → Prop) (H2 : Heap) (rows2 : List SV) (bk2 : List (List Pair)), l.length - i = n → z = i → i ≤ l.length →
      BktO ow2 S2 H2 m vl rows2 bk2 c → bk2.length = bk.length → bk2 ≠ [] → tot bk2 ≤ 50000000 + i → Slc H2 (Enc.val sv) l → (l ≠ [] → ∀ b ∈ blk (Enc.val sv), H2 b ≠ none ∧ ow2 b = 2 + bk.length + 7) → Frm S S2 H H2 →
      partGo (l.drop i) bk2 = partGo l bk1 → I [ptr m, Enc.val sv, .int .i64 (l.length : Int), .int .i64 z] H2 := by
    intro n
    induction n using Nat.strongRecOn with
    | _ n ih =>
    intro i z ow2 S2 H2 rows2 bk2 hn2 hz hi st2 hl2 hne2 ht2 sl2 own2 fr2 hp2
    apply stepI
    simp only [i_lss, ev_some]
    by_cases hlt : i < l.length
    · rw [Br_t (by omega)]
      obtain ⟨x, hx⟩ : ∃ x, l[i]? = some x := ⟨l[i], List.getElem?_eq_getElem hlt⟩
      have e0 : z.toNat = i := by omega
      have hl0 : l ≠ [] := fun e => by subst e; simp at hlt
      simp (disch := omega) only [sl2.ixi (n := 2) rfl, ev_some, e0, sl2.rdn (n := 2) rfl rfl hx]
      intro p hp
      have sp : Sl.sto 2 (upd H2 p (.cs [.int .u64 0, .int .i64 0] 314)) (.pointer (some ⟨p, 0, none⟩)) (Enc.val x) = some (upd H2 p (.cs [.int .u64 x.key, .int .i64 x.v] 314)) := by
        simp [Sl.sto, upd_same, Value.cells, Sl.flat, Value.oneCell', over, Enc.val]
      rw [sp, ev_some]
      have s3 := Sub.upd_fresh (.cs [.int .u64 (x.key : Int), .int .i64 x.v] 314) hp
      have p3 := upd_same H2 p (.cs [.int .u64 (x.key : Int), .int .i64 x.v] 314)
      generalize upd H2 p (.cs [.int .u64 (x.key : Int), .int .i64 x.v] 314) = H3 at *
      have st3 := st2.keep fun b k _ hk => s3 b k hk
      have hp0 : ∀ H4, Sub H3 H4 → Sl.ldn 2 H4 (.pointer (some ⟨p, 0, none⟩)) = some (Enc.val x) := fun H4 s => by
        simp [Sl.ldn, s p _ p3, Sl.rdn, Blk.rd, Enc.val]
      simp only [fldA_p, Nat.zero_add, ld1_cs p3, List.getElem?_cons_zero, ev_some]
      refine c_bucket st3 hne2 (by omega) (hkl x (List.mem_of_getElem? hx)) ?_
      have hlt2 := bIx_lt (n := bk2.length) (k := x.key) (by have := List.length_pos_iff.2 hne2; omega)
      obtain ⟨sv2, l2, hsv2, hl2', o2, f2⟩ := st3.row hlt2
      obtain ⟨b1, b2, b3, b4, b5, b6, b7, b8⟩ := id st3
      have hll2 := len_le_tot hl2'
      have hll : l.length ≤ 50000000 := by omega
      simp (disch := omega) only [nilV_p, fldA_p, Nat.zero_add, ld1_cs b3, List.getElem?_cons_zero, ev_some, b4.slc.ixi (n := 1) rfl, Int.toNat_natCast, b4.slc.rd1 (n := 1) rfl rfl hsv2, hp0 H3 (Sub.refl H3), bd_pair]
      refine bApp st3 hsv2 hl2' x (by omega) fun ow4 S4 H4 rows4 st4 fr4 hw4 hk4 => ?_
      simp (disch := omega) only [i_add, ev_some]
      have hadd : bk2.set (bIx bk2.length x.key) (l2 ++ [x]) = addAt bk2 x := by unfold addAt; rw [hl2']; rfl
      rw [hadd] at st4
      have ow3 : l ≠ [] → ∀ b ∈ blk (Enc.val sv), H3 b ≠ none ∧ ow2 b = 2 + bk.length + 7 := fun h0 b hb => by
        obtain ⟨h1, h2⟩ := own2 h0 b hb
        cases hh : H2 b with
        | none => exact absurd hh h1
        | some k => rw [s3 b k hh]; exact ⟨by simp, h2⟩
      have kp : ∀ b ∈ blk (Enc.val sv), ∀ kk, H3 b = some kk → H4 b = some kk := fun b hb kk hk => by
        have := (ow3 hl0 b hb).2
        exact (hk4 b kk hk (by omega) (by omega)).1
      refine ih _ (by omega) (i + 1) _ ow4 S4 H4 rows4 (addAt bk2 x) rfl (by omega) (by omega) st4 (by rw [addAt_len]; exact hl2) (tot_addAt' hne2) (by rw [tot_addAt x hne2]; omega) ((sl2.sub s3).keep fun _ b hb k hk => kp b hb k hk) (fun h0 b hb => ?_) (fr2.trans (Frm.sub s3 st2.2.2.2.2.2.2.2 fr4)) ?_
      · obtain ⟨h1, h2⟩ := ow3 h0 b hb
        cases hh : H3 b with
        | none => exact absurd hh h1
        | some k => rw [kp b hb k hh, hw4 b h1]; exact ⟨by simp, h2⟩
      · rw [← hp2, List.drop_eq_getElem_cons hlt]
        rw [List.getElem?_eq_getElem hlt] at hx; rw [Option.some.inj hx]; rfl
    · rw [Br_f (by omega)]
      rw [List.drop_eq_nil_of_le (by omega)] at hp2
      refine hK ow2 S2 H2 rows2 ?_ fr2
      rw [← hp2]; exact st2
  exact main _ 0 0 ow1 S H1 rows1 bk1 rfl rfl (Nat.zero_le _) st1 hlen0 hne0 (by omega) ol.slc (fun h0 b hb => ⟨kn1 h0 b hb, es b hb⟩) fr1 (by rw [List.drop_zero])
end
end Go.Sl
namespace Go.Sl
open Go Go.Proofs

/-! ### What is in buckets -/
theorem tot_partGo : ∀ (l : List Pair) {bk : List (List Pair)}, bk ≠ [] → tot (partGo l bk) = tot bk + l.length
  | [], bk, _ => rfl
  | x :: l, bk, h => by
    rw [partGo, tot_partGo l (tot_addAt' h), tot_addAt x h, List.length_cons]; omega
theorem tot_part {bk : List (List Pair)} {b : Nat} (h : bk ≠ []) (hb : b < bk.length) : tot (bPart bk b) = tot bk := by
  have e : bk[b]? = some bk[b] := List.getElem?_eq_getElem hb
  unfold bPart
  rw [tot_partGo _ (fun e => h (by have := congrArg List.length e; rw [List.length_set] at this; exact List.eq_nil_of_length_eq_zero this)), e]
  have := tot_set (m := []) e
  simp at this ⊢; omega
theorem partGo_len : ∀ (l : List Pair) (bk : List (List Pair)), (partGo l bk).length = bk.length
  | [], bk => rfl
  | x :: l, bk => by rw [partGo, partGo_len l, addAt_len]

/-- Each pair is where its key goes; no key is there twice. -/
def BInv (bk : List (List Pair)) : Prop :=
  bk ≠ [] ∧ (∀ i l x, bk[i]? = some l → x ∈ l → bIx bk.length x.key = i ∧ x.key < 18446744073709551616) ∧ ∀ l ∈ bk, (l.map (·.key)).Nodup
def InB (bk : List (List Pair)) (x : Pair) : Prop := ∃ l ∈ bk, x ∈ l

theorem inB_at {bk : List (List Pair)} (h : BInv bk) {x : Pair} (hx : InB bk x) : ∃ l, bk[bIx bk.length x.key]? = some l ∧ x ∈ l := by
  obtain ⟨l, hl, hxl⟩ := hx
  obtain ⟨i, hi⟩ := List.getElem?_of_mem hl
  have := (h.2.1 i l x hi hxl).1
  exact ⟨l, by rw [this]; exact hi, hxl⟩
theorem bGet_iff {bk : List (List Pair)} (h : BInv bk) (k : Nat) (v : Int) : bGet bk k = some v ↔ InB bk ⟨k, v⟩ := by
  have hlt := bIx_lt (n := bk.length) (k := k) (fun e => h.1 (List.eq_nil_of_length_eq_zero e))
  have e : bk[bIx bk.length k]? = some bk[bIx bk.length k] := List.getElem?_eq_getElem hlt
  unfold bGet
  rw [e, Option.getD_some, Option.map_eq_some_iff]
  constructor
  · rintro ⟨a, ha, rfl⟩
    have h1 := List.find?_some ha
    have h2 := List.mem_of_find?_eq_some ha
    simp only [decide_eq_true_eq] at h1
    subst h1
    exact ⟨_, List.mem_of_getElem? e, h2⟩
  · intro hx
    obtain ⟨l, hl, hxl⟩ := inB_at h hx
    rw [e] at hl; cases hl
    have hnd := h.2.2 _ (List.mem_of_getElem? e)
    cases hf : bk[bIx bk.length k].find? (fun x => decide (x.key = k)) with
    | none => rw [List.find?_eq_none] at hf; exact absurd (show decide ((⟨k, v⟩ : Pair).key = k) = true by simp) (hf _ hxl)
    | some a =>
      have h1 := List.find?_some hf
      have h2 := List.mem_of_find?_eq_some hf
      simp only [decide_eq_true_eq] at h1
      refine ⟨a, rfl, ?_⟩
      have key : ∀ (l : List Pair), (l.map (·.key)).Nodup → ∀ x ∈ l, ∀ y ∈ l, x.key = y.key → x = y := by
        intro l
        induction l with
        | nil => intro _ x hx; cases hx
        | cons z l ih =>
          intro hn x hx y hy hxy
          simp only [List.map_cons, List.nodup_cons, List.mem_map, not_exists, not_and] at hn
          rcases List.mem_cons.1 hx with h1 | h1 <;> rcases List.mem_cons.1 hy with h2 | h2
          · rw [h1, h2]
          · subst h1; exact absurd hxy.symm (hn.1 y h2)
          · subst h2; exact absurd hxy (hn.1 x h1)
          · exact ih hn.2 x h1 y h2 hxy
      rw [key _ hnd a h2 ⟨k, v⟩ hxl h1]

theorem addAt_in {bk : List (List Pair)} (h : bk ≠ []) (x y : Pair) : InB (addAt bk x) y ↔ InB bk y ∨ y = x := by
  have hlt := bIx_lt (n := bk.length) (k := x.key) (fun e => h (List.eq_nil_of_length_eq_zero e))
  have e : bk[bIx bk.length x.key]? = some bk[bIx bk.length x.key] := List.getElem?_eq_getElem hlt
  unfold addAt InB
  rw [e, Option.getD_some]
  constructor
  · rintro ⟨l, hl, hy⟩
    rcases List.mem_or_eq_of_mem_set hl with h1 | rfl
    · exact .inl ⟨l, h1, hy⟩
    · rcases List.mem_append.1 hy with h2 | h2
      · exact .inl ⟨_, List.mem_of_getElem? e, h2⟩
      · exact .inr (by simpa using h2)
  · rintro (⟨l, hl, hy⟩ | rfl)
    · obtain ⟨i, hi⟩ := List.getElem?_of_mem hl
      by_cases hib : i = bIx bk.length x.key
      · subst hib; rw [e] at hi; cases hi
        exact ⟨_, List.mem_of_getElem? (List.getElem?_set_self hlt), List.mem_append_left _ hy⟩
      · exact ⟨l, List.mem_of_getElem? (i := i) (by rw [List.getElem?_set_ne (Ne.symm hib)]; exact hi), hy⟩
    · exact ⟨_, List.mem_of_getElem? (List.getElem?_set_self hlt), by simp⟩
theorem addAt_inv {bk : List (List Pair)} (h : BInv bk) {x : Pair} (hk : x.key < 18446744073709551616) (hx : ∀ y, InB bk y → y.key ≠ x.key) : BInv (addAt bk x) := by
  have hlt := bIx_lt (n := bk.length) (k := x.key) (fun e => h.1 (List.eq_nil_of_length_eq_zero e))
  have e : bk[bIx bk.length x.key]? = some bk[bIx bk.length x.key] := List.getElem?_eq_getElem hlt
  refine ⟨tot_addAt' h.1, fun i l y hl hy => ?_, fun l hl => ?_⟩
  · rw [addAt_len]
    unfold addAt at hl
    rw [e, Option.getD_some] at hl
    by_cases hib : bIx bk.length x.key = i
    · subst hib
      rw [List.getElem?_set_self hlt] at hl; cases hl
      rcases List.mem_append.1 hy with h1 | h1
      · exact h.2.1 _ _ y e h1
      · simp at h1; subst h1; exact ⟨rfl, hk⟩
    · rw [List.getElem?_set_ne hib] at hl
      exact h.2.1 i l y hl hy
  · unfold addAt at hl
    rw [e, Option.getD_some] at hl
    rcases List.mem_or_eq_of_mem_set hl with h1 | rfl
    · exact h.2.2 l h1
    · have h1 := List.mem_of_getElem? e
      rw [List.map_append, List.nodup_append]
      refine ⟨h.2.2 _ h1, by simp, fun a ha b hb => ?_⟩
      obtain ⟨y, hy, rfl⟩ := List.mem_map.1 ha
      simp at hb; subst hb
      exact hx y ⟨_, h1, hy⟩
theorem partGo_spec : ∀ (l : List Pair) (bk : List (List Pair)), BInv bk → (∀ x ∈ l, x.key < 18446744073709551616) → (l.map (·.key)).Nodup → (∀ x ∈ l, ∀ y, InB bk y → y.key ≠ x.key) → BInv (partGo l bk) ∧ ∀ y, InB (partGo l bk) y ↔ InB bk y ∨ y ∈ l
  | [], bk, h, _, _, _ => ⟨h, fun y => by simp [partGo]⟩
  | x :: l, bk, h, hk, hn, hd => by
    simp only [List.map_cons, List.nodup_cons, List.mem_map, not_exists, not_and] at hn
    have h1 := addAt_inv h (hk x (by simp)) (hd x (by simp))
    obtain ⟨a, b⟩ := partGo_spec l (addAt bk x) h1 (fun y hy => hk y (by simp [hy])) hn.2 (fun y hy z hz => by
      rcases (addAt_in h.1 x z).1 hz with h2 | rfl
      · exact hd y (by simp [hy]) z h2
      · exact fun e => hn.1 y hy e.symm)
    refine ⟨a, fun y => ?_⟩
    rw [partGo, b y, addAt_in h.1, List.mem_cons, or_assoc]

theorem pw_eq {n j : Nat} (h1 : 2 ^ j ≤ n) (h2 : n < 2 ^ (j + 1)) : pw n = 2 ^ j := by
  have hn : n ≠ 0 := by have := Nat.two_pow_pos j; omega
  unfold pw
  rw [(Nat.log2_eq_iff hn).2 ⟨h1, h2⟩]
theorem bIx_succ {n k : Nat} (hn : n ≠ 0) (h : bIx n k ≠ n - pw n) : bIx (n + 1) k = bIx n k := by
  have p1 := pw_pos n
  have p2 := pw_le hn
  have p3 := lt_pw n
  have hp : pw n = 2 ^ n.log2 := rfl
  have h4 : hsh k % (2 * pw n) < 2 * pw n := Nat.mod_lt _ (by omega)
  by_cases hc : n + 1 < 2 * pw n
  · have e : pw (n + 1) = pw n := by
      rw [hp]; refine pw_eq (by omega) ?_
      rw [Nat.pow_succ]; omega
    unfold bIx at *
    rw [e]
    generalize hsh k % (2 * pw n) = r at *
    by_cases q1 : r ≥ n <;> by_cases q2 : r ≥ n + 1 <;> simp only [q1, q2, if_true, if_false] at h ⊢ <;> omega
  · have e : pw (n + 1) = 2 * pw n := by
      have : pw (n + 1) = 2 ^ (n.log2 + 1) := by
        refine pw_eq ?_ ?_
        · rw [Nat.pow_succ]; omega
        · rw [Nat.pow_succ, Nat.pow_succ]; omega
      rw [this, Nat.pow_succ, hp]; omega
    have hmod : hsh k % (2 * (2 * pw n)) % (2 * pw n) = hsh k % (2 * pw n) := Nat.mod_mod_of_dvd _ ⟨2, by omega⟩
    have h5 : hsh k % (2 * (2 * pw n)) < 2 * (2 * pw n) := Nat.mod_lt _ (by omega)
    have hdiv : hsh k % (2 * (2 * pw n)) = hsh k % (2 * pw n) ∨ hsh k % (2 * (2 * pw n)) = hsh k % (2 * pw n) + 2 * pw n := by
      rcases Nat.lt_or_ge (hsh k % (2 * (2 * pw n))) (2 * pw n) with h6 | h6
      · left; rw [Nat.mod_eq_of_lt h6] at hmod; exact hmod
      · right
        rw [Nat.mod_eq_sub_mod h6, Nat.mod_eq_of_lt (by omega)] at hmod; omega
    unfold bIx at *
    rw [e]
    generalize hsh k % (2 * pw n) = r at *
    generalize hsh k % (2 * (2 * pw n)) = r' at *
    by_cases q1 : r ≥ n <;> by_cases q2 : r' ≥ n + 1 <;> simp only [q1, q2, if_true, if_false] at h ⊢ <;> omega

theorem bPut_spec {bk : List (List Pair)} (h : BInv bk) {x : Pair} (hk : x.key < 18446744073709551616) (hx : bGet bk x.key = none) :
    BInv (bPut bk x) ∧ (∀ k, bGet (bPut bk x) k = if k = x.key then some x.v else bGet bk k) ∧ tot (bPut bk x) = tot bk + 1 ∧ (bPut bk x).length ≤ bk.length + 1 := by
  have hpos : 0 < bk.length := List.length_pos_iff.2 h.1
  have hnew : ∀ y, InB bk y → y.key ≠ x.key := fun y hy e => by
    obtain ⟨yk, yv⟩ := y
    simp only at e; subst e
    rw [(bGet_iff h _ _).2 hy] at hx; cases hx
  have h1 := addAt_inv h hk hnew
  have hp2 := pw_le (n := bk.length) (by omega)
  have hp1 := pw_pos bk.length
  have key : BInv (bPut bk x) ∧ ∀ y, InB (bPut bk x) y ↔ InB bk y ∨ y = x := by
    unfold bPut
    split
    · have hlen : (addAt bk x ++ [[]]).length = bk.length + 1 := by rw [List.length_append, addAt_len]; rfl
      have hb0 : bk.length - pw bk.length < bk.length := by omega
      have e0 : (addAt bk x ++ [[]])[bk.length - pw bk.length]? = (addAt bk x)[bk.length - pw bk.length]? := List.getElem?_append_left (by rw [addAt_len]; omega)
      obtain ⟨l, hl⟩ : ∃ l, (addAt bk x)[bk.length - pw bk.length]? = some l := ⟨_, List.getElem?_eq_getElem (by rw [addAt_len]; omega)⟩
      have hset : ∀ i l', ((addAt bk x ++ [[]]).set (bk.length - pw bk.length) [])[i]? = some l' → l' ≠ [] → i ≠ bk.length - pw bk.length ∧ (addAt bk x)[i]? = some l' := by
        intro i l' hi hne
        by_cases e : i = bk.length - pw bk.length
        · subst e; rw [List.getElem?_set_self (by omega)] at hi; exact absurd (Option.some.inj hi).symm hne
        · refine ⟨e, ?_⟩
          rw [List.getElem?_set_ne (Ne.symm e)] at hi
          by_cases h2 : i < (addAt bk x).length
          · rw [List.getElem?_append_left h2] at hi; exact hi
          · rw [List.getElem?_append_right (by omega)] at hi
            cases hk : i - (addAt bk x).length with
            | zero => rw [hk] at hi; exact absurd (Option.some.inj hi).symm hne
            | succ j => rw [hk] at hi; simp at hi
      have inv0 : BInv ((addAt bk x ++ [[]]).set (bk.length - pw bk.length) []) := by
        refine ⟨fun e => by have := congrArg List.length e; rw [List.length_set, hlen] at this; simp at this, fun i l' y hi hy => ?_, fun l' hl' => ?_⟩
        · obtain ⟨a, b⟩ := hset i l' hi (fun e => by subst e; cases hy)
          have := h1.2.1 i l' y b hy
          rw [addAt_len] at this
          rw [List.length_set, hlen]
          exact ⟨by rw [bIx_succ (by omega) (by rw [this.1]; exact a)]; exact this.1, this.2⟩
        · by_cases e : l' = []
          · subst e; exact List.nodup_nil
          · obtain ⟨i, hi⟩ := List.getElem?_of_mem hl'
            exact h1.2.2 l' (List.mem_of_getElem? (hset i l' hi e).2)
      have in0 : ∀ y, InB ((addAt bk x ++ [[]]).set (bk.length - pw bk.length) []) y ↔ InB (addAt bk x) y ∧ y ∉ l := by
        intro y
        constructor
        · rintro ⟨l', hl', hy⟩
          obtain ⟨i, hi⟩ := List.getElem?_of_mem hl'
          obtain ⟨a, b⟩ := hset i l' hi (fun e => by subst e; cases hy)
          refine ⟨⟨l', List.mem_of_getElem? b, hy⟩, fun hyl => ?_⟩
          have e1 := (h1.2.1 _ _ y b hy).1
          have e2 := (h1.2.1 _ _ y hl hyl).1
          omega
        · rintro ⟨⟨l', hl', hy⟩, hyl⟩
          obtain ⟨i, hi⟩ := List.getElem?_of_mem hl'
          have hi' := (List.getElem?_eq_some_iff.1 hi).1
          refine ⟨l', List.mem_of_getElem? (i := i) ?_, hy⟩
          rw [List.getElem?_set_ne (fun e => by subst e; rw [hl] at hi; cases hi; exact hyl hy), List.getElem?_append_left hi']; exact hi
      unfold bPart
      rw [e0, hl, Option.getD_some]
      have hml := List.mem_of_getElem? hl
      obtain ⟨a, b⟩ := partGo_spec l _ inv0 (fun y hy => (h1.2.1 _ _ y hl hy).2) (h1.2.2 l hml) (fun y hy z hz e => by
        obtain ⟨c1, c2⟩ := (in0 z).1 hz
        obtain ⟨l'', hl'', hzl⟩ := inB_at h1 c1
        rw [e] at hl''
        rw [(h1.2.1 _ _ y hl hy).1, hl] at hl''
        cases hl''; exact c2 hzl)
      refine ⟨a, fun y => ?_⟩
      rw [b y, in0 y, ← addAt_in h.1 x y]
      constructor
      · rintro (⟨h2, _⟩ | h2)
        · exact h2
        · exact ⟨l, hml, h2⟩
      · intro h2
        by_cases h3 : y ∈ l
        · exact .inr h3
        · exact .inl ⟨h2, h3⟩
    · exact ⟨h1, addAt_in h.1 x⟩
  refine ⟨key.1, fun k => ?_, ?_, ?_⟩
  · apply Option.ext
    intro v
    rw [bGet_iff key.1, key.2]
    by_cases e : k = x.key
    · subst e
      rw [if_pos rfl]
      constructor
      · rintro (h2 | h2)
        · exact absurd rfl (hnew ⟨x.key, v⟩ h2)
        · have := congrArg Pair.v h2; simp at this; rw [this]
      · intro h2; right; obtain ⟨a, b⟩ := x; simp at h2 ⊢; exact h2.symm
    · rw [if_neg e, bGet_iff h]
      constructor
      · rintro (h2 | h2)
        · exact h2
        · exact absurd (congrArg Pair.key h2) e
      · exact .inl
  · unfold bPut
    split
    · rw [tot_part (by simp) (by rw [List.length_append, addAt_len]; simp; omega), ← tot_addAt x h.1]; unfold tot; simp
    · exact tot_addAt x h.1
  · unfold bPut
    split
    · unfold bPart; rw [partGo_len, List.length_set, List.length_append, addAt_len]; simp
    · rw [addAt_len]; omega

section
variable {H : Heap} {Q : Value → Heap → Prop} {ow : Nat → Nat} {S : Nat → Prop} {m : Nat} {vl : Value} {rows : List SV} {bk : List (List Pair)} {c : Int}

theorem BktO.cnt (h : BktO ow S H m vl rows bk c) (c' : Int) : BktO ow S (upd H m (.cs [vl, .int .i64 c'] 251)) m vl rows bk c' := by
  obtain ⟨a1, a2, a3, a4, a5, a6, a7, a8⟩ := h
  refine ⟨a1, a2, upd_same _ _ _, a4.keep fun b hb k hk => ?_, a5, a6, fun i sv l h1 h2 => ?_, fun b hb => ?_⟩
  · rw [upd_ne (fun e => by have := (a6 b hb).2; rw [e, a2] at this; omega)]; exact hk
  · obtain ⟨o, f⟩ := a7 i sv l h1 h2
    exact ⟨o.keep fun b hb k hk => by rw [upd_ne (fun e => by have := (f b hb).2; rw [e, a2] at this; omega)]; exact hk, f⟩
  · by_cases e : b = m
    · subst e; rw [upd_same]; simp
    · rw [upd_ne e]; exact a8 b hb
theorem Frm.upd {S : Nat → Prop} {H : Heap} {m : Nat} (hm : S m) (k : Blk) : Frm S S H (upd H m k) := ⟨fun b hb => .inl hb, fun b kk h1 h2 => by rw [upd_ne (fun e => h2 (by rw [e]; exact hm))]; exact h1⟩

/-- One more bucket. -/
theorem BktO.grow (h : BktO ow S H m vl rows bk c) {H1 : Heap} {v' : Value} (o : Own H1 v' (rows ++ [⟨none, 0, 0⟩])) (c1 : Chg (blk vl) H H1) (f1 : ∀ b ∈ blk v', b ∈ blk vl ∨ H b = none) :
    ∃ ow' S', BktO ow' S' (upd H1 m (.cs [v', .int .i64 c] 251)) m v' (rows ++ [⟨none, 0, 0⟩]) (bk ++ [[]]) c ∧ Frm S S' H (upd H1 m (.cs [v', .int .i64 c] 251)) := by
  obtain ⟨a1, a2, a3, a4, a5, a6, a7, a8⟩ := h
  have hmv : m ∉ blk vl := fun hb => by have := (a6 m hb).2; omega
  have nm : ∀ b ∈ blk v', b ≠ m := fun b hb e => by
    rcases f1 b hb with h1 | h1
    · exact hmv (e ▸ h1)
    · rw [e, a3] at h1; cases h1
  have kn : ∀ b ∈ blk v', H1 b ≠ none := fun b hb => by
    obtain ⟨k, hk⟩ := o.slc.known (by simp) b hb; rw [hk]; simp
  refine ⟨fun b => if b ∈ blk v' then 1 else ow b, fun b => (S b ∨ b ∈ blk v') ∧ upd H1 m (.cs [v', .int .i64 c] 251) b ≠ none, ⟨⟨.inl a1, by rw [upd_same]; simp⟩, ?_, upd_same _ _ _, ?_, by simp [a5], fun b hb => ⟨⟨.inr hb, ?_⟩, ?_⟩, fun i sv l h1 h2 => ?_, fun b hb => hb.2⟩, ⟨?_, ?_⟩⟩
  · dsimp only; rw [if_neg (fun hb => nm m hb rfl)]; exact a2
  · exact o.keep fun b hb k hk => by rw [upd_ne (nm b hb)]; exact hk
  · rw [upd_ne (nm b hb)]; exact kn b hb
  · dsimp only; rw [if_pos hb]
  · by_cases hi : i < rows.length
    · rw [List.getElem?_append_left hi] at h1
      rw [List.getElem?_append_left (by omega)] at h2
      obtain ⟨oi, fi⟩ := a7 i sv l h1 h2
      have n1 : ∀ b ∈ blk (Enc.val sv), b ∉ blk vl := fun b hb hb2 => by have e1 := (fi b hb).2; have e2 := (a6 b hb2).2; omega
      have n2 : ∀ b ∈ blk (Enc.val sv), b ∉ blk v' := fun b hb hb2 => by
        rcases f1 b hb2 with h3 | h3
        · exact n1 b hb h3
        · exact a8 b (fi b hb).1 h3
      have n3 : ∀ b ∈ blk (Enc.val sv), b ≠ m := fun b hb e => by have := (fi b hb).2; rw [e, a2] at this; omega
      refine ⟨(oi.chg c1 n1).keep fun b hb k hk => by rw [upd_ne (n3 b hb)]; exact hk, fun b hb => ⟨⟨.inl (fi b hb).1, ?_⟩, ?_⟩⟩
      · rw [upd_ne (n3 b hb)]
        cases hh : H b with
        | none => exact absurd hh (a8 b (fi b hb).1)
        | some kk => rw [c1 b kk hh (n1 b hb)]; simp
      · dsimp only; rw [if_neg (n2 b hb)]; exact (fi b hb).2
    · rw [List.getElem?_append_right (by omega)] at h1
      rw [List.getElem?_append_right (by omega)] at h2
      have e1 : sv = ⟨none, 0, 0⟩ := by
        cases hk : i - rows.length with
        | zero => rw [hk] at h1; exact (Option.some.inj h1).symm
        | succ j => rw [hk] at h1; simp at h1
      have e2 : l = [] := by
        cases hk : i - bk.length with
        | zero => rw [hk] at h2; exact (Option.some.inj h2).symm
        | succ j => rw [hk] at h2; simp at h2
      subst e1 e2
      exact ⟨Own.nil none, fun b hb => by simp [blk, Enc.val] at hb⟩
  · rintro b ⟨h1 | h1, _⟩
    · exact .inl h1
    · rcases f1 b h1 with h2 | h2
      · exact .inl (a6 b h2).1
      · exact .inr h2
  · intro b kk h1 h2
    rw [upd_ne (fun e => h2 (by rw [e]; exact a1))]
    exact c1 b kk h1 fun hb => h2 (a6 b hb).1

theorem c_bput (h : Bkt S H m bk) (hn : bk ≠ []) (hb : bk.length ≤ 1000000) (ht : tot bk ≤ 1000000) (hkeys : ∀ l ∈ bk, ∀ x ∈ l, x.key < 18446744073709551616) (x : Pair) (hk : x.key < 18446744073709551616) (habs : bGet bk x.key = none)
    (hq : ∀ S' H', Bkt S' H' m (bPut bk x) → Frm S S' H H' → Q (.bool true) H') : T PP 154 [ptr m, .int .u64 (x.key : Int), .int .i64 x.v] H Q := by
  apply T154; unfold sh154
  obtain ⟨ow, vl, rows, h⟩ := h
  have hpos : 0 < bk.length := List.length_pos_iff.2 hn
  refine c_bok h hn ?_
  simp only [u_not, Bool.not_true, ev_some, Br_false]
  have hlt := bIx_lt (n := bk.length) (k := x.key) (by omega)
  obtain ⟨sv, l, hsv, hl, o, f⟩ := h.row hlt
  have hll := len_le_tot hl
  refine c_bfind h hn (by omega) hk hl (by omega) ?_
  have x0 : ∀ a b : Value, extrV 0 (.tuple #[a, b]) = some a := fun _ _ => rfl
  have x1 : ∀ a b : Value, extrV 1 (.tuple #[a, b]) = some b := fun _ _ => rfl
  have hfix : l.findIdx? (fun y : Pair => decide (y.key = x.key)) = none := by
    unfold bGet at habs
    rw [hl] at habs
    simp only [Option.getD_some, Option.map_eq_none_iff, List.find?_eq_none] at habs
    rw [List.findIdx?_eq_none_iff]
    intro y hy; simpa using habs y hy
  rw [fix_none hfix]
  simp only [x0, x1, ev_some, i_geq]
  rw [Br_f (by omega)]
  obtain ⟨a1, a2, a3, a4, a5, a6, a7, a8⟩ := id h
  have bv : bldV [.int .u64 0, .int .i64 0] [(0, 1, .int .u64 (x.key : Int)), (1, 1, .int .i64 x.v)] = some (Enc.val x) := rfl
  simp (disch := omega) only [nilV_p, fldA_p, Nat.zero_add, ld1_cs a3, List.getElem?_cons_zero, ev_some, a4.slc.ixi (n := 1) rfl, Int.toNat_natCast, a4.slc.rd1 (n := 1) rfl rfl hsv, bv, bd_pair]
  refine bApp h hsv hl x (by omega) fun ow1 S1 H1 rows1 st1 fr1 _ _ => ?_
  have hadd : bk.set (bIx bk.length x.key) (l ++ [x]) = addAt bk x := by unfold addAt; rw [hl]; rfl
  rw [hadd] at st1
  have hta := tot_addAt x hn
  obtain ⟨b1, b2, b3, b4, b5, b6, b7, b8⟩ := id st1
  rw [addAt_len] at b5
  simp (disch := omega) only [ld1_cs b3, List.getElem?_cons_zero, List.getElem?_cons_succ, ev_some, i_add]
  rw [sto_cs b3 _ rfl rfl (by simp), ev_some]
  simp only [List.set_cons_zero, List.set_cons_succ]
  have st2 := st1.cnt ((tot bk : Nat) + 1)
  have fr2 : Frm S S1 H _ := fr1.trans (Frm.upd b1 (.cs [vl, .int .i64 ((tot bk : Nat) + 1)] 251))
  generalize upd H1 m (.cs [vl, .int .i64 ((tot bk : Nat) + 1)] 251) = H2 at *
  obtain ⟨d1, d2, d3, d4, d5, d6, d7, d8⟩ := id st2
  rw [addAt_len] at d5
  intro K step
  simp (disch := omega) only [ld1_cs d3, List.getElem?_cons_zero, List.getElem?_cons_succ, ev_some, d4.slc.lenS, d5, i_mul, i_gtr]
  by_cases hgt : 2 * bk.length < tot bk + 1
  · rw [Br_t (by omega)]
    have bl : bldL (zRow 1 [.slice none 0 0]) [(0, 1, .slice none 0 0)] = some (enc [(⟨none, 0, 0⟩ : SV)]) := rfl
    rw [bl, ev_some]
    intro q hq'
    have s3 := Sub.upd_fresh (.cs (enc [(⟨none, 0, 0⟩ : SV)]) 315) hq'
    have o3 := own_new (H := H2) (b := q) (e := 315) [(⟨none, 0, 0⟩ : SV)]
    generalize upd H2 q (.cs (enc [(⟨none, 0, 0⟩ : SV)]) 315) = H3 at *
    have st3 := st2.keep fun b k _ hk => s3 b k hk
    refine app_own u249 s315 b315 z315 rfl rfl (by decide) (d4.sub s3) o3.slc (by simp; omega) fun v' H4 o4 c4 f4 => ?_
    have hmv : m ∉ blk vl := fun hb => by have := (d6 m hb).2; omega
    rw [sto_cs (c4 m _ (s3 m _ d3) hmv) v' (by obtain ⟨_, _, rfl⟩ := o4.slc.len; rfl) (by obtain ⟨_, _, rfl⟩ := o4.slc.len; rfl) (by simp), ev_some]
    simp only [List.set_cons_zero]
    obtain ⟨ow5, S5, st5, fr5⟩ := st3.grow o4 c4 f4
    have fr6 := fr2.trans (Frm.sub s3 d8 fr5)
    generalize upd H4 m (.cs [v', .int .i64 ((tot bk : Nat) + 1)] 251) = H5 at *
    refine c_power (by omega) (by omega) ?_
    have p1 := pw_pos bk.length
    have p2 := pw_le (n := bk.length) (by omega)
    rw [conv_i _ (by omega), ev_some]
    simp (disch := omega) only [i_sub, ev_some]
    have hlen : (addAt bk x ++ [[]]).length = bk.length + 1 := by rw [List.length_append, addAt_len]; rfl
    have htot : tot (addAt bk x ++ [[]]) = tot bk + 1 := by rw [← hta]; unfold tot; simp
    rw [show ((bk.length : Int) - (pw bk.length : Nat)) = ((bk.length - pw bk.length : Nat) : Int) by omega]
    refine c_part st5 (by simp) (by omega) (by omega) (fun l' hl' y hy => ?_) (by omega) fun ow6 S6 H6 rows6 st6 fr7 => ?_
    · rcases List.mem_append.1 hl' with h1 | h1
      · unfold addAt at h1
        rcases List.mem_or_eq_of_mem_set h1 with h2 | rfl
        · exact hkeys l' h2 y hy
        · rw [hl] at hy
          rcases List.mem_append.1 hy with h3 | h3
          · exact hkeys l (List.mem_of_getElem? hl) y h3
          · simp at h3; subst h3; exact hk
      · simp at h1; subst h1; cases hy
    · apply step
      have e : bPut bk x = bPart (addAt bk x ++ [[]]) (bk.length - pw bk.length) := by unfold bPut; rw [if_pos (by omega)]
      refine hq S6 H6 ⟨ow6, v', rows6, ?_⟩ (fr6.trans fr7)
      rw [e, tot_part (by simp) (by omega), htot]; exact st6
  · rw [Br_f (by omega)]
    apply step
    have e : bPut bk x = addAt bk x := by unfold bPut; rw [if_neg (by omega)]
    refine hq S1 H2 ⟨ow1, vl, rows1, ?_⟩ fr2
    rw [e, hta]; exact st2
end
end Go.Sl
