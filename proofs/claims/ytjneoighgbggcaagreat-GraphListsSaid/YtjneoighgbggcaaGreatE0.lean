/- Proved here: what modes, groups and requests answer. -/
import Derived.Test.YtjneoighgbggcaaGreatD0
import Derived.Test.YtjneoighgbggcaaGreatA2
namespace Go.Sl
open Go Go.Proofs

def md (m : Int) : Nat := if 0 ≤ m ∧ m < 7 then m.toNat else 0
theorem md_lt (m : Int) : md m < 7 := by unfold md; split <;> omega
theorem md_nat {n : Nat} (h : n < 7) : md n = n := by unfold md; rw [if_pos (by omega)]; simp
def re (i : Nat) : Nat := [0, 0, 0, 1, 1, 2, 3].getD i 0
def im (i : Nat) : Nat := [0, 1, 2, 1, 2, 1, 2].getD i 0
def fb (n : Nat) : Nat := [0, 4607182418800017408, 4611686018427387904, 4613937818241073152].getD n 0
def pt (a b : Nat) : Value := .complex .f64 (fb a) (fb b)

theorem f_leq : ∀ a b, a < 4 → b < 4 → fltV .leq (.float .f64 (fb a)) (.float .f64 (fb b)) = some (.bool (decide (a ≤ b)))
  | 0, 0, _, _ => rfl | 0, 1, _, _ => rfl | 0, 2, _, _ => rfl | 0, 3, _, _ => rfl
  | 1, 0, _, _ => rfl | 1, 1, _, _ => rfl | 1, 2, _, _ => rfl | 1, 3, _, _ => rfl
  | 2, 0, _, _ => rfl | 2, 1, _, _ => rfl | 2, 2, _, _ => rfl | 2, 3, _, _ => rfl
  | 3, 0, _, _ => rfl | 3, 1, _, _ => rfl | 3, 2, _, _ => rfl | 3, 3, _, _ => rfl
  | n + 4, _, h, _ => by omega
  | _, n + 4, _, h => by omega
theorem f_lss : ∀ a b, a < 4 → b < 4 → fltV .lss (.float .f64 (fb a)) (.float .f64 (fb b)) = some (.bool (decide (a < b)))
  | 0, 0, _, _ => rfl | 0, 1, _, _ => rfl | 0, 2, _, _ => rfl | 0, 3, _, _ => rfl
  | 1, 0, _, _ => rfl | 1, 1, _, _ => rfl | 1, 2, _, _ => rfl | 1, 3, _, _ => rfl
  | 2, 0, _, _ => rfl | 2, 1, _, _ => rfl | 2, 2, _, _ => rfl | 2, 3, _, _ => rfl
  | 3, 0, _, _ => rfl | 3, 1, _, _ => rfl | 3, 2, _, _ => rfl | 3, 3, _, _ => rfl
  | n + 4, _, h, _ => by omega
  | _, n + 4, _, h => by omega

section
variable {H : Heap} {Q : Value → Heap → Prop}
theorem c_may {m : Int} (h : Q (.bool (decide (0 ≤ m ∧ m < 7))) H) : T PP 166 [.int .i64 m] H Q := by
  apply T166; unfold sh166
  simp only [i_geq, ev_some, i_lss]
  by_cases h0 : 0 ≤ m
  · rw [Br_t h0]; simpa [h0] using h
  · rw [Br_f h0]; simpa [h0] using h
theorem c_right {m : Int} (h : Q (.int .i64 (md m : Nat)) H) : T PP 323 [.int .i64 m] H Q := by
  apply T323; unfold sh323
  refine c_may ?_
  unfold md at h
  by_cases h0 : 0 ≤ m ∧ m < 7
  · rw [Br_t h0]; rw [if_pos h0] at h; rwa [show ((m.toNat : Nat) : Int) = m by omega] at h
  · rw [Br_f h0]; rw [if_neg h0] at h; exact h
theorem c_below {a b c d : Nat} (ha : a < 4) (hb : b < 4) (hc : c < 4) (hd : d < 4) (h : Q (.bool (decide (a ≤ c ∧ b ≤ d))) H) : T PP 326 [pt a b, pt c d] H Q := by
  apply T326; unfold sh326
  simp only [pt, realV, imagV, ev_some, f_leq a c ha hc, f_leq b d hb hd]
  by_cases h0 : a ≤ c
  · rw [Br_t h0]; simpa [h0] using h
  · rw [Br_f h0]; simpa [h0] using h

def ptsV : Value := .agg #[pt 0 0, pt 0 1, pt 0 2, pt 1 1, pt 1 2, pt 2 1, pt 3 2]
theorem c_points (h : Q ptsV H) : T PP 322 [] H Q := by
  refine T.drop (Q := fun v H' => v = ptsV ∧ Sub H H') ?_ (fun v H' hv => ⟨H, hv.2, hv.1 ▸ h⟩)
  apply T322; unfold sh322
  intro p hp
  refine ev_iff.2 ⟨ptsV, rfl, ?_⟩
  have st : Sl.sto 7 (upd H p (.cs [.complex .f64 0 0, .complex .f64 0 0, .complex .f64 0 0, .complex .f64 0 0, .complex .f64 0 0, .complex .f64 0 0, .complex .f64 0 0] 362)) (.pointer (some ⟨p, 0, none⟩)) ptsV = some (upd (upd H p (.cs [.complex .f64 0 0, .complex .f64 0 0, .complex .f64 0 0, .complex .f64 0 0, .complex .f64 0 0, .complex .f64 0 0, .complex .f64 0 0] 362)) p (.cs [pt 0 0, pt 0 1, pt 0 2, pt 1 1, pt 1 2, pt 2 1, pt 3 2] 362)) := by
    simp [Sl.sto, upd_same, Value.cells, Sl.flat, Value.oneCell', over, ptsV, pt]
  rw [st, ev_some]
  have ld : Sl.ldn 7 (upd (upd H p (.cs [.complex .f64 0 0, .complex .f64 0 0, .complex .f64 0 0, .complex .f64 0 0, .complex .f64 0 0, .complex .f64 0 0, .complex .f64 0 0] 362)) p (.cs [pt 0 0, pt 0 1, pt 0 2, pt 1 1, pt 1 2, pt 2 1, pt 3 2] 362)) (.pointer (some ⟨p, 0, none⟩)) = some ptsV := by
    simp [Sl.ldn, upd_same, Sl.rdn, Blk.rd, ptsV]
  rw [ld, ev_some]
  exact ⟨rfl, (Sub.upd_fresh _ hp).chg (Chg_upd _) (by simpa using hp)⟩
theorem ix_pts : ∀ k, k < 7 → ixA 7 false 1 ptsV (.int .i64 (k : Nat)) = some (pt (re k) (im k))
  | 0, _ => rfl | 1, _ => rfl | 2, _ => rfl | 3, _ => rfl | 4, _ => rfl | 5, _ => rfl | 6, _ => rfl
  | n + 7, h => by omega
theorem c_at {m : Int} (h : Q (pt (re (md m)) (im (md m))) H) : T PP 206 [.int .i64 m] H Q := by
  apply T206; unfold sh206
  refine c_points (c_right ?_)
  rw [ix_pts _ (md_lt m), ev_some]; exact h
theorem re_lt : ∀ k, re k < 4 := fun k => by
  match k with
  | 0 | 1 | 2 | 3 | 4 | 5 | 6 => decide
  | n + 7 => simp [re]
theorem im_lt : ∀ k, im k < 4 := fun k => by
  match k with
  | 0 | 1 | 2 | 3 | 4 | 5 | 6 => decide
  | n + 7 => simp [im]
def cov (m n : Nat) : Bool := decide (re n ≤ re m ∧ im n ≤ im m)
theorem c_covers {m n : Int} (h : Q (.bool (cov (md m) (md n))) H) : T PP 212 [.int .i64 m, .int .i64 n] H Q := by
  apply T212; unfold sh212
  exact c_at (c_at (c_below (re_lt _) (im_lt _) (re_lt _) (im_lt _) h))
theorem c_mless {a b c d : Nat} (ha : a < 4) (hb : b < 4) (hc : c < 4) (hd : d < 4) (h : Q (.bool (decide (a < c ∨ a = c ∧ b < d))) H) : T PP 360 [pt a b, pt c d] H Q := by
  apply T360; unfold sh360
  have e : fltV .neq (.float .f64 (fb a)) (.float .f64 (fb c)) = some (.bool (decide (a ≠ c))) := by
    match a, c, ha, hc with
    | 0, 0, _, _ | 0, 1, _, _ | 0, 2, _, _ | 0, 3, _, _ | 1, 0, _, _ | 1, 1, _, _ | 1, 2, _, _ | 1, 3, _, _ => rfl
    | 2, 0, _, _ | 2, 1, _, _ | 2, 2, _, _ | 2, 3, _, _ | 3, 0, _, _ | 3, 1, _, _ | 3, 2, _, _ | 3, 3, _, _ => rfl
    | n + 4, _, h, _ => omega
    | _, n + 4, _, h => omega
  simp only [pt, realV, imagV, ev_some, e, f_lss a c ha hc, f_lss b d hb hd]
  by_cases h0 : a = c
  · rw [Br_f (by simpa using h0)]; simpa [h0] using h
  · rw [Br_t h0]; simpa [h0] using h
end
end Go.Sl
namespace Go.Sl
open Go Go.Proofs

def ofS (a b : Nat) (out m : Nat) : Nat := if (a ≤ re m ∧ b ≤ im m) ∧ (re m < re out ∨ re m = re out ∧ im m < im out) then m else out
def ofG (a b : Nat) : Nat → Nat → Nat → Nat
  | 0, _, out => out
  | k + 1, m, out => ofG a b k (m + 1) (ofS a b out m)
def ofL (a b : Nat) : Nat := ofG a b 7 0 6
def sup (m n : Nat) : Nat := ofL (max (re m) (re n)) (max (im m) (im n))
theorem f_max : ∀ a b, a < 4 → b < 4 → maxV (.float .f64 (fb a)) (.float .f64 (fb b)) = some (.float .f64 (fb (max a b)))
  | 0, 0, _, _ => rfl | 0, 1, _, _ => rfl | 0, 2, _, _ => rfl | 0, 3, _, _ => rfl
  | 1, 0, _, _ => rfl | 1, 1, _, _ => rfl | 1, 2, _, _ => rfl | 1, 3, _, _ => rfl
  | 2, 0, _, _ => rfl | 2, 1, _, _ => rfl | 2, 2, _, _ => rfl | 2, 3, _, _ => rfl
  | 3, 0, _, _ => rfl | 3, 1, _, _ => rfl | 3, 2, _, _ => rfl | 3, 3, _, _ => rfl
  | n + 4, _, h, _ => by omega
  | _, n + 4, _, h => by omega

section
variable {H : Heap} {Q : Value → Heap → Prop}
theorem c_of {a b : Nat} (ha : a < 4) (hb : b < 4) (h : Q (.int .i64 (ofL a b : Nat)) H) : T PP 276 [pt a b] H Q := by
  apply T276; unfold sh276
  refine c_points ?_
  intro I stepI
  have main : ∀ (k m : Nat) (z : Int) (out : Nat), m + k = 7 → z = m → out < 7 → Q (.int .i64 (ofG a b k m out : Nat)) H → I [pt a b, .int .i64 (out : Nat), ptsV, .int .i64 z] H := by
    intro k
    induction k with
    | zero =>
      intro m z out hm hz ho hq
      apply stepI
      simp only [i_lss, ev_some]
      rw [Br_f (by omega)]; exact hq
    | succ k ih =>
      intro m z out hm hz ho hq
      subst hz
      apply stepI
      simp only [i_lss, ev_some]
      rw [Br_t (by omega)]
      intro K11 step11
      rw [ix_pts m (by omega), ev_some]
      intro K19 step19
      have k11 : ∀ out' : Nat, out' < 7 → ofS a b out m = out' → K11 [pt a b, .int .i64 (out' : Nat), ptsV, .int .i64 (m : Nat)] H := by
        intro out' ho' he
        apply step11
        simp (disch := omega) only [i_add, ev_some]
        refine ih (m + 1) _ out' (by omega) (by omega) ho' ?_
        rw [ofG, he] at hq; exact hq
      have k19 : ∀ c : Bool, (c = decide ((a ≤ re m ∧ b ≤ im m) ∧ (re m < re out ∨ re m = re out ∧ im m < im out))) → K19 [pt a b, .int .i64 (out : Nat), .int .i64 (m : Nat), ptsV, .int .i64 (m : Nat), .bool c] H := by
        intro c hc
        apply step19
        cases c with
        | true =>
          rw [Br_true]
          exact k11 m (by omega) (by unfold ofS; rw [if_pos (by simpa using hc.symm)])
        | false =>
          rw [Br_false]
          exact k11 out ho (by unfold ofS; rw [if_neg (by simpa using hc.symm)])
      refine c_below ha hb (re_lt _) (im_lt _) ?_
      by_cases h0 : a ≤ re m ∧ b ≤ im m
      · rw [Br_t h0]
        refine c_at ?_
        rw [md_nat ho]
        refine c_mless (re_lt _) (im_lt _) (re_lt _) (im_lt _) ?_
        exact k19 _ (by simp [h0])
      · rw [Br_f h0]
        exact k19 false (by simp [h0])
  exact main 7 0 _ 6 rfl rfl (by omega) h
theorem c_sup {m n : Int} (h : Q (.int .i64 (sup (md m) (md n) : Nat)) H) : T PP 168 [.int .i64 m, .int .i64 n] H Q := by
  apply T168; unfold sh168
  refine c_at (c_at ?_)
  simp only [pt, realV, imagV, ev_some, f_max _ _ (re_lt _) (re_lt _), f_max _ _ (im_lt _) (im_lt _), cplxV, if_true]
  exact c_of (by have := re_lt (md m); have := re_lt (md n); omega) (by have := im_lt (md m); have := im_lt (md n); omega) h
end
end Go.Sl
namespace Go.Sl
open Go Go.Proofs

def tabB : List Bool := [false, false, false, false, false, false, false, false, true, true, true, true, true, false, false, true, true, false, false, false, false, false, true, false, true, false, true, false, false, true, false, false, false, false, false, false, true, false, false, false, false, false, false, false, false, false, false, false, false]
def cmpt (h a : Nat) : Bool := decide (h = 0) || decide (a = 0) || tabB.getD (7 * h + a) false
def zB : List Value := [.bool false, .bool false, .bool false, .bool false, .bool false, .bool false, .bool false, .bool false, .bool false, .bool false, .bool false, .bool false, .bool false, .bool false, .bool false, .bool false, .bool false, .bool false, .bool false, .bool false, .bool false, .bool false, .bool false, .bool false, .bool false, .bool false, .bool false, .bool false, .bool false, .bool false, .bool false, .bool false, .bool false, .bool false, .bool false, .bool false, .bool false, .bool false, .bool false, .bool false, .bool false, .bool false, .bool false, .bool false, .bool false, .bool false, .bool false, .bool false, .bool false]
theorem tab_get : ∀ k, k < 49 → (tabB.map Value.bool)[k]? = some (.bool (tabB.getD k false)) := fun k hk => by
  have : k < tabB.length := hk
  simp [this]

section
variable {H : Heap} {Q : Value → Heap → Prop}
theorem c_compat {m n : Int} (h : Q (.bool (cmpt (md m) (md n))) H) : T PP 228 [.int .i64 m, .int .i64 n] H Q := by
  refine T.drop (Q := fun v H' => v = .bool (cmpt (md m) (md n)) ∧ Sub H H') ?_ (fun v H' hv => ⟨H, hv.2, hv.1 ▸ h⟩)
  apply T228; unfold sh228
  refine ev_iff.2 ⟨_, rfl, ?_⟩
  refine ev_iff.2 ⟨_, rfl, ?_⟩
  refine ev_iff.2 ⟨_, rfl, ?_⟩
  refine ev_iff.2 ⟨_, rfl, ?_⟩
  refine ev_iff.2 ⟨_, rfl, ?_⟩
  refine ev_iff.2 ⟨.agg (tabB.map Value.bool).toArray, rfl, ?_⟩
  intro p hp
  have st : Sl.sto 49 (upd H p (.cs zB 367)) (.pointer (some ⟨p, 0, none⟩)) (.agg (tabB.map Value.bool).toArray) = some (upd (upd H p (.cs zB 367)) p (.cs (tabB.map Value.bool) 367)) := by
    simp only [Sl.sto, upd_same]
    rfl
  refine ev_iff.2 ⟨_, st, ?_⟩
  have s1 : Sub H (upd (upd H p (.cs zB 367)) p (.cs (tabB.map Value.bool) 367)) := (Sub.upd_fresh _ hp).chg (Chg_upd _) (by simpa using hp)
  have p1 : (upd (upd H p (.cs zB 367)) p (.cs (tabB.map Value.bool) 367)) p = some (.cs (tabB.map Value.bool) 367) := upd_same _ _ _
  generalize (upd (upd H p (.cs zB 367)) p (.cs (tabB.map Value.bool) 367)) = H1 at *
  refine c_right (c_right ?_)
  have hm := md_lt m
  have hn := md_lt n
  simp only [i_eql, ev_some]
  by_cases h0 : md m = 0
  · rw [Br_t (by omega)]; exact ⟨by simp [cmpt, h0], s1⟩
  · rw [Br_f (by omega)]
    by_cases h1 : md n = 0
    · rw [Br_t (by omega)]; exact ⟨by simp [cmpt, h1], s1⟩
    · rw [Br_f (by omega)]
      have x1 : ixP 7 7 (.pointer (some ⟨p, 0, none⟩)) (.int .i64 (md m : Nat)) = some (.pointer (some ⟨p, md m * 7, none⟩)) := by
        simp only [ixP]; rw [if_pos (by omega)]; simp [add_one]
      have x2 : ixP 7 1 (.pointer (some ⟨p, md m * 7, none⟩)) (.int .i64 (md n : Nat)) = some (.pointer (some ⟨p, md m * 7 + md n, none⟩)) := by
        simp only [ixP]; rw [if_pos (by omega)]; simp [add_one]
      rw [x1, ev_some, x2, ev_some, ld1_cs p1, tab_get _ (by omega), ev_some]
      refine ⟨?_, s1⟩
      simp [cmpt, h0, h1, Nat.mul_comm]
end
end Go.Sl
namespace Go.Sl
open Go Go.Proofs

structure Hold where
  tx : Int
  mode : Int
  deriving Inhabited, DecidableEq
structure Wait where
  tx : Int
  mode : Int
  conv : Bool
  inst : Bool
  deriving Inhabited, DecidableEq
structure Path where
  a : Int
  b : Int
  c : Int
  d : Int
  depth : Int
  deriving Inhabited, DecidableEq
instance : Enc Hold where
  val e := .agg #[.int .i64 e.tx, .int .i64 e.mode]
  sz := 2
  ag := true
  size _ := rfl
  pos := by decide
  flat _ := rfl
  agg _ e := ⟨_, rfl⟩
  one h := by cases h
instance : Enc Wait where
  val e := .agg #[.int .i64 e.tx, .int .i64 e.mode, .bool e.conv, .bool e.inst]
  sz := 4
  ag := true
  size _ := rfl
  pos := by decide
  flat _ := rfl
  agg _ e := ⟨_, rfl⟩
  one h := by cases h
instance : Enc Path where
  val e := .agg #[.int .i64 e.a, .int .i64 e.b, .int .i64 e.c, .int .i64 e.d, .int .i64 e.depth]
  sz := 5
  ag := true
  size _ := rfl
  pos := by decide
  flat _ := rfl
  agg _ e := ⟨_, rfl⟩
  one h := by cases h

theorem u45 : PP.underlying 45 = some (.slice 48) := by kernel_rfl
theorem s48 : szT PP 48 = some 4 := by kernel_rfl
theorem b48 : bytT PP 48 = some 24 := by kernel_rfl
theorem u76 : PP.underlying 76 = some (.slice 121) := by kernel_rfl
theorem s121 : szT PP 121 = some 2 := by kernel_rfl
theorem b121 : bytT PP 121 = some 16 := by kernel_rfl

section
variable {H : Heap} {Q : Value → Heap → Prop} {v : Value}

theorem appWt {s x : Value} {l ys : List Wait} {K : Value → Heap → Prop} (hs : Own H s l) (hx : Slc H x ys) (hbound : l.length + ys.length ≤ 1000000000)
    (h : ∀ v' H', Own H' v' (l ++ ys) → Chg (blk s) H H' → (∀ b ∈ blk v', b ∈ blk s ∨ H b = none) → K v' H') : appW PP 45 45 s x H K :=
  app_own u45 s48 b48 z48 rfl rfl (by decide) hs hx hbound h
theorem appHd {s x : Value} {l ys : List Hold} {K : Value → Heap → Prop} (hs : Own H s l) (hx : Slc H x ys) (hbound : l.length + ys.length ≤ 1000000000)
    (h : ∀ v' H', Own H' v' (l ++ ys) → Chg (blk s) H H' → (∀ b ∈ blk v', b ∈ blk s ∨ H b = none) → K v' H') : appW PP 76 76 s x H K :=
  app_own u76 s121 b121 z121 rfl rfl (by decide) hs hx hbound h

theorem eqS_nil {α : Type} [Enc α] {x : Value} {l : List α} (hx : Slc H x l) : ∃ t, eqS x (.slice none 0 0) = some t ∧ (t = true → l = []) := by
  obtain ⟨a, c, e⟩ := hx.len
  rw [e]
  rcases hx with ⟨rfl, _⟩ | ⟨b, off, cap, k, e2, _⟩
  · cases a <;> exact ⟨_, rfl, fun _ => rfl⟩
  · rw [e] at e2; cases e2; exact ⟨false, rfl, by simp⟩

/-- slices.Clone. -/
theorem clone_gen {α : Type} [Enc α] {t e : TypeId} {z : List Value} (hz : bldL (zRow 0 z) [] = some (enc ([] : List α)))
    (app : ∀ {H : Heap} {s x : Value} {l ys : List α} {K : Value → Heap → Prop}, Own H s l → Slc H x ys → l.length + ys.length ≤ 1000000000 →
      (∀ v' H', Own H' v' (l ++ ys) → Chg (blk s) H H' → (∀ b ∈ blk v', b ∈ blk s ∨ H b = none) → K v' H') → appW PP t t s x H K)
    {x : Value} {l : List α} (hx : Slc H x l) (hb : l.length ≤ 1000000000)
    (h : ∀ v' H', Own H' v' l → Sub H H' → (∀ b ∈ blk v', H b = none) → Q v' H') :
    ev (notB false (eqS x (.slice none 0 0))) fun v2 => Br v2 (Q (.slice none 0 0) H) (ev (bldL (zRow 0 z) []) fun l3 => nsW e 0 0 l3 H fun v4 H5 => appW PP t t v4 x H5 fun v6 H7 => Q v6 H7) := by
  obtain ⟨t, e1, ht⟩ := eqS_nil hx
  simp only [e1, notB, ev_some]
  refine Br_bools (fun h1 => ?_) (fun _ => ?_)
  · have : l = [] := ht (by simpa using h1)
    subst this
    exact h _ _ (Own.nil none) (Sub.refl H) (by simp [blk])
  · rw [hz, ev_some]
    intro b hb0
    have s0 : Sub H (upd H b (.cs (enc ([] : List α)) e)) := Sub.upd_fresh _ hb0
    refine app (own_new ([] : List α)) (hx.sub s0) (by simpa using hb) fun v' H' o c f => ?_
    refine h v' H' (by simpa using o) (s0.chg c (by simp [blk, hb0])) fun b' hb' => ?_
    rcases f b' hb' with f | f
    · simp [blk] at f; subst f; exact hb0
    · cases hh : H b' with
      | none => rfl
      | some k => have := s0 b' k hh; rw [f] at this; cases this
theorem c_cloneW {x : Value} {l : List Wait} (hx : Slc H x l) (hb : l.length ≤ 1000000000)
    (h : ∀ v' H', Own H' v' l → Sub H H' → (∀ b ∈ blk v', H b = none) → Q v' H') : T PP 197 [x] H Q := by
  apply T197; unfold sh197; exact clone_gen rfl appWt hx hb h
theorem c_cloneH {x : Value} {l : List Hold} (hx : Slc H x l) (hb : l.length ≤ 1000000000)
    (h : ∀ v' H', Own H' v' l → Sub H H' → (∀ b ∈ blk v', H b = none) → Q v' H') : T PP 255 [x] H Q := by
  apply T255; unfold sh255; exact clone_gen rfl appHd hx hb h

/-! ### Looking through a slice -/
/-- A function that only answers. -/
def FnP {α : Type} [Enc α] (H : Heap) (f : Value) (p : α → Bool) : Prop := ∀ a (K : Value → Heap → Prop), K (.bool (p a)) H → clW PP f [Enc.val a] H K
/-- Where the first of a kind stands; -1: nowhere. -/
def fix {α : Type} (p : α → Bool) (l : List α) : Int := match l.findIdx? p with | some i => (i : Int) | none => -1
theorem fix_some {α : Type} {p : α → Bool} {l : List α} {i : Nat} (h : l.findIdx? p = some i) : fix p l = i := by simp [fix, h]
theorem fix_none {α : Type} {p : α → Bool} {l : List α} (h : l.findIdx? p = none) : fix p l = -1 := by simp [fix, h]
theorem fix_neg {α : Type} (p : α → Bool) (l : List α) : (fix p l < 0 ↔ l.any p = false) := by
  unfold fix
  cases h : l.findIdx? p with
  | none => simp only [List.findIdx?_eq_none_iff] at h; simp; exact h
  | some i =>
    obtain ⟨h1, h2, _⟩ := List.findIdx?_eq_some_iff_getElem.1 h
    simp only [show ¬ ((i : Int) < 0) by omega, false_iff, Bool.not_eq_false, List.any_eq_true]
    exact ⟨l[i], by simp, h2⟩

theorem idx_loop {α : Type} [Enc α] {n : Nat} (hn : Enc.sz α = n) (hag : Enc.ag α = true) {x f : Value} {l : List α} {p : α → Bool} (hx : Slc H x l) (hf : FnP H f p) (hb : l.length ≤ 1000000000)
    (h : Q (.int .i64 (fix p l)) H) :
    ev (lenS x) fun v3 => ∀ I4 : List Value → Heap → Prop, (∀ H5, ∀ x6, ∀ x7, ∀ x8, ∀ x9,
     (ev (intV .lss x9 x8) fun v10 => Br v10 (ev (ixS n x6 x9) fun v11 => ev (ldn n H5 v11) fun v12 => clW PP x7 [v12] H5 fun v13 H14 =>
       Br v13 (Q x9 H14) (ev (intV .add x9 (.int .i64 1)) fun v15 => I4 [x6, x7, x8, v15] H14)) (Q (.int .i64 (-1)) H5)) → I4 [x6, x7, x8, x9] H5) →
     I4 [x, f, v3, (.int .i64 0)] H := by
  simp only [hx.lenS, ev_some]
  intro I step
  have main : ∀ (m i : Nat) (z : Int), l.length - i = m → z = i → i ≤ l.length → (∀ j a, j < i → l[j]? = some a → p a = false) → I [x, f, .int .i64 (l.length : Int), .int .i64 z] H := by
    intro m
    induction m using Nat.strongRecOn with
    | _ m ih =>
    intro i z hm hz hi hpre
    apply step
    simp only [i_lss, ev_some]
    by_cases hlt : i < l.length
    · rw [Br_t (by omega)]
      obtain ⟨a, ha⟩ : ∃ a, l[i]? = some a := ⟨l[i]'(by omega), List.getElem?_eq_getElem (by omega)⟩
      have e0 : z.toNat = i := by omega
      simp (disch := omega) only [hx.ixi hn, ev_some, e0, hx.rdn hn hag ha]
      refine hf a _ ?_
      refine Br_bools (fun hp => ?_) (fun hp => ?_)
      · have : l.findIdx? p = some i := by
          rw [List.findIdx?_eq_some_iff_getElem]
          refine ⟨hlt, ?_, fun j hj => ?_⟩
          · rw [List.getElem?_eq_getElem hlt] at ha; rw [Option.some.inj ha]; exact hp
          · have := hpre j _ hj (List.getElem?_eq_getElem (by omega)); simpa using this
        rw [fix_some this] at h
        rw [hz]; exact h
      · simp (disch := omega) only [i_add, ev_some]
        refine ih _ (by omega) (i + 1) _ rfl (by omega) (by omega) fun j b hj hb => ?_
        by_cases hji : j = i
        · subst hji; rw [ha] at hb; cases hb; exact hp
        · exact hpre j b (by omega) hb
    · rw [Br_f (by omega)]
      have : l.findIdx? p = none := by
        rw [List.findIdx?_eq_none_iff]
        intro a ha
        obtain ⟨j, hj⟩ := List.getElem?_of_mem ha
        have := (List.getElem?_eq_some_iff.1 hj).1
        exact hpre j a (by omega) hj
      rw [fix_none this] at h
      exact h
  exact main _ 0 _ rfl rfl (Nat.zero_le _) (fun j a hj => by omega)
theorem c_indexW {x f : Value} {l : List Wait} {p : Wait → Bool} (hx : Slc H x l) (hf : FnP H f p) (hb : l.length ≤ 1000000000) (h : Q (.int .i64 (fix p l)) H) : T PP 198 [x, f] H Q := by
  apply T198; unfold sh198; exact idx_loop rfl rfl hx hf hb h
theorem c_indexH {x f : Value} {l : List Hold} {p : Hold → Bool} (hx : Slc H x l) (hf : FnP H f p) (hb : l.length ≤ 1000000000) (h : Q (.int .i64 (fix p l)) H) : T PP 401 [x, f] H Q := by
  apply T401; unfold sh401; exact idx_loop rfl rfl hx hf hb h

/-- An answer that needs no more than what is there already. -/
theorem T.pure {f : FuncId} {args : List Value} {r : Value} (h : ∀ Q' : Value → Heap → Prop, (∀ H', Sub H H' → Q' r H') → T PP f args H Q') (hq : Q r H) : T PP f args H Q :=
  T.drop (Q := fun v H' => v = r ∧ Sub H H') (h _ fun _H' s => ⟨rfl, s⟩) (fun _v _H' hv => ⟨H, hv.2, hv.1 ▸ hq⟩)

theorem c_of1 {q : Nat} {tx : Int} (hq : H q = some (.cs [.int .i64 tx] 3)) : FnP H (.func (.func 319) #[] #[.pointer (some ⟨q, 0, none⟩)]) (fun w : Wait => decide (w.tx = tx)) := by
  intro a K hk
  show T PP 319 _ H K
  refine T.pure (fun Q' hQ => ?_) hk
  apply T319; unfold sh319
  intro p hp
  have hs := Sub.upd_fresh (.cs (Enc.val a).cells.toList 48) hp
  have e1 := hs q _ hq
  have e2 := upd_same H p (.cs (Enc.val a).cells.toList 48)
  generalize upd H p (.cs (Enc.val a).cells.toList 48) = H2 at *
  simp only [fldA_p, ld1_cs e1, ld1_cs e2, Enc.val, Value.cells, List.getElem?_cons_zero, Nat.zero_add, ev_some, i_eql]
  exact hQ _ hs
theorem c_find1 {q : Nat} {tx : Int} (hq : H q = some (.cs [.int .i64 tx] 3)) : FnP H (.func (.func 402) #[] #[.pointer (some ⟨q, 0, none⟩)]) (fun w : Hold => decide (w.tx = tx)) := by
  intro a K hk
  show T PP 402 _ H K
  refine T.pure (fun Q' hQ => ?_) hk
  apply T402; unfold sh402
  intro p hp
  have hs := Sub.upd_fresh (.cs (Enc.val a).cells.toList 121) hp
  have e1 := hs q _ hq
  have e2 := upd_same H p (.cs (Enc.val a).cells.toList 121)
  generalize upd H p (.cs (Enc.val a).cells.toList 121) = H2 at *
  simp only [fldA_p, ld1_cs e1, ld1_cs e2, Enc.val, Value.cells, List.getElem?_cons_zero, Nat.zero_add, ev_some, i_eql]
  exact hQ _ hs
theorem c_reqfind {x : Value} {l : List Wait} {tx : Int} (hx : Slc H x l) (hb : l.length ≤ 1000000000) (h : Q (.int .i64 (fix (fun w : Wait => decide (w.tx = tx)) l)) H) : T PP 100 [x, .int .i64 tx] H Q := by
  refine T.pure (fun Q' hQ => ?_) h
  apply T100; unfold sh100
  apply T199; unfold sh199
  intro p hp
  have hs := Sub.upd_fresh (.cs [.int .i64 tx] 3) hp
  exact c_indexW (hx.sub hs) (c_of1 (upd_same _ _ _)) hb (hQ _ hs)
theorem c_grpfind {x : Value} {l : List Hold} {tx : Int} (hx : Slc H x l) (hb : l.length ≤ 1000000000) (h : Q (.int .i64 (fix (fun w : Hold => decide (w.tx = tx)) l)) H) : T PP 321 [x, .int .i64 tx] H Q := by
  refine T.pure (fun Q' hQ => ?_) h
  apply T321; unfold sh321
  intro p hp
  have hs := Sub.upd_fresh (.cs [.int .i64 tx] 3) hp
  exact c_indexH (hx.sub hs) (c_find1 (upd_same _ _ _)) hb (hQ _ hs)
end
end Go.Sl
namespace Go.Sl
open Go Go.Proofs

def modeOf (l : List Hold) (tx : Int) : Int := match l.find? (fun h => decide (h.tx = tx)) with | some h => h.mode | none => 0
def goes (l : List Hold) (tx m : Int) : Bool := !l.any fun h => decide (h.tx ≠ tx) && !cmpt (md h.mode) (md m)
def setH (l : List Hold) (tx m : Int) : List Hold := match l.findIdx? (fun h => decide (h.tx = tx)) with | some i => l.set i ⟨tx, m⟩ | none => l ++ [⟨tx, m⟩]
def chkR (tx m flag : Int) : Int := if tx < 1 ∨ ¬ (0 ≤ m ∧ m < 7) ∨ m = 0 ∨ flag < 0 ∨ 2 < flag then 1 else 0
def target (had m : Int) : Int := (sup (md had) (md m) : Nat)
def other (had m : Int) : Bool := cov (md (target had m)) (md had) && !cov (md had) (md (target had m))
/-- Behind the last one that converts. -/
def placeC : List Wait → Nat
  | [] => 0
  | w :: l => if placeC l = 0 then (if w.conv then 1 else 0) else placeC l + 1
def place (l : List Wait) (conv : Bool) : Nat := if conv then placeC l else l.length
theorem placeC_le (l : List Wait) : placeC l ≤ l.length := by
  induction l with
  | nil => simp [placeC]
  | cons w l ih => simp only [placeC, List.length_cons]; split <;> (try split) <;> omega
theorem place_le (l : List Wait) (c : Bool) : place l c ≤ l.length := by unfold place; split; exact placeC_le l; exact Nat.le_refl _
theorem placeC_snoc (l : List Wait) (w : Wait) : placeC (l ++ [w]) = if w.conv then l.length + 1 else placeC l := by
  induction l with
  | nil => simp only [List.nil_append, placeC, List.length_nil, if_true]
  | cons x l ih =>
    simp only [List.cons_append, placeC, ih, List.length_cons]
    cases w.conv with
    | true => simp
    | false => simp

theorem find_idx {α : Type} {p : α → Bool} {l : List α} {i : Nat} (h : l.findIdx? p = some i) : ∃ a, l[i]? = some a ∧ l.find? p = some a ∧ p a = true := by
  obtain ⟨h1, h2, h3⟩ := List.findIdx?_eq_some_iff_getElem.1 h
  refine ⟨l[i], by simp, ?_, h2⟩
  rw [List.find?_eq_some_iff_getElem]
  exact ⟨h2, i, h1, rfl, fun j hj => by simpa using h3 j hj⟩
theorem find_none {α : Type} {p : α → Bool} {l : List α} (h : l.findIdx? p = none) : l.find? p = none := by
  rw [List.findIdx?_eq_none_iff] at h; rw [List.find?_eq_none]; intro a ha; simp [h a ha]

section
variable {H : Heap} {Q : Value → Heap → Prop} {v : Value}

theorem c_grpof {x : Value} {l : List Hold} {tx : Int} (hx : Slc H x l) (hb : l.length ≤ 1000000000) (h : Q (.int .i64 (modeOf l tx)) H) : T PP 203 [x, .int .i64 tx] H Q := by
  apply T203; unfold sh203
  refine c_grpfind hx hb ?_
  simp only [i_lss, ev_some]
  unfold modeOf at h
  cases hf : l.findIdx? (fun h => decide (h.tx = tx)) with
  | none =>
    rw [find_none hf] at h
    rw [fix_none hf, Br_t (by omega)]; exact h
  | some i =>
    obtain ⟨a, ha, hfd, _⟩ := find_idx hf
    rw [hfd] at h
    have hi := (List.getElem?_eq_some_iff.1 ha).1
    rw [fix_some hf, Br_f (by omega)]
    simp (disch := omega) only [hx.ixi (n := 2) rfl, ev_some, Int.toNat_natCast, hx.fldi (n := 2) rfl hi, hx.ldfi (n := 2) rfl ha (off := 1) (u := .int .i64 a.mode) rfl]
    exact h

theorem c_goes1 {q r : Nat} {tx m : Int} (hq : H q = some (.cs [.int .i64 tx] 3)) (hr : H r = some (.cs [.int .i64 m] 3)) : FnP H (.func (.func 412) #[] #[.pointer (some ⟨q, 0, none⟩), .pointer (some ⟨r, 0, none⟩)]) (fun h : Hold => decide (h.tx ≠ tx) && !cmpt (md h.mode) (md m)) := by
  intro a K hk
  show T PP 412 _ H K
  refine T.pure (fun Q' hQ => ?_) hk
  apply T412; unfold sh412
  intro p hp
  have hs := Sub.upd_fresh (.cs (Enc.val a).cells.toList 121) hp
  have e1 := hs q _ hq
  have e3 := hs r _ hr
  have e2 := upd_same H p (.cs (Enc.val a).cells.toList 121)
  generalize upd H p (.cs (Enc.val a).cells.toList 121) = H2 at *
  simp only [fldA_p, ld1_cs e1, ld1_cs e2, ld1_cs e3, Enc.val, Value.cells, List.getElem?_cons_zero, List.getElem?_cons_succ, Nat.zero_add, ev_some, i_neq]
  by_cases h0 : a.tx = tx
  · rw [Br_f (by simpa using h0)]; simpa [h0] using hQ _ hs
  · rw [Br_t (by simpa using h0)]
    refine c_compat ?_
    simp only [u_not, ev_some]
    simpa [h0] using hQ _ hs

theorem c_goes {x : Value} {l : List Hold} {tx m : Int} (hx : Slc H x l) (hb : l.length ≤ 1000000000) (h : Q (.bool (goes l tx m)) H) : T PP 357 [x, .int .i64 tx, .int .i64 m] H Q := by
  refine T.pure (fun Q' hQ => ?_) h
  apply T357; unfold sh357
  intro p hp q hq
  have hne : q ≠ p := fun e => by subst e; rw [upd_same] at hq; cases hq
  have hs1 := Sub.upd_fresh (.cs [.int .i64 tx] 3) hp
  have hs2 := Sub.upd_fresh (.cs [.int .i64 m] 3) hq
  apply T411; unfold sh411
  refine c_indexH (p := fun h : Hold => decide (h.tx ≠ tx) && !cmpt (md h.mode) (md m)) ((hx.sub hs1).sub hs2) (c_goes1 (tx := tx) (m := m) (hs2 p _ (upd_same _ _ _)) (upd_same _ _ _)) hb ?_
  simp only [i_geq, ev_some, u_not]
  have := hQ _ (hs1.trans hs2)
  have e : goes l tx m = !decide (0 ≤ fix (fun h : Hold => decide (h.tx ≠ tx) && !cmpt (md h.mode) (md m)) l) := by
    unfold goes; congr 1
    have := fix_neg (fun h : Hold => decide (h.tx ≠ tx) && !cmpt (md h.mode) (md m)) l
    rw [Bool.eq_iff_iff, decide_eq_true_iff, ← Bool.not_eq_false, ← this]; omega
  rw [e] at this; exact this

theorem c_grpset {x : Value} {l : List Hold} {tx m : Int} (hx : Slc H x l) (hb : l.length ≤ 100000000)
    (h : ∀ v' H', Own H' v' (setH l tx m) → Sub H H' → (∀ b ∈ blk v', H b = none) → Q v' H') : T PP 266 [x, .int .i64 tx, .int .i64 m] H Q := by
  apply T266; unfold sh266
  refine c_cloneH hx (by omega) fun v1 H1 o1 s1 f1 => ?_
  refine c_grpfind (hx.sub s1) (by omega) ?_
  simp only [i_lss, ev_some]
  unfold setH at h
  cases hf : l.findIdx? (fun h => decide (h.tx = tx)) with
  | none =>
    rw [hf] at h
    rw [fix_none hf, Br_t (by omega)]
    have b9 : bldV [(.int .i64 0), (.int .i64 0)] [(0, 1, .int .i64 tx), (1, 1, .int .i64 m)] = some (Enc.val (⟨tx, m⟩ : Hold)) := rfl
    rw [b9, ev_some]
    have b10 : bldL (zRow 1 [(.int .i64 0), (.int .i64 0)]) [(0, 2, Enc.val (⟨tx, m⟩ : Hold))] = some (enc [(⟨tx, m⟩ : Hold)]) := rfl
    rw [b10, ev_some]
    intro q hq
    have s2 := Sub.upd_fresh (.cs (enc [(⟨tx, m⟩ : Hold)]) 121) hq
    refine appHd (o1.sub s2) (own_new [(⟨tx, m⟩ : Hold)]).slc (by simp; omega) fun v3 H3 o3 c3 f3 => ?_
    refine h v3 H3 o3 ((s1.trans s2).chg c3 f1) fun b hb => ?_
    rcases f3 b hb with f | f
    · exact f1 b f
    · cases hh : H b with
      | none => rfl
      | some k => have := (s1.trans s2) b k hh; rw [f] at this; cases this
  | some i =>
    rw [hf] at h
    obtain ⟨a, ha, hfd, hp⟩ := find_idx hf
    have hi := (List.getElem?_eq_some_iff.1 ha).1
    rw [fix_some hf, Br_f (by omega)]
    simp (disch := omega) only [o1.slc.ixi (n := 2) rfl, ev_some, Int.toNat_natCast, o1.slc.fldi (n := 2) rfl hi]
    have htx : a.tx = tx := by simpa using hp
    refine o1.stp (n := 2) rfl ha (⟨tx, m⟩ : Hold) (m := 1) rfl rfl (by decide) ?_ fun H2 o2 c2 => ?_
    · show [Value.int .i64 tx, .int .i64 m] = over [Value.int .i64 a.tx, .int .i64 a.mode] 1 [.int .i64 m]
      rw [htx]; rfl
    · exact h v1 H2 o2 (s1.chg c2 f1) f1

theorem c_check {tx m flag : Int} (h : Q (.int .i64 (chkR tx m flag)) H) : T PP 263 [.int .i64 tx, .int .i64 m, .int .i64 flag] H Q := by
  apply T263; unfold sh263
  intro K step
  have yes : chkR tx m flag = 1 → K [.bool true] H := fun e => by apply step; rw [Br_true]; rw [e] at h; exact h
  have no : chkR tx m flag = 0 → K [.bool false] H := fun e => by apply step; rw [Br_false]; rw [e] at h; exact h
  simp only [i_lss, ev_some]
  by_cases h1 : tx < 1
  · rw [Br_t h1]; exact yes (by simp [chkR, h1])
  rw [Br_f h1]
  refine c_may ?_
  simp only [u_not, ev_some]
  by_cases h2 : 0 ≤ m ∧ m < 7
  · rw [show (!decide (0 ≤ m ∧ m < 7)) = false by simp [h2], Br_false]
    simp only [i_eql, ev_some]
    by_cases h3 : m = 0
    · rw [Br_t h3]; exact yes (by simp [chkR, h3])
    rw [Br_f h3]
    by_cases h4 : flag < 0
    · rw [Br_t h4]; exact yes (by simp [chkR, h4])
    rw [Br_f h4]
    simp only [i_gtr, ev_some]
    by_cases h5 : 2 < flag
    · rw [show decide (2 < flag) = true by simpa using h5]; exact yes (by simp [chkR, h5])
    · rw [show decide (2 < flag) = false by simpa using h5]; exact no (by unfold chkR; rw [if_neg]; omega)
  · rw [show (!decide (0 ≤ m ∧ m < 7)) = true by rw [decide_eq_false h2]; rfl, Br_true]; exact yes (by unfold chkR; rw [if_pos (.inr (.inl h2))])

theorem c_target {had m : Int} (h : Q (.tuple #[.int .i64 (target had m), .bool (other had m)]) H) : T PP 264 [.int .i64 had, .int .i64 m] H Q := by
  apply T264; unfold sh264
  refine c_sup (c_covers ?_)
  unfold other at h
  show Br (.bool (cov (md (target had m)) (md had))) _ _
  refine Br_bools (fun e => ?_) (fun e => ?_)
  · refine c_covers ?_
    simp only [u_not, ev_some]
    rw [e, Bool.true_and] at h; exact h
  · rw [e, Bool.false_and] at h; exact h

theorem c_place {x : Value} {l : List Wait} {c : Bool} (hx : Slc H x l) (hb : l.length ≤ 1000000000) (h : Q (.int .i64 (place l c : Nat)) H) : T PP 356 [x, .bool c] H Q := by
  refine T.pure (fun Q' hQ => ?_) h
  apply T356; unfold sh356
  simp only [u_not, ev_some, hx.lenS]
  unfold place at hQ
  cases c with
  | false => simpa using hQ H (Sub.refl H)
  | true =>
    simp only [Bool.not_true, Br_false]
    intro I stepI
    have main : ∀ (n i : Nat) (z : Int) (H1 : Heap), l.length - i = n → z = i → i ≤ l.length → Sub H H1 → I [.int .i64 (placeC (l.take i) : Nat), x, .int .i64 (l.length : Int), .int .i64 z] H1 := by
      intro n
      induction n using Nat.strongRecOn with
      | _ n ih =>
      intro i z H1 hn hz hi s1
      apply stepI
      simp only [i_lss, ev_some]
      by_cases hlt : i < l.length
      · rw [Br_t (by omega)]
        intro K stepK
        obtain ⟨w, hw⟩ : ∃ w, l[i]? = some w := ⟨l[i]'(by omega), List.getElem?_eq_getElem (by omega)⟩
        have e0 : z.toNat = i := by omega
        have hpl : placeC (l.take (i + 1)) = if w.conv then i + 1 else placeC (l.take i) := by
          rw [List.take_add_one, hw]
          show placeC (l.take i ++ [w]) = _
          rw [placeC_snoc, List.length_take, Nat.min_eq_left (by omega)]
        simp (disch := omega) only [(hx.sub s1).ixi (n := 4) rfl, ev_some, e0, (hx.sub s1).rdn (n := 4) rfl rfl hw]
        intro p hp
        have st : Sl.sto 4 (upd H1 p (.cs [(.int .i64 0), (.int .i64 0), (.bool false), (.bool false)] 48)) (.pointer (some ⟨p, 0, none⟩)) (Enc.val w) = some (upd (upd H1 p (.cs [(.int .i64 0), (.int .i64 0), (.bool false), (.bool false)] 48)) p (.cs [.int .i64 w.tx, .int .i64 w.mode, .bool w.conv, .bool w.inst] 48)) := by
          simp [Sl.sto, upd_same, Value.cells, Sl.flat, Value.oneCell', over, Enc.val]
        rw [st, ev_some, upd_upd]
        have s2 : Sub H1 (upd H1 p (.cs [.int .i64 w.tx, .int .i64 w.mode, .bool w.conv, .bool w.inst] 48)) := Sub.upd_fresh _ hp
        have e2 := upd_same H1 p (.cs [.int .i64 w.tx, .int .i64 w.mode, .bool w.conv, .bool w.inst] 48)
        generalize upd H1 p (.cs [.int .i64 w.tx, .int .i64 w.mode, .bool w.conv, .bool w.inst] 48) = H2 at *
        simp only [fldA_p, ld1_cs e2, List.getElem?_cons_zero, List.getElem?_cons_succ, Nat.zero_add, ev_some]
        have next : K [.int .i64 (placeC (l.take (i + 1)) : Nat), x, .int .i64 (l.length : Int), .int .i64 z] H2 := by
          apply stepK
          simp (disch := omega) only [i_add, ev_some]
          exact ih _ (by omega) (i + 1) _ H2 rfl (by omega) (by omega) (s1.trans s2)
        rw [hpl] at next
        refine Br_bools (fun e => ?_) (fun e => ?_)
        · simp (disch := omega) only [i_add, ev_some]
          rw [e, if_pos rfl, show ((i + 1 : Nat) : Int) = z + 1 by omega] at next; exact next
        · rw [e, if_neg (by simp)] at next; exact next
      · rw [Br_f (by omega)]
        have := hQ H1 s1
        rw [if_pos rfl] at this
        rw [List.take_of_length_le (by omega)]; exact this
    have := main _ 0 0 H rfl rfl (Nat.zero_le _) (Sub.refl H)
    simpa [placeC] using this
end
end Go.Sl
