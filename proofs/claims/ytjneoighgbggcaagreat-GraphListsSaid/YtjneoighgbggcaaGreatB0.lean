/- Proved here: the structs of this program that are compared with == are compared cell by cell. -/
import Derived.Test.YtjneoighgbggcaaGreatA1
import Derived.Test.YtjneoighgbggcaaGreatProg
namespace Go.Sl
open Go Go.Proofs
noncomputable abbrev PP : Program := Tryz.prog
theorem foll : PP.follows .mixedOrders = true := by kernel_rfl

theorem part_int {t : TypeId} {k : IntKind} (hd : PP.underlying t = some (.int k)) (hs : szT PP t = some 1) (cs : Array Value) (off : Nat) (v : Value) (h : cs[off]? = some v) (w : World) : (part t cs off).run PP w = .ok v w := part_run hd hs h
theorem eq_int {t : TypeId} {k : IntKind} (hd : PP.underlying t = some (.int k)) (n : Nat) (a b : Int) (w : World) : (Op.equalIn (n+1) t (.int k a) (.int k b)).run PP w = .ok (a == b) w := by
  simp only [Op.equalIn, Sem.run_bind, run_underlying hd w, Result.andThen_ok, if_true, Sem.run_pure]

theorem u3 : PP.underlying 3 = some (.int .i64) := by kernel_rfl
theorem s3 : szT PP 3 = some 1 := by kernel_rfl
theorem st27 : PP.stoodInHeld 27 = false := by kernel_rfl
theorem u27 : PP.underlying 27 = some (.struct #[{ name := "From", type := 3, offset := 0, embedded := false, tag := "", pkgPath := "", byteOffset := 0 }, { name := "To", type := 3, offset := 1, embedded := false, tag := "", pkgPath := "", byteOffset := 8 }]) := by kernel_rfl
theorem z27 : zeT PP 27 = some [.int .i64 0, .int .i64 0] := by kernel_rfl

theorem guard_none {t : TypeId} {a b : Array Value} {w : World} (op : BinOp) (X Y : Operand) (h : PP.eqGuardType PP.depth t = false) : (eqGuard op t X Y (.agg a) (.agg b)).run PP w = .ok () w := by
  unfold eqGuard
  cases op <;> simp [h]

theorem eq27 : EqPlain PP 27 := by
  intro z a b r w op X Y hz h
  rw [z27] at hz; cases hz
  obtain ⟨x0, y0, a', b', t, ha, hb, h1, rfl⟩ := eqC_int h
  obtain ⟨x1, y1, a'', b'', t', rfl, rfl, h2, rfl⟩ := eqC_int h1
  obtain ⟨rfl, rfl, rfl⟩ := eqC_nil h2
  have ha' : a = #[.int .i64 x0, .int .i64 x1] := by rw [← Array.toArray_toList (xs := a), ha]
  have hb' : b = #[.int .i64 y0, .int .i64 y1] := by rw [← Array.toArray_toList (xs := b), hb]
  subst ha' hb'
  refine ⟨?_, guard_none op X Y (by kernel_rfl)⟩
  rw [equal_succ]
  have : ∀ n, (Op.equalIn (n + 1 + 1) 27 (.agg #[.int .i64 x0, .int .i64 x1]) (.agg #[.int .i64 y0, .int .i64 y1])).run PP w = .ok ((x0 == y0) && ((x1 == y1) && true)) w := by
    intro n
    unfold Op.equalIn
    simp only [Sem.run_bind, run_underlying u27 w, Result.andThen_ok, run_program, st27, Bool.false_eq_true, if_false]
    simp only [List.forIn_toArray, List.forIn_cons, List.forIn_nil, Sem.run_bind]
    by_cases h0 : x0 = y0 <;> by_cases h1 : x1 = y1 <;> simp [part_int u3 s3, eq_int u3, h0, h1]
  exact this 9998

theorem eq_bool {t : TypeId} (hd : PP.underlying t = some .bool) (n : Nat) (a b : Bool) (w : World) : (Op.equalIn (n+1) t (.bool a) (.bool b)).run PP w = .ok (a == b) w := by
  simp only [Op.equalIn, Sem.run_bind, run_underlying hd w, Result.andThen_ok, Sem.run_pure]
theorem part_bool {t : TypeId} (hd : PP.underlying t = some .bool) (hs : szT PP t = some 1) (cs : Array Value) (off : Nat) (v : Value) (h : cs[off]? = some v) (w : World) : (part t cs off).run PP w = .ok v w := part_run hd hs h
theorem part_arr {t e : TypeId} {k n : Nat} (hd : PP.underlying t = some (.array k e)) (hs : szT PP t = some n) (cs : Array Value) (off : Nat) (v : Value) (h : some (.agg (cs.extract off (off + n))) = some v) (w : World) : (part t cs off).run PP w = .ok v w := part_run hd hs h
theorem part_str {t : TypeId} {fs : Array Field} {n : Nat} (hd : PP.underlying t = some (.struct fs)) (hs : szT PP t = some n) (cs : Array Value) (off : Nat) (v : Value) (h : some (.agg (cs.extract off (off + n))) = some v) (w : World) : (part t cs off).run PP w = .ok v w := part_run hd hs h
theorem u4 : PP.underlying 4 = some .bool := by kernel_rfl
theorem s4 : szT PP 4 = some 1 := by kernel_rfl
theorem u37 : PP.underlying 37 = some (.array 4 3) := by kernel_rfl
theorem s37 : szT PP 37 = some 4 := by kernel_rfl
theorem s39 : szT PP 39 = some 5 := by kernel_rfl

theorem eq37 (n : Nat) (x0 x1 x2 x3 y0 y1 y2 y3 : Int) (w : World) : (Op.equalIn (n + 1 + 1) 37 (.agg #[.int .i64 x0, .int .i64 x1, .int .i64 x2, .int .i64 x3]) (.agg #[.int .i64 y0, .int .i64 y1, .int .i64 y2, .int .i64 y3])).run PP w =
    .ok ((x0 == y0) && ((x1 == y1) && ((x2 == y2) && (x3 == y3)))) w := by
  unfold Op.equalIn
  simp only [Sem.run_bind, run_underlying u37 w, Result.andThen_ok, run_size s3]
  simp only [Std.Legacy.Range.forIn_eq_forIn_range', Std.Legacy.Range.size, Nat.sub_zero, Nat.add_one_sub_one, Nat.div_one, List.range', List.forIn_cons, List.forIn_nil, Sem.run_bind]
  by_cases h0 : x0 = y0 <;> by_cases h1 : x1 = y1 <;> by_cases h2 : x2 = y2 <;> by_cases h3 : x3 = y3 <;> simp [part_int u3 s3, eq_int u3, h0, h1, h2, h3]
theorem st48 : PP.stoodInHeld 48 = false := by kernel_rfl
theorem u48 : PP.underlying 48 = some (.struct #[{ name := "Tx", type := 3, offset := 0, embedded := false, tag := "", pkgPath := "", byteOffset := 0 }, { name := "Mode", type := 3, offset := 1, embedded := false, tag := "", pkgPath := "", byteOffset := 8 }, { name := "Convert", type := 4, offset := 2, embedded := false, tag := "", pkgPath := "", byteOffset := 16 }, { name := "Instant", type := 4, offset := 3, embedded := false, tag := "", pkgPath := "", byteOffset := 17 }]) := by kernel_rfl
theorem z48 : zeT PP 48 = some [.int .i64 0, .int .i64 0, .bool false, .bool false] := by kernel_rfl
theorem eq48 : EqPlain PP 48 := by
  intro z a b r w op X Y hz h
  rw [z48] at hz; cases hz
  obtain ⟨x0, y0, a0, b0, t0, ha, hb, h0, rfl⟩ := eqC_int h
  obtain ⟨x1, y1, a1, b1, t1, rfl, rfl, h1, rfl⟩ := eqC_int h0
  obtain ⟨x2, y2, a2, b2, t2, rfl, rfl, h2, rfl⟩ := eqC_bool h1
  obtain ⟨x3, y3, a3, b3, t3, rfl, rfl, h3, rfl⟩ := eqC_bool h2
  obtain ⟨rfl, rfl, rfl⟩ := eqC_nil h3
  have ha' : a = #[.int .i64 x0, .int .i64 x1, .bool x2, .bool x3] := by rw [← Array.toArray_toList (xs := a), ha]
  have hb' : b = #[.int .i64 y0, .int .i64 y1, .bool y2, .bool y3] := by rw [← Array.toArray_toList (xs := b), hb]
  subst ha' hb'
  refine ⟨?_, guard_none op X Y (by kernel_rfl)⟩
  rw [equal_succ]
  have : ∀ n, (Op.equalIn (n + 1 + 1 + 1 + 1) 48 (.agg #[.int .i64 x0, .int .i64 x1, .bool x2, .bool x3]) (.agg #[.int .i64 y0, .int .i64 y1, .bool y2, .bool y3])).run PP w = .ok ((x0 == y0) && ((x1 == y1) && ((x2 == y2) && ((x3 == y3) && true)))) w := by
    intro n
    unfold Op.equalIn
    simp only [Sem.run_bind, run_underlying u48 w, Result.andThen_ok, run_program, st48, Bool.false_eq_true, if_false]
    simp only [List.forIn_toArray, List.forIn_cons, List.forIn_nil, Sem.run_bind]
    by_cases g0 : x0 = y0 <;> by_cases g1 : x1 = y1 <;> by_cases g2 : x2 = y2 <;> by_cases g3 : x3 = y3 <;> simp [part_int u3 s3, part_bool u4 s4, eq_int u3, eq_bool u4, g0, g1, g2, g3]
  exact this 9996
theorem st121 : PP.stoodInHeld 121 = false := by kernel_rfl
theorem u121 : PP.underlying 121 = some (.struct #[{ name := "Tx", type := 3, offset := 0, embedded := false, tag := "", pkgPath := "", byteOffset := 0 }, { name := "Mode", type := 3, offset := 1, embedded := false, tag := "", pkgPath := "", byteOffset := 8 }]) := by kernel_rfl
theorem z121 : zeT PP 121 = some [.int .i64 0, .int .i64 0] := by kernel_rfl
theorem eq121 : EqPlain PP 121 := by
  intro z a b r w op X Y hz h
  rw [z121] at hz; cases hz
  obtain ⟨x0, y0, a0, b0, t0, ha, hb, h0, rfl⟩ := eqC_int h
  obtain ⟨x1, y1, a1, b1, t1, rfl, rfl, h1, rfl⟩ := eqC_int h0
  obtain ⟨rfl, rfl, rfl⟩ := eqC_nil h1
  have ha' : a = #[.int .i64 x0, .int .i64 x1] := by rw [← Array.toArray_toList (xs := a), ha]
  have hb' : b = #[.int .i64 y0, .int .i64 y1] := by rw [← Array.toArray_toList (xs := b), hb]
  subst ha' hb'
  refine ⟨?_, guard_none op X Y (by kernel_rfl)⟩
  rw [equal_succ]
  have : ∀ n, (Op.equalIn (n + 1 + 1 + 1 + 1) 121 (.agg #[.int .i64 x0, .int .i64 x1]) (.agg #[.int .i64 y0, .int .i64 y1])).run PP w = .ok ((x0 == y0) && ((x1 == y1) && true)) w := by
    intro n
    unfold Op.equalIn
    simp only [Sem.run_bind, run_underlying u121 w, Result.andThen_ok, run_program, st121, Bool.false_eq_true, if_false]
    simp only [List.forIn_toArray, List.forIn_cons, List.forIn_nil, Sem.run_bind]
    by_cases g0 : x0 = y0 <;> by_cases g1 : x1 = y1 <;> simp [part_int u3 s3, eq_int u3, g0, g1]
  exact this 9996
theorem st434 : PP.stoodInHeld 434 = false := by kernel_rfl
theorem u434 : PP.underlying 434 = some (.struct #[{ name := "from", type := 3, offset := 0, embedded := false, tag := "", pkgPath := "escutcheon/txn", byteOffset := 0 }, { name := "to", type := 3, offset := 1, embedded := false, tag := "", pkgPath := "escutcheon/txn", byteOffset := 8 }]) := by kernel_rfl
theorem z434 : zeT PP 434 = some [.int .i64 0, .int .i64 0] := by kernel_rfl
theorem eq434 : EqPlain PP 434 := by
  intro z a b r w op X Y hz h
  rw [z434] at hz; cases hz
  obtain ⟨x0, y0, a0, b0, t0, ha, hb, h0, rfl⟩ := eqC_int h
  obtain ⟨x1, y1, a1, b1, t1, rfl, rfl, h1, rfl⟩ := eqC_int h0
  obtain ⟨rfl, rfl, rfl⟩ := eqC_nil h1
  have ha' : a = #[.int .i64 x0, .int .i64 x1] := by rw [← Array.toArray_toList (xs := a), ha]
  have hb' : b = #[.int .i64 y0, .int .i64 y1] := by rw [← Array.toArray_toList (xs := b), hb]
  subst ha' hb'
  refine ⟨?_, guard_none op X Y (by kernel_rfl)⟩
  rw [equal_succ]
  have : ∀ n, (Op.equalIn (n + 1 + 1 + 1 + 1) 434 (.agg #[.int .i64 x0, .int .i64 x1]) (.agg #[.int .i64 y0, .int .i64 y1])).run PP w = .ok ((x0 == y0) && ((x1 == y1) && true)) w := by
    intro n
    unfold Op.equalIn
    simp only [Sem.run_bind, run_underlying u434 w, Result.andThen_ok, run_program, st434, Bool.false_eq_true, if_false]
    simp only [List.forIn_toArray, List.forIn_cons, List.forIn_nil, Sem.run_bind]
    by_cases g0 : x0 = y0 <;> by_cases g1 : x1 = y1 <;> simp [part_int u3 s3, eq_int u3, g0, g1]
  exact this 9996
theorem st39 : PP.stoodInHeld 39 = false := by kernel_rfl
theorem u39 : PP.underlying 39 = some (.struct #[{ name := "N", type := 37, offset := 0, embedded := false, tag := "", pkgPath := "", byteOffset := 0 }, { name := "Depth", type := 3, offset := 4, embedded := false, tag := "", pkgPath := "", byteOffset := 32 }]) := by kernel_rfl
theorem z39 : zeT PP 39 = some [.int .i64 0, .int .i64 0, .int .i64 0, .int .i64 0, .int .i64 0] := by kernel_rfl
theorem eq39x (n : Nat) (x0 x1 x2 x3 x4 y0 y1 y2 y3 y4 : Int) (w : World) : (Op.equalIn (n + 1 + 1 + 1) 39 (.agg #[.int .i64 x0, .int .i64 x1, .int .i64 x2, .int .i64 x3, .int .i64 x4]) (.agg #[.int .i64 y0, .int .i64 y1, .int .i64 y2, .int .i64 y3, .int .i64 y4])).run PP w = .ok ((x0 == y0) && ((x1 == y1) && ((x2 == y2) && ((x3 == y3) && ((x4 == y4) && true))))) w := by
  unfold Op.equalIn
  simp only [Sem.run_bind, run_underlying u39 w, Result.andThen_ok, run_program, st39, Bool.false_eq_true, if_false]
  simp only [List.forIn_toArray, List.forIn_cons, List.forIn_nil, Sem.run_bind]
  by_cases g0 : x0 = y0 <;> by_cases g1 : x1 = y1 <;> by_cases g2 : x2 = y2 <;> by_cases g3 : x3 = y3 <;> by_cases g4 : x4 = y4 <;> simp [part_int u3 s3, eq_int u3, g0, g1, g2, g3, g4, part_arr u37 s37, eq37]
theorem eq39 : EqPlain PP 39 := by
  intro z a b r w op X Y hz h
  rw [z39] at hz; cases hz
  obtain ⟨x0, y0, a0, b0, t0, ha, hb, h0, rfl⟩ := eqC_int h
  obtain ⟨x1, y1, a1, b1, t1, rfl, rfl, h1, rfl⟩ := eqC_int h0
  obtain ⟨x2, y2, a2, b2, t2, rfl, rfl, h2, rfl⟩ := eqC_int h1
  obtain ⟨x3, y3, a3, b3, t3, rfl, rfl, h3, rfl⟩ := eqC_int h2
  obtain ⟨x4, y4, a4, b4, t4, rfl, rfl, h4, rfl⟩ := eqC_int h3
  obtain ⟨rfl, rfl, rfl⟩ := eqC_nil h4
  have ha' : a = #[.int .i64 x0, .int .i64 x1, .int .i64 x2, .int .i64 x3, .int .i64 x4] := by rw [← Array.toArray_toList (xs := a), ha]
  have hb' : b = #[.int .i64 y0, .int .i64 y1, .int .i64 y2, .int .i64 y3, .int .i64 y4] := by rw [← Array.toArray_toList (xs := b), hb]
  subst ha' hb'
  refine ⟨?_, guard_none op X Y (by kernel_rfl)⟩
  rw [equal_succ]
  exact eq39x 9997 _ _ _ _ _ _ _ _ _ _ w
theorem st56 : PP.stoodInHeld 56 = false := by kernel_rfl
theorem u56 : PP.underlying 56 = some (.struct #[{ name := "Path", type := 39, offset := 0, embedded := false, tag := "", pkgPath := "", byteOffset := 0 }, { name := "Mode", type := 3, offset := 5, embedded := false, tag := "", pkgPath := "", byteOffset := 40 }]) := by kernel_rfl
theorem z56 : zeT PP 56 = some [.int .i64 0, .int .i64 0, .int .i64 0, .int .i64 0, .int .i64 0, .int .i64 0] := by kernel_rfl
theorem eq56 : EqPlain PP 56 := by
  intro z a b r w op X Y hz h
  rw [z56] at hz; cases hz
  obtain ⟨x0, y0, a0, b0, t0, ha, hb, h0, rfl⟩ := eqC_int h
  obtain ⟨x1, y1, a1, b1, t1, rfl, rfl, h1, rfl⟩ := eqC_int h0
  obtain ⟨x2, y2, a2, b2, t2, rfl, rfl, h2, rfl⟩ := eqC_int h1
  obtain ⟨x3, y3, a3, b3, t3, rfl, rfl, h3, rfl⟩ := eqC_int h2
  obtain ⟨x4, y4, a4, b4, t4, rfl, rfl, h4, rfl⟩ := eqC_int h3
  obtain ⟨x5, y5, a5, b5, t5, rfl, rfl, h5, rfl⟩ := eqC_int h4
  obtain ⟨rfl, rfl, rfl⟩ := eqC_nil h5
  have ha' : a = #[.int .i64 x0, .int .i64 x1, .int .i64 x2, .int .i64 x3, .int .i64 x4, .int .i64 x5] := by rw [← Array.toArray_toList (xs := a), ha]
  have hb' : b = #[.int .i64 y0, .int .i64 y1, .int .i64 y2, .int .i64 y3, .int .i64 y4, .int .i64 y5] := by rw [← Array.toArray_toList (xs := b), hb]
  subst ha' hb'
  refine ⟨?_, guard_none op X Y (by kernel_rfl)⟩
  rw [equal_succ]
  have : ∀ n, (Op.equalIn (n + 1 + 1 + 1 + 1) 56 (.agg #[.int .i64 x0, .int .i64 x1, .int .i64 x2, .int .i64 x3, .int .i64 x4, .int .i64 x5]) (.agg #[.int .i64 y0, .int .i64 y1, .int .i64 y2, .int .i64 y3, .int .i64 y4, .int .i64 y5])).run PP w = .ok ((x0 == y0) && ((x1 == y1) && ((x2 == y2) && ((x3 == y3) && ((x4 == y4) && ((x5 == y5) && true)))))) w := by
    intro n
    unfold Op.equalIn
    simp only [Sem.run_bind, run_underlying u56 w, Result.andThen_ok, run_program, st56, Bool.false_eq_true, if_false]
    simp only [List.forIn_toArray, List.forIn_cons, List.forIn_nil, Sem.run_bind]
    by_cases g0 : x0 = y0 <;> by_cases g1 : x1 = y1 <;> by_cases g2 : x2 = y2 <;> by_cases g3 : x3 = y3 <;> by_cases g4 : x4 = y4 <;> by_cases g5 : x5 = y5 <;> simp [part_int u3 s3, eq_int u3, part_str u39 s39, eq39x, g0, g1, g2, g3, g4, g5]
  exact this 9996
theorem st199 : PP.stoodInHeld 199 = false := by kernel_rfl
theorem u199 : PP.underlying 199 = some (.struct #[{ name := "Path", type := 39, offset := 0, embedded := false, tag := "", pkgPath := "", byteOffset := 0 }, { name := "Val", type := 3, offset := 5, embedded := false, tag := "", pkgPath := "", byteOffset := 40 }]) := by kernel_rfl
theorem z199 : zeT PP 199 = some [.int .i64 0, .int .i64 0, .int .i64 0, .int .i64 0, .int .i64 0, .int .i64 0] := by kernel_rfl
theorem eq199 : EqPlain PP 199 := by
  intro z a b r w op X Y hz h
  rw [z199] at hz; cases hz
  obtain ⟨x0, y0, a0, b0, t0, ha, hb, h0, rfl⟩ := eqC_int h
  obtain ⟨x1, y1, a1, b1, t1, rfl, rfl, h1, rfl⟩ := eqC_int h0
  obtain ⟨x2, y2, a2, b2, t2, rfl, rfl, h2, rfl⟩ := eqC_int h1
  obtain ⟨x3, y3, a3, b3, t3, rfl, rfl, h3, rfl⟩ := eqC_int h2
  obtain ⟨x4, y4, a4, b4, t4, rfl, rfl, h4, rfl⟩ := eqC_int h3
  obtain ⟨x5, y5, a5, b5, t5, rfl, rfl, h5, rfl⟩ := eqC_int h4
  obtain ⟨rfl, rfl, rfl⟩ := eqC_nil h5
  have ha' : a = #[.int .i64 x0, .int .i64 x1, .int .i64 x2, .int .i64 x3, .int .i64 x4, .int .i64 x5] := by rw [← Array.toArray_toList (xs := a), ha]
  have hb' : b = #[.int .i64 y0, .int .i64 y1, .int .i64 y2, .int .i64 y3, .int .i64 y4, .int .i64 y5] := by rw [← Array.toArray_toList (xs := b), hb]
  subst ha' hb'
  refine ⟨?_, guard_none op X Y (by kernel_rfl)⟩
  rw [equal_succ]
  have : ∀ n, (Op.equalIn (n + 1 + 1 + 1 + 1) 199 (.agg #[.int .i64 x0, .int .i64 x1, .int .i64 x2, .int .i64 x3, .int .i64 x4, .int .i64 x5]) (.agg #[.int .i64 y0, .int .i64 y1, .int .i64 y2, .int .i64 y3, .int .i64 y4, .int .i64 y5])).run PP w = .ok ((x0 == y0) && ((x1 == y1) && ((x2 == y2) && ((x3 == y3) && ((x4 == y4) && ((x5 == y5) && true)))))) w := by
    intro n
    unfold Op.equalIn
    simp only [Sem.run_bind, run_underlying u199 w, Result.andThen_ok, run_program, st199, Bool.false_eq_true, if_false]
    simp only [List.forIn_toArray, List.forIn_cons, List.forIn_nil, Sem.run_bind]
    by_cases g0 : x0 = y0 <;> by_cases g1 : x1 = y1 <;> by_cases g2 : x2 = y2 <;> by_cases g3 : x3 = y3 <;> by_cases g4 : x4 = y4 <;> by_cases g5 : x5 = y5 <;> simp [part_int u3 s3, eq_int u3, part_str u39 s39, eq39x, g0, g1, g2, g3, g4, g5]
  exact this 9996
def EE : List TypeId := [27, 39, 48, 56, 121, 199, 434]
theorem eok : EOk PP EE := fun t h => by
  simp only [EE, List.mem_cons, List.not_mem_nil, or_false] at h
  rcases h with rfl | rfl | rfl | rfl | rfl | rfl | rfl
  · exact eq27
  · exact eq39
  · exact eq48
  · exact eq56
  · exact eq121
  · exact eq199
  · exact eq434
end Go.Sl
