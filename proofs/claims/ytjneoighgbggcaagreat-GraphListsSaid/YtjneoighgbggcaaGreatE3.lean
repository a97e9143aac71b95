/- Proved here: how a table lies in memory, and how its parts change. -/
import Derived.Test.YtjneoighgbggcaaGreatE2
namespace Go.Sl
open Go Go.Proofs

/-- A node with its locks and requests. -/
structure Ent1 where
  p : Path
  hs : List Hold
  ws : List Wait
  deriving Inhabited, DecidableEq

def szE (e : Ent1) : Nat := e.hs.length + e.ws.length
def szT1 (es : List Ent1) : Nat := (es.map szE).sum

/-- What holds of a table as it lies. oT tells whose a block is: 0 its own, 1 the arena's, 2 the buckets', 3 + i: those of the locks in place i. -/
structure TabO (oT : Nat → Nat) (S : Nat → Prop) (H : Heap) (t ta tb : Nat) (pl : List (Option Head)) (fr : List Nat) (bk : List (List Pair)) (qe : List (Option Ent1)) (most full reqs : Int) : Prop where
  st : S t
  ot : oT t = 0
  ht : H t = some (.cs [ptr ta, ptr tb, .int .i64 most, .int .i64 full, .int .i64 reqs] 142)
  arn : Arn (fun b => S b ∧ oT b = 1) H ta pl fr
  bkt : Bkt (fun b => S b ∧ oT b = 2) H tb bk
  inv : BInv bk
  cnt : tot bk + fr.length = pl.length
  len : bk.length ≤ 5004
  ql : qe.length = pl.length
  used : ∀ (i : Nat) (h : Head), pl[i]? = some (some h) → ∃ e, qe[i]? = some (some e) ∧ e.p = h.p ∧ pMay h.p = true ∧ Que (fun b => S b ∧ oT b = 3 + i) H h.q e.hs e.ws
  free : ∀ (i : Nat), pl[i]? = some none → qe[i]? = some none
  map : ∀ (k : Nat) (i : Int), bGet bk k = some i ↔ 0 ≤ i ∧ ∃ h, pl[i.toNat]? = some (some h) ∧ pKey h.p = k
  known : ∀ b, S b → H b ≠ none

theorem TabO.keep {oT : Nat → Nat} {S : Nat → Prop} {H H' : Heap} {t ta tb : Nat} {pl : List (Option Head)} {fr : List Nat} {bk : List (List Pair)} {qe : List (Option Ent1)} {most full reqs : Int} (h : TabO oT S H t ta tb pl fr bk qe most full reqs)
    (s : ∀ b k, S b → H b = some k → H' b = some k) : TabO oT S H' t ta tb pl fr bk qe most full reqs where
  st := h.st
  ot := h.ot
  ht := s t _ h.st h.ht
  arn := h.arn.keep fun b k hb hk => s b k hb.1 hk
  bkt := h.bkt.keep fun b k hb hk => s b k hb.1 hk
  inv := h.inv
  cnt := h.cnt
  len := h.len
  ql := h.ql
  used := fun i hd hi => by
    obtain ⟨e, a, b, c, d⟩ := h.used i hd hi
    exact ⟨e, a, b, c, d.keep fun b k hb hk => s b k hb.1 hk⟩
  free := h.free
  map := h.map
  known := fun b hb => by
    cases hh : H b with
    | none => exact absurd hh (h.known b hb)
    | some k => rw [s b k hb hh]; simp

theorem pKeyN_inj {p q : Path} (hp : pMay p = true) (hq : pMay q = true) : ∀ i, i ≤ 4 → pKeyN p i = pKeyN q i → ∀ j, j < i → p.n j = q.n j
  | 0, _, _, j, hj => by omega
  | i + 1, hi, h, j, hj => by
    obtain ⟨a1, a2, _⟩ := (pMay_iff.1 hp).2 i (by omega)
    obtain ⟨b1, b2, _⟩ := (pMay_iff.1 hq).2 i (by omega)
    simp only [pKeyN] at h
    have e1 : pKeyN p i = pKeyN q i := by omega
    have e2 : p.n i = q.n i := by omega
    by_cases e : j = i
    · subst e; exact e2
    · exact pKeyN_inj hp hq i (by omega) e1 j (by omega)
theorem pKeyN_lo (p : Path) : ∀ i, i ≤ 4 → (∀ j, j < i → 0 ≤ p.n j) → ∀ j, j < i → 1001 ^ j ≤ pKeyN p i
  | 0, _, _, j, hj => by omega
  | i + 1, hi, h, j, hj => by
    simp only [pKeyN]
    match j with
    | 0 => simp
    | j + 1 =>
      have ih := pKeyN_lo p i (by omega) (fun j hj => h j (by omega)) j (by omega)
      rw [Nat.pow_succ]; omega
theorem path_ext {p q : Path} (hd : p.depth = q.depth) (h : ∀ j, j < 4 → p.n j = q.n j) : p = q := by
  obtain ⟨a, b, c, d, e⟩ := p
  obtain ⟨a', b', c', d', e'⟩ := q
  have h0 := h 0 (by omega); have h1 := h 1 (by omega); have h2 := h 2 (by omega); have h3 := h 3 (by omega)
  simp only [Path.n] at h0 h1 h2 h3 hd
  subst h0 h1 h2 h3 hd; rfl
theorem pKey_inj {p q : Path} (hp : pMay p = true) (hq : pMay q = true) (h : pKey p = pKey q) : p = q := by
  unfold pKey at h
  rw [if_pos hp, if_pos hq] at h
  obtain ⟨⟨a1, a2⟩, a3⟩ := pMay_iff.1 hp
  obtain ⟨⟨b1, b2⟩, b3⟩ := pMay_iff.1 hq
  -- the longer one is greater
  have key : ∀ (p q : Path), pMay p = true → pMay q = true → pKeyN p p.depth.toNat = pKeyN q q.depth.toNat → p.depth.toNat < q.depth.toNat → False := by
    intro p q hp hq h hlt
    obtain ⟨⟨a1, a2⟩, a3⟩ := pMay_iff.1 hp
    obtain ⟨⟨b1, b2⟩, b3⟩ := pMay_iff.1 hq
    have h1 := pKeyN_lt hp p.depth.toNat (by omega)
    have h2 := pKeyN_lo q q.depth.toNat (by omega) (fun j hj => (b3 j (by omega)).1) p.depth.toNat hlt
    omega
  have hd : p.depth = q.depth := by
    rcases Nat.lt_trichotomy p.depth.toNat q.depth.toNat with h1 | h1 | h1
    · exact (key p q hp hq h h1).elim
    · omega
    · exact (key q p hq hp h.symm h1).elim
  refine path_ext hd fun j hj => ?_
  by_cases hjd : j < p.depth.toNat
  · exact pKeyN_inj hp hq _ (by omega) (by rw [h, hd]) j hjd
  · have e1 := (a3 j hj).2.2
    have e2 := (b3 j hj).2.2
    omega

section
variable {H : Heap} {Q : Value → Heap → Prop} {oT : Nat → Nat} {S : Nat → Prop} {t ta tb : Nat} {pl : List (Option Head)} {fr : List Nat} {bk : List (List Pair)} {qe : List (Option Ent1)} {most full reqs : Int}

theorem c_tok (h : TabO oT S H t ta tb pl fr bk qe most full reqs) (hq : Q (.bool true) H) : T PP 185 [ptr t] H Q := by
  apply T185; unfold sh185
  simp only [eqP_nil, notB_t, ev_some, Bool.not_false, Br_true, nilV_p, fldA_p, Nat.zero_add, ld1_cs h.ht, List.getElem?_cons_zero, List.getElem?_cons_succ]
  exact hq

theorem pl_le (h : TabO oT S H t ta tb pl fr bk qe most full reqs) : pl.length ≤ 4096 := by
  obtain ⟨_, _, _, _, _, _, _, _, _, _, _, h9, _⟩ := h.arn; exact h9
theorem pKey_lt (p : Path) : pKey p < 18446744073709551616 := by
  unfold pKey
  split
  · rename_i hp
    have := pKeyN_small hp (i := p.depth.toNat) (by have := (pMay_iff.1 hp).1; omega)
    omega
  · omega

theorem c_tmay (h : TabO oT S H t ta tb pl fr bk qe most full reqs) {p : Path} (hq : Q (.int .i64 (if pMay p then 0 else 1)) H) : T PP 149 [ptr t, Enc.val p] H Q := by
  refine T.pure (fun Q' hQ => ?_) hq
  apply T149; unfold sh149
  rw [pCells_val]
  intro q hq
  have hs := Sub.upd_fresh (.cs (pCells p) 39) hq
  have h2 := upd_same H q (.cs (pCells p) 39)
  generalize upd H q (.cs (pCells p) 39) = H2 at *
  refine c_tok (h.keep fun b k _ hk => hs b k hk) ?_
  simp only [u_not, Bool.not_true, ev_some, Br_false, ldn_path0 p h2]
  refine c_pmay ?_
  simp only [u_not, ev_some]
  cases hm : pMay p with
  | true => rw [hm] at hQ; simpa using hQ _ hs
  | false => rw [hm] at hQ; simpa using hQ _ hs

/-- Where the node is. -/
def look (bk : List (List Pair)) (pl : List (Option Head)) (p : Path) : Option (Nat × Head) := if pMay p then
    match bGet bk (pKey p) with
    | some i => (aGet pl i).map fun h => (i.toNat, h)
    | none => none
  else none

theorem look_some (h : TabO oT S H t ta tb pl fr bk qe most full reqs) {p : Path} {i : Nat} {hd : Head} (hl : look bk pl p = some (i, hd)) : pMay p = true ∧ pl[i]? = some (some hd) ∧ hd.p = p ∧ bGet bk (pKey p) = some (i : Int) := by
  unfold look at hl
  split at hl
  · rename_i hm
    split at hl
    · rename_i z hz
      obtain ⟨h0, hd', h1, h2⟩ := (h.map _ _).1 hz
      unfold aGet at hl
      rw [if_pos h0, h1] at hl
      simp at hl
      obtain ⟨rfl, rfl⟩ := hl
      obtain ⟨e, _, _, c, _⟩ := h.used _ _ h1
      refine ⟨hm, h1, pKey_inj c hm h2, ?_⟩
      rw [hz]; congr 1; omega
    · cases hl
  · cases hl
theorem look_none (h : TabO oT S H t ta tb pl fr bk qe most full reqs) {p : Path} (hm : pMay p = true) (hl : look bk pl p = none) : bGet bk (pKey p) = none ∧ ∀ (i : Nat) (hd : Head), pl[i]? = some (some hd) → hd.p ≠ p := by
  have h0 : bGet bk (pKey p) = none := by
    cases hz : bGet bk (pKey p) with
    | none => rfl
    | some z =>
      obtain ⟨h0, hd', h1, h2⟩ := (h.map _ _).1 hz
      unfold look at hl
      rw [if_pos hm, hz] at hl
      simp [aGet, h0, h1] at hl
  refine ⟨h0, fun i hd hi e => ?_⟩
  have := (h.map (pKey p) (i : Int)).2 ⟨by omega, hd, by simpa using hi, by rw [e]⟩
  rw [h0] at this; cases this

theorem c_tat (h : TabO oT S H t ta tb pl fr bk qe most full reqs) {p : Path}
    (hq : Q (match look bk pl p with | some (i, hd) => .tuple #[ptr hd.q, .int .i64 (i : Int)] | none => .tuple #[.pointer none, .int .i64 0]) H) : T PP 150 [ptr t, Enc.val p] H Q := by
  refine T.pure (fun Q' hQ => ?_) hq
  apply T150; unfold sh150
  rw [pCells_val]
  intro q hq
  have hs := Sub.upd_fresh (.cs (pCells p) 39) hq
  have h2 := upd_same H q (.cs (pCells p) 39)
  generalize upd H q (.cs (pCells p) 39) = H2 at *
  have t2 := h.keep fun b k _ hk => hs b k hk
  intro K step
  have bad : pMay p = false → K [ptr t, ptr q, .bool true] H2 := fun hm => by
    apply step; rw [Br_true]
    have : look bk pl p = none := by unfold look; rw [hm]; rfl
    rw [this] at hQ; exact hQ _ hs
  have good : pMay p = true → K [ptr t, ptr q, .bool false] H2 := fun hm => by
    apply step; rw [Br_false]
    simp only [nilV_p, fldA_p, ev_some, Nat.zero_add, ldn_path0 p h2, ld1_cs t2.ht, List.getElem?_cons_zero, List.getElem?_cons_succ]
    refine c_pkey ?_
    simp only [ld1_cs t2.ht, List.getElem?_cons_zero, List.getElem?_cons_succ, ev_some, true_and]
    have hpl := pl_le h
    have hc := h.cnt
    refine c_bget t2.bkt h.inv.1 (by have := h.len; omega) (by omega) (pKey_lt p) ?_
    have x0 : ∀ a b : Value, extrV 0 (.tuple #[a, b]) = some a := fun _ _ => rfl
    have x1 : ∀ a b : Value, extrV 1 (.tuple #[a, b]) = some b := fun _ _ => rfl
    simp only [x0, x1, ev_some, u_not]
    unfold look at hQ
    rw [if_pos hm] at hQ
    cases hb : bGet bk (pKey p) with
    | none => rw [hb] at hQ; simpa using hQ _ hs
    | some i =>
      rw [hb] at hQ
      obtain ⟨i0, hd, i1, i2⟩ := (h.map _ _).1 hb
      have hag : aGet pl i = some hd := by unfold aGet; rw [if_pos i0, i1]; rfl
      simp only [hag, Option.map_some] at hQ
      simp only [Option.getD_some, Option.isSome_some, Bool.not_true, Br_false, ld1_cs t2.ht, List.getElem?_cons_zero, ev_some]
      refine c_aget t2.arn ?_
      rw [hag]
      simp only [x0, x1, ev_some]
      intro r hr
      have e1 : Sl.sto 6 (upd H2 r (.cs [.int .i64 0, .int .i64 0, .int .i64 0, .int .i64 0, .int .i64 0, .pointer none] 138)) (.pointer (some ⟨r, 0, none⟩)) (hVal (some hd)) = some (upd H2 r (.cs (Value.cells (Enc.val hd)).toList 138)) := by
        simp [Sl.sto, upd_same, hVal, Enc.val, Value.cells, Sl.flat, Value.oneCell', over]
      rw [e1, ev_some]
      have s3 := Sub.upd_fresh (.cs (Value.cells (Enc.val hd)).toList 138) hr
      have h3 := upd_same H2 r (.cs (Value.cells (Enc.val hd)).toList 138)
      generalize upd H2 r (.cs (Value.cells (Enc.val hd)).toList 138) = H3 at *
      simp only [fldA_p, Nat.zero_add, ld1_cs h3, ev_some]
      show ev (some (ptr hd.q)) _
      rw [ev_some]
      rw [show ((i.toNat : Nat) : Int) = i by omega] at hQ
      exact hQ _ (hs.trans s3)
  refine c_tok t2 ?_
  simp only [u_not, Bool.not_true, ev_some, Br_false, ldn_path0 p h2]
  refine c_pmay ?_
  simp only [u_not, ev_some]
  cases hm : pMay p with
  | true => exact good hm
  | false => exact bad hm

/-- Who has what: by nodes in their order; what all of it comes to. -/
def Tab (S : Nat → Prop) (H : Heap) (t : Nat) (most full : Nat) (es : List Ent1) : Prop :=
  ∃ oT ta tb pl fr bk qe, TabO oT S H t ta tb pl fr bk qe most full (szT1 es : Nat) ∧ pl.length = full ∧ es.length + fr.length = pl.length ∧ szT1 es ≤ most ∧ most ≤ 1024 ∧ full ≤ 256 ∧ es.Pairwise (fun a b => pLess a.p b.p = true) ∧ ∀ (e : Ent1), e ∈ es ↔ ∃ i : Nat, qe[i]? = some (some e)

theorem c_tnew {a b : Int} (h : ∀ t S' H' (most full : Nat), (most : Int) = min (max b 0) 1024 → (full : Int) = min (max a 0) 256 → Tab S' H' t most full [] → Sub H H' → (∀ b, S' b → H b = none) → Q (ptr t) H') : T PP 23 [.int .i64 a, .int .i64 b] H Q := by
  classical
  apply T23; unfold sh23
  obtain ⟨full, hf, hf2⟩ := minmax a 256 (by decide)
  obtain ⟨most, hm, hm2⟩ := minmax b 1024 (by decide)
  simp only [max_i, min_i, ev_some]
  rw [← hf, ← hm]
  refine c_anew fun ta S1 H1 k hk t1 s1 f1 => ?_
  have hkf : k = full := by omega
  subst hkf
  refine c_bnew fun tb S2 H2 t2 s2 f2 => ?_
  refine ev_iff.2 ⟨.agg #[ptr ta, ptr tb, .int .i64 (most : Int), .int .i64 (k : Int), .int .i64 0], rfl, fun t ht => ?_⟩
  have s3 := Sub.upd_fresh (.cs [ptr ta, ptr tb, .int .i64 (most : Int), .int .i64 (k : Int), .int .i64 0] 142) ht
  have h3 := upd_same H2 t (.cs [ptr ta, ptr tb, .int .i64 (most : Int), .int .i64 (k : Int), .int .i64 0] 142)
  show Q (ptr t) (upd H2 t (.cs [ptr ta, ptr tb, .int .i64 (most : Int), .int .i64 (k : Int), .int .i64 0] 142))
  generalize upd H2 t (.cs [ptr ta, ptr tb, .int .i64 (most : Int), .int .i64 (k : Int), .int .i64 0] 142) = H3 at *
  have n1 : ∀ b, S1 b → H1 b ≠ none := by obtain ⟨_, _, _, _, _, _, _, _, _, _, h8, _⟩ := t1; exact h8
  have n2 : ∀ b, S2 b → H2 b ≠ none := by obtain ⟨_, _, _, hb⟩ := t2; exact hb.2.2.2.2.2.2.2
  have d12 : ∀ b, S1 b → ¬ S2 b := fun b h1 h2 => n1 b h1 (f2 b h2)
  have k1 : ∀ b, S1 b → H2 b ≠ none := fun b hb => by
    cases hh : H1 b with
    | none => exact absurd hh (n1 b hb)
    | some kk => rw [s2 b kk hh]; simp
  have e1 : (fun b => (b = t ∨ S1 b ∨ S2 b) ∧ (if b = t then 0 else if S1 b then 1 else 2) = 1) = S1 := by
    funext b
    apply propext
    constructor
    · rintro ⟨_, h⟩
      split at h
      · cases h
      · split at h
        · assumption
        · cases h
    · intro hb
      refine ⟨.inr (.inl hb), ?_⟩
      rw [if_neg (fun e => k1 b hb (by rw [e]; exact ht)), if_pos hb]
  have e2 : (fun b => (b = t ∨ S1 b ∨ S2 b) ∧ (if b = t then 0 else if S1 b then 1 else 2) = 2) = S2 := by
    funext b
    apply propext
    constructor
    · rintro ⟨h0, h⟩
      split at h
      · cases h
      · split at h
        · cases h
        · rename_i h1 h2
          rcases h0 with h0 | h0 | h0
          · exact absurd h0 h1
          · exact absurd h0 h2
          · exact h0
    · intro hb
      refine ⟨.inr (.inr hb), ?_⟩
      rw [if_neg (fun e => n2 b hb (by rw [e]; exact ht)), if_neg (fun h1 => d12 b h1 hb)]
  have hpl : ∀ (i : Nat) (h : Option Head), (List.replicate k (none : Option Head))[i]? = some h → h = none := fun i h hi => by
    rw [List.getElem?_replicate] at hi; split at hi
    · exact (Option.some.inj hi).symm
    · cases hi
  refine h t (fun b => b = t ∨ S1 b ∨ S2 b) H3 most k (by omega) (by omega) ⟨fun b => if b = t then 0 else if S1 b then 1 else 2, ta, tb, List.replicate k none, List.range k, [[], [], [], []], List.replicate k none, ?_, List.length_replicate, by simp, Nat.zero_le _, by omega, by omega, List.Pairwise.nil, fun e => ?_⟩ ((s1.trans s2).trans s3) ?_
  · refine ⟨.inl rfl, if_pos rfl, h3, ?_, ?_, ⟨by simp, ?_, ?_⟩, ?_, by decide, by simp, ?_, ?_, ?_, ?_⟩
    · rw [e1]; exact t1.keep fun b kk _ hk => s3 b kk (s2 b kk hk)
    · rw [e2]; exact t2.keep fun b kk _ hk => s3 b kk hk
    · intro i l x hi hx
      have := List.mem_of_getElem? hi
      simp at this; subst this; cases hx
    · intro l hl; simp at hl; subst hl; exact List.nodup_nil
    · rw [List.length_range, List.length_replicate]; simp [tot]
    · intro i h hi; exact absurd (hpl i _ hi) (by simp)
    · intro i hi
      rw [List.getElem?_replicate] at hi ⊢
      split at hi
      · rename_i h0; rw [if_pos h0]
      · cases hi
    · intro kk i
      constructor
      · intro hb
        exfalso
        have hlt := bIx_lt (n := 4) (k := kk) (by decide)
        unfold bGet at hb
        have : ([[], [], [], []] : List (List Pair))[bIx ([[], [], [], []] : List (List Pair)).length kk]? = some [] := by
          show ([[], [], [], []] : List (List Pair))[bIx 4 kk]? = some []
          match bIx 4 kk, hlt with
          | 0, _ => rfl
          | 1, _ => rfl
          | 2, _ => rfl
          | 3, _ => rfl
        rw [this] at hb; simp at hb
      · rintro ⟨_, h, hi, _⟩; exact absurd (hpl _ _ hi) (by simp)
    · rintro b (rfl | hb | hb)
      · rw [h3]; simp
      · cases hh : H2 b with
        | none => exact absurd hh (k1 b hb)
        | some kk => rw [s3 b kk hh]; simp
      · cases hh : H2 b with
        | none => exact absurd hh (n2 b hb)
        | some kk => rw [s3 b kk hh]; simp
  · constructor
    · intro h; cases h
    · rintro ⟨i, hi⟩
      rw [List.getElem?_replicate] at hi; split at hi <;> cases hi
  · rintro b (rfl | hb | hb)
    · cases hh : H b with
      | none => rfl
      | some kk => rw [(s1.trans s2) b kk hh] at ht; cases ht
    · exact f1 b hb
    · cases hh : H b with
      | none => rfl
      | some kk => have := f2 b hb; rw [s1 b kk hh] at this; cases this
end
end Go.Sl
namespace Go.Sl
open Go Go.Proofs

def dg (p : Path) (i : Nat) : Nat := if (i : Int) < p.depth then (p.n i).toNat + 1 else 0
def code (p : Path) : Nat := dg p 0 * 1003003001 + dg p 1 * 1002001 + dg p 2 * 1001 + dg p 3
theorem dg_or (p : Path) (i : Nat) : ((i : Int) < p.depth ∧ dg p i = (p.n i).toNat + 1) ∨ (p.depth ≤ i ∧ dg p i = 0) := by
  unfold dg
  by_cases h : (i : Int) < p.depth
  · left; rw [if_pos h]; exact ⟨h, rfl⟩
  · right; rw [if_neg h]; exact ⟨by omega, rfl⟩
theorem dg_le {p : Path} (h : pMay p = true) {i : Nat} (hi : i < 4) : dg p i ≤ 1000 := by
  obtain ⟨_, h2⟩ := pMay_iff.1 h
  obtain ⟨a, b, _⟩ := h2 i hi
  have := dg_or p i
  omega

/-- Digits from the first that differs on. -/
theorem lex4 {a0 a1 a2 a3 b0 b1 b2 b3 : Nat} (_ : a0 ≤ 1000) (_ : a1 ≤ 1000) (_ : a2 ≤ 1000) (_ : a3 ≤ 1000) (_ : b0 ≤ 1000) (_ : b1 ≤ 1000) (_ : b2 ≤ 1000) (_ : b3 ≤ 1000) :
    a0 * 1003003001 + a1 * 1002001 + a2 * 1001 + a3 < b0 * 1003003001 + b1 * 1002001 + b2 * 1001 + b3 ↔
      a0 < b0 ∨ a0 = b0 ∧ (a1 < b1 ∨ a1 = b1 ∧ (a2 < b2 ∨ a2 = b2 ∧ a3 < b3)) := by omega

theorem lessN_lex {p q : Path} (hp : pMay p = true) (hq : pMay q = true) : ∀ (n i : Nat), (min p.depth q.depth).toNat = i + n → (lessN p q n i = true ↔
      (∃ j, i ≤ j ∧ j < i + n ∧ p.n j < q.n j ∧ ∀ k, i ≤ k → k < j → p.n k = q.n k) ∨ (p.depth < q.depth ∧ ∀ k, i ≤ k → k < i + n → p.n k = q.n k))
  | 0, i, h => by
    simp only [lessN, decide_eq_true_eq]
    constructor
    · intro h1; exact .inr ⟨h1, fun k h2 h3 => by omega⟩
    · rintro (⟨j, h1, h2, _⟩ | h1)
      · omega
      · exact h1.1
  | n + 1, i, h => by
    simp only [lessN]
    by_cases hne : p.n i = q.n i
    · rw [if_neg (by simpa using hne), lessN_lex hp hq n (i + 1) (by omega)]
      constructor
      · rintro (⟨j, h1, h2, h3, h4⟩ | ⟨h1, h2⟩)
        · refine .inl ⟨j, by omega, by omega, h3, fun k hk hkj => ?_⟩
          by_cases e : k = i
          · subst e; exact hne
          · exact h4 k (by omega) hkj
        · refine .inr ⟨h1, fun k hk hkj => ?_⟩
          by_cases e : k = i
          · subst e; exact hne
          · exact h2 k (by omega) (by omega)
      · rintro (⟨j, h1, h2, h3, h4⟩ | ⟨h1, h2⟩)
        · have : j ≠ i := fun e => by subst e; omega
          exact .inl ⟨j, by omega, by omega, h3, fun k hk hkj => h4 k (by omega) hkj⟩
        · exact .inr ⟨h1, fun k hk hkj => h2 k (by omega) (by omega)⟩
    · rw [if_pos hne]
      simp only [decide_eq_true_eq]
      constructor
      · intro h1; exact .inl ⟨i, by omega, by omega, h1, fun k hk hkj => by omega⟩
      · rintro (⟨j, h1, h2, h3, h4⟩ | ⟨h1, h2⟩)
        · by_cases e : j = i
          · subst e; exact h3
          · exact absurd (h4 i (by omega) (by omega)) hne
        · exact absurd (h2 i (by omega) (by omega)) hne

theorem pLess_code {p q : Path} (hp : pMay p = true) (hq : pMay q = true) : pLess p q = true ↔ code p < code q := by
  unfold pLess
  rw [hp, hq, Bool.true_and, Bool.true_and, lessN_lex hp hq _ 0 (by omega)]
  unfold code
  rw [lex4 (dg_le hp (by omega)) (dg_le hp (by omega)) (dg_le hp (by omega)) (dg_le hp (by omega)) (dg_le hq (by omega)) (dg_le hq (by omega)) (dg_le hq (by omega)) (dg_le hq (by omega))]
  obtain ⟨⟨p1, p2⟩, hp3⟩ := pMay_iff.1 hp
  obtain ⟨⟨q1, q2⟩, hq3⟩ := pMay_iff.1 hq
  have E : ∀ i : Nat, i < 4 → (i : Int) < p.depth → (i : Int) < q.depth → 0 ≤ p.n i ∧ 0 ≤ q.n i ∧ dg p i = (p.n i).toNat + 1 ∧ dg q i = (q.n i).toNat + 1 := fun i hi h1 h2 =>
    ⟨(hp3 i hi).1, (hq3 i hi).1, by unfold dg; rw [if_pos h1], by unfold dg; rw [if_pos h2]⟩
  have Z : ∀ i : Nat, p.depth ≤ i → (i : Int) < q.depth → dg p i = 0 ∧ 0 < dg q i := fun i h1 h2 => ⟨by unfold dg; rw [if_neg (by omega)], by unfold dg; rw [if_pos h2]; omega⟩
  have P : ∀ i : Nat, 0 < dg q i → (i : Int) < q.depth := fun i h => by
    unfold dg at h; split at h
    · assumption
    · omega
  have same : ∀ i : Nat, i < 4 → (i : Int) < p.depth → (i : Int) < q.depth → (p.n i = q.n i ↔ dg p i = dg q i) := fun i hi h1 h2 => by
    obtain ⟨a, b, c, d⟩ := E i hi h1 h2
    omega
  have less : ∀ i : Nat, i < 4 → (i : Int) < p.depth → (i : Int) < q.depth → (p.n i < q.n i ↔ dg p i < dg q i) := fun i hi h1 h2 => by
    obtain ⟨a, b, c, d⟩ := E i hi h1 h2
    omega
  clear E hp3 hq3
  constructor
  · rintro (⟨j, h1, h2, h3, h4⟩ | ⟨h1, h2⟩)
    · have hj : j = 0 ∨ j = 1 ∨ j = 2 ∨ j = 3 := by omega
      have e : ∀ k : Nat, k < j → dg p k = dg q k := fun k hk => (same k (by omega) (by omega) (by omega)).1 (h4 k (by omega) hk)
      have l := (less j (by omega) (by omega) (by omega)).1 h3
      rcases hj with rfl | rfl | rfl | rfl
      · exact .inl l
      · exact .inr ⟨e 0 (by omega), .inl l⟩
      · exact .inr ⟨e 0 (by omega), .inr ⟨e 1 (by omega), .inl l⟩⟩
      · exact .inr ⟨e 0 (by omega), .inr ⟨e 1 (by omega), .inr ⟨e 2 (by omega), l⟩⟩⟩
    · have e : ∀ k : Nat, (k : Int) < p.depth → dg p k = dg q k := fun k hk => (same k (by omega) hk (by omega)).1 (h2 k (by omega) (by omega))
      have hd : p.depth = 1 ∨ p.depth = 2 ∨ p.depth = 3 := by omega
      rcases hd with h | h | h
      · obtain ⟨z1, z2⟩ := Z 1 (by omega) (by omega)
        exact .inr ⟨e 0 (by omega), .inl (by omega)⟩
      · obtain ⟨z1, z2⟩ := Z 2 (by omega) (by omega)
        exact .inr ⟨e 0 (by omega), .inr ⟨e 1 (by omega), .inl (by omega)⟩⟩
      · obtain ⟨z1, z2⟩ := Z 3 (by omega) (by omega)
        exact .inr ⟨e 0 (by omega), .inr ⟨e 1 (by omega), .inr ⟨e 2 (by omega), by omega⟩⟩⟩
  · intro h
    have low : ∀ j : Nat, j < 4 → (∀ k, k < j → dg p k = dg q k) → dg p j < dg q j → (∃ j, 0 ≤ j ∧ j < 0 + (min p.depth q.depth).toNat ∧ p.n j < q.n j ∧ ∀ k, 0 ≤ k → k < j → p.n k = q.n k) ∨ (p.depth < q.depth ∧ ∀ k, 0 ≤ k → k < 0 + (min p.depth q.depth).toNat → p.n k = q.n k) := by
      intro j hj h1 h2
      have hq := P j (by omega)
      by_cases hpj : (j : Int) < p.depth
      · exact .inl ⟨j, by omega, by omega, (less j hj hpj hq).2 h2, fun k _ hk => (same k (by omega) (by omega) (by omega)).2 (h1 k hk)⟩
      · exact .inr ⟨by omega, fun k _ hk => (same k (by omega) (by omega) (by omega)).2 (h1 k (by omega))⟩
    rcases h with h | ⟨h0, h | ⟨h1, h | ⟨h2, h⟩⟩⟩
    · exact low 0 (by omega) (fun k hk => by omega) h
    · exact low 1 (by omega) (fun k hk => by have : k = 0 := by omega
                                             subst this; exact h0) h
    · exact low 2 (by omega) (fun k hk => by have : k = 0 ∨ k = 1 := by omega
                                             rcases this with rfl | rfl <;> assumption) h
    · exact low 3 (by omega) (fun k hk => by have : k = 0 ∨ k = 1 ∨ k = 2 := by omega
                                             rcases this with rfl | rfl | rfl <;> assumption) h
theorem code_inj {p q : Path} (hp : pMay p = true) (hq : pMay q = true) (h : code p = code q) : p = q := by
  have d0 := dg_le hp (i := 0) (by omega); have d1 := dg_le hp (i := 1) (by omega); have d2 := dg_le hp (i := 2) (by omega); have d3 := dg_le hp (i := 3) (by omega)
  have e0 := dg_le hq (i := 0) (by omega); have e1 := dg_le hq (i := 1) (by omega); have e2 := dg_le hq (i := 2) (by omega); have e3 := dg_le hq (i := 3) (by omega)
  unfold code at h
  have h0 : dg p 0 = dg q 0 := by omega
  have h1 : dg p 1 = dg q 1 := by omega
  have h2 : dg p 2 = dg q 2 := by omega
  have h3 : dg p 3 = dg q 3 := by omega
  obtain ⟨⟨p1, p2⟩, hp3⟩ := pMay_iff.1 hp
  obtain ⟨⟨q1, q2⟩, hq3⟩ := pMay_iff.1 hq
  have P : ∀ (p : Path) (i : Nat), 0 < dg p i ↔ (i : Int) < p.depth := fun p i => by
    unfold dg; split
    · rename_i h; simp [h]
    · rename_i h; simp; omega
  have P1 := (P p 1); have P2 := (P p 2); have P3 := (P p 3)
  have Q1 := (P q 1); have Q2 := (P q 2); have Q3 := (P q 3)
  rw [h1] at P1; rw [h2] at P2; rw [h3] at P3
  have i1 := P1.symm.trans Q1; have i2 := P2.symm.trans Q2; have i3 := P3.symm.trans Q3
  have hd : p.depth = q.depth := by clear h h0 h1 h2 h3 P1 P2 P3 Q1 Q2 Q3 d0 d1 d2 d3 e0 e1 e2 e3; omega
  refine path_ext hd fun j hj => ?_
  obtain ⟨x1, x2, x3⟩ := hp3 j hj
  obtain ⟨y1, y2, y3⟩ := hq3 j hj
  have hdg : dg p j = dg q j := by
    have : j = 0 ∨ j = 1 ∨ j = 2 ∨ j = 3 := by omega
    rcases this with rfl | rfl | rfl | rfl <;> assumption
  unfold dg at hdg
  rw [← hd] at hdg y3
  by_cases hl : (j : Int) < p.depth
  · rw [if_pos hl, if_pos hl] at hdg; omega
  · rw [x3.resolve_left hl, y3.resolve_left hl]
end Go.Sl
namespace Go.Sl
open Go Go.Proofs

section
variable {H : Heap} {Q : Value → Heap → Prop} {oT : Nat → Nat} {S : Nat → Prop} {t ta tb : Nat} {pl : List (Option Head)} {fr : List Nat} {bk : List (List Pair)} {qe : List (Option Ent1)} {most full reqs : Int}

theorem Que.bnd {S : Nat → Prop} {q : Nat} {hs : List Hold} {ws : List Wait} (h : Que S H q hs ws) : S q := by obtain ⟨_, _, a, _⟩ := h; exact a
theorem Que.kn {S : Nat → Prop} {q : Nat} {hs : List Hold} {ws : List Wait} (h : Que S H q hs ws) : ∀ b, S b → H b ≠ none := by obtain ⟨_, _, _, _, _, _, _, _, a⟩ := h; exact a
theorem Arn.kn {S : Nat → Prop} {a : Nat} (h : Arn S H a pl fr) : ∀ b, S b → H b ≠ none := by obtain ⟨_, _, _, _, _, _, _, _, _, _, a, _⟩ := h; exact a
theorem Bkt.kn {S : Nat → Prop} {m : Nat} (h : Bkt S H m bk) : ∀ b, S b → H b ≠ none := by obtain ⟨_, _, _, h⟩ := h; exact h.2.2.2.2.2.2.2

/-- Another count. -/
theorem TabO.req (h : TabO oT S H t ta tb pl fr bk qe most full reqs) (r : Int) : TabO oT S (upd H t (.cs [ptr ta, ptr tb, .int .i64 most, .int .i64 full, .int .i64 r] 142)) t ta tb pl fr bk qe most full r := by
  have nt : ∀ b k, oT b ≠ 0 → H b = some k → upd H t (.cs [ptr ta, ptr tb, .int .i64 most, .int .i64 full, .int .i64 r] 142) b = some k := fun b k h0 hk => by
    rw [upd_ne (fun e => h0 (by rw [e]; exact h.ot))]; exact hk
  exact {
    st := h.st, ot := h.ot, ht := upd_same _ _ _
    arn := h.arn.keep fun b k hb hk => nt b k (by omega) hk
    bkt := h.bkt.keep fun b k hb hk => nt b k (by omega) hk
    inv := h.inv, cnt := h.cnt, len := h.len, ql := h.ql
    used := fun i hd hi => by
      obtain ⟨e, a, b, c, d⟩ := h.used i hd hi
      exact ⟨e, a, b, c, d.keep fun b k hb hk => nt b k (by omega) hk⟩
    free := h.free, map := h.map
    known := fun b hb => by
      by_cases e : b = t
      · subst e; rw [upd_same]; simp
      · rw [upd_ne e]; exact h.known b hb }

/-- The locks in one place are others now. -/
theorem TabO.setq (h : TabO oT S H t ta tb pl fr bk qe most full reqs) {i : Nat} {hd : Head} {e : Ent1} (hi : pl[i]? = some (some hd)) (hqe : qe[i]? = some (some e)) {S2 : Nat → Prop} {H2 : Heap} {hs : List Hold} {ws : List Wait}
    (hq : Que S2 H2 hd.q hs ws) (kp : ∀ b k, H b = some k → b ≠ hd.q → H2 b = some k) (nw : ∀ b, S2 b → (S b ∧ oT b = 3 + i) ∨ H b = none) :
    ∃ oT' S', TabO oT' S' H2 t ta tb pl fr bk (qe.set i (some ⟨e.p, hs, ws⟩)) most full reqs ∧ Frm S S' H H2 := by
  classical
  obtain ⟨e', he', hep, hmay, hque⟩ := h.used i hd hi
  rw [hqe] at he'; cases he'
  have hqo := hque.bnd
  have same : ∀ n, n ≠ 3 + i → (fun b => (S2 b ∨ (S b ∧ oT b ≠ 3 + i)) ∧ (if S2 b then 3 + i else oT b) = n) = (fun b => S b ∧ oT b = n) := fun n hn => by
    funext b
    apply propext
    constructor
    · rintro ⟨h1, h2⟩
      split at h2
      · exact absurd h2.symm hn
      · rename_i h3
        exact ⟨(h1.resolve_left h3).1, h2⟩
    · rintro ⟨h1, h2⟩
      have h3 : ¬ S2 b := fun h3 => by
        rcases nw b h3 with h4 | h4
        · omega
        · exact h.known b h1 h4
      rw [if_neg h3]
      exact ⟨.inr ⟨h1, by omega⟩, h2⟩
  have mine : (fun b => (S2 b ∨ (S b ∧ oT b ≠ 3 + i)) ∧ (if S2 b then 3 + i else oT b) = 3 + i) = S2 := by
    funext b
    apply propext
    constructor
    · rintro ⟨h1, h2⟩
      split at h2
      · assumption
      · rcases h1 with h1 | h1
        · exact h1
        · exact absurd h2 h1.2
    · intro h1; rw [if_pos h1]; exact ⟨.inl h1, rfl⟩
  have ne : ∀ b, oT b ≠ 3 + i → b ≠ hd.q := fun b hb e => hb (by rw [e]; exact hqo.2)
  have ot2 : ¬ S2 t := fun h3 => by
    have := h.ot
    rcases nw t h3 with h4 | h4
    · omega
    · exact h.known t h.st h4
  refine ⟨fun b => if S2 b then 3 + i else oT b, fun b => S2 b ∨ (S b ∧ oT b ≠ 3 + i), {
    st := .inr ⟨h.st, by have := h.ot; omega⟩, ot := by rw [if_neg ot2]; exact h.ot
    ht := kp t _ h.ht (ne t (by have := h.ot; omega))
    arn := by rw [same 1 (by omega)]; exact h.arn.keep fun b k hb hk => kp b k hk (ne b (by omega))
    bkt := by rw [same 2 (by omega)]; exact h.bkt.keep fun b k hb hk => kp b k hk (ne b (by omega))
    inv := h.inv, cnt := h.cnt, len := h.len, ql := by rw [List.length_set]; exact h.ql
    used := fun j hj hjj => ?_
    free := fun j hj => ?_
    map := h.map
    known := ?_ }, ?_, ?_⟩
  · have hlt : i < qe.length := (List.getElem?_eq_some_iff.1 hqe).1
    by_cases hij : i = j
    · subst hij
      rw [hi] at hjj; cases hjj
      refine ⟨⟨e.p, hs, ws⟩, List.getElem?_set_self hlt, hep, hmay, ?_⟩
      rw [mine]; exact hq
    · obtain ⟨e2, a1, a2, a3, a4⟩ := h.used j hj hjj
      refine ⟨e2, by rw [List.getElem?_set_ne hij]; exact a1, a2, a3, ?_⟩
      rw [same (3 + j) (by omega)]
      exact a4.keep fun b k hb hk => kp b k hk (ne b (by omega))
  · have : i ≠ j := fun e => by subst e; rw [hi] at hj; cases hj
    rw [List.getElem?_set_ne this]; exact h.free j hj
  · rintro b (hb | ⟨hb, ho⟩)
    · exact hq.kn b hb
    · cases hh : H b with
      | none => exact absurd hh (h.known b hb)
      | some k => rw [kp b k hh (ne b ho)]; simp
  · rintro b (hb | ⟨hb, _⟩)
    · rcases nw b hb with h1 | h1
      · exact .inl h1.1
      · exact .inr h1
    · exact .inl hb
  · intro b k hk hn
    exact kp b k hk fun e => hn (by rw [e]; exact hqo.1)

/-- A node more: its locks q' stand beside the table; the arena has it, and the buckets know its place. -/
theorem TabO.add (h : TabO oT S H t ta tb pl fr bk qe most full reqs) {p : Path} {q' i : Nat} {r : List Nat} {S0 S2 : Nat → Prop} {H1 H2 : Heap} {hs : List Hold} {ws : List Wait} (hp : pMay p = true) (hfr : fr = i :: r) (hno : pl[i]? = some none)
    (hq : Que S0 H q' hs ws) (hS0 : ∀ b, S0 b → ¬ S b)
    (ha : Arn (fun b => S b ∧ oT b = 1) H1 ta (pl.set i (some ⟨p, q'⟩)) r) (k1 : ∀ b k, H b = some k → ¬ (S b ∧ oT b = 1) → H1 b = some k)
    (hb : Bkt S2 H2 tb (bPut bk ⟨pKey p, i⟩)) (f2 : Frm (fun b => S b ∧ oT b = 2) S2 H1 H2) (habs : bGet bk (pKey p) = none) (new1 : ∀ b, H1 b = none → H b = none) :
    ∃ oT' S', TabO oT' S' H2 t ta tb (pl.set i (some ⟨p, q'⟩)) r (bPut bk ⟨pKey p, i⟩) (qe.set i (some ⟨p, hs, ws⟩)) most full reqs ∧ Frm (fun b => S b ∨ S0 b) S' H H2 := by
  classical
  obtain ⟨b1, b2, b3, b4⟩ := bPut_spec h.inv (x := ⟨pKey p, i⟩) (pKey_lt p) habs
  have hlt : i < pl.length := (List.getElem?_eq_some_iff.1 hno).1
  have hql := h.ql
  have nS2 : ∀ b, S2 b → (S b ∧ oT b = 2) ∨ H b = none := fun b hb => (f2.1 b hb).imp id (new1 b)
  -- the two kinds that are new
  let oT' : Nat → Nat := fun b => if S0 b then 3 + i else if S2 b then 2 else oT b
  let S' : Nat → Prop := fun b => S0 b ∨ S2 b ∨ (S b ∧ oT b ≠ 2 ∧ oT b ≠ 3 + i)
  have d02 : ∀ b, S0 b → ¬ S2 b := fun b h1 h2 => by
    rcases nS2 b h2 with h3 | h3
    · exact hS0 b h1 h3.1
    · exact hq.kn b h1 h3
  have old : ∀ b, S b → ¬ S0 b := fun b h1 h2 => hS0 b h2 h1
  have old2 : ∀ b, S b → oT b ≠ 2 → ¬ S2 b := fun b h1 h2 h3 => by
    rcases nS2 b h3 with h4 | h4
    · exact h2 h4.2
    · exact h.known b h1 h4
  have same : ∀ n, n ≠ 3 + i → n ≠ 2 → (fun b => S' b ∧ oT' b = n) = (fun b => S b ∧ oT b = n) := fun n hn hn2 => by
    funext b
    apply propext
    constructor
    · rintro ⟨h1, h2⟩
      dsimp only [oT'] at h2
      split at h2
      · exact absurd h2.symm hn
      · split at h2
        · exact absurd h2.symm hn2
        · rename_i h3 h4
          rcases h1 with h1 | h1 | h1
          · exact absurd h1 h3
          · exact absurd h1 h4
          · exact ⟨h1.1, h2⟩
    · rintro ⟨h1, h2⟩
      refine ⟨.inr (.inr ⟨h1, by omega, by omega⟩), ?_⟩
      dsimp only [oT']
      rw [if_neg (old b h1), if_neg (old2 b h1 (by omega))]; exact h2
  have two : (fun b => S' b ∧ oT' b = 2) = S2 := by
    funext b
    apply propext
    constructor
    · rintro ⟨h1, h2⟩
      dsimp only [oT'] at h2
      split at h2
      · omega
      · split at h2
        · assumption
        · rename_i h3 h4
          rcases h1 with h1 | h1 | h1
          · exact absurd h1 h3
          · exact h1
          · omega
    · intro h1
      refine ⟨.inr (.inl h1), ?_⟩
      dsimp only [oT']
      rw [if_neg (fun h0 => d02 b h0 h1), if_pos h1]
  have mine : (fun b => S' b ∧ oT' b = 3 + i) = S0 := by
    funext b
    apply propext
    constructor
    · rintro ⟨h1, h2⟩
      dsimp only [oT'] at h2
      split at h2
      · assumption
      · split at h2
        · omega
        · rename_i h3 h4
          rcases h1 with h1 | h1 | h1
          · exact h1
          · exact absurd h1 h4
          · omega
    · intro h1
      refine ⟨.inl h1, ?_⟩
      dsimp only [oT']
      rw [if_pos h1]
  have kp : ∀ b k, H b = some k → ¬ (S b ∧ oT b = 1) → ¬ (S b ∧ oT b = 2) → H2 b = some k := fun b k hk n1 n2 => f2.2 b k (k1 b k hk n1) n2
  have kpa : ∀ b k, S b ∧ oT b = 1 → H1 b = some k → H2 b = some k := fun b k hb hk => f2.2 b k hk (by omega)
  have kpq : ∀ b k, S0 b → H b = some k → H2 b = some k := fun b k hb hk => kp b k hk (fun h1 => hS0 b hb h1.1) (fun h1 => hS0 b hb h1.1)
  have htt := h.ot
  refine ⟨oT', S', {
    st := .inr (.inr ⟨h.st, by omega, by omega⟩)
    ot := by dsimp only [oT']; rw [if_neg (old t h.st), if_neg (old2 t h.st (by omega))]; exact htt
    ht := kp t _ h.ht (by omega) (by omega)
    arn := by rw [same 1 (by omega) (by omega)]; exact ha.keep kpa
    bkt := by rw [two]; exact hb
    inv := b1
    cnt := by have := h.cnt; rw [hfr] at this; simp only [List.length_cons] at this; rw [b3, List.length_set]; omega
    len := ?_
    ql := by rw [List.length_set, List.length_set]; exact hql
    used := fun j hj hjj => ?_
    free := fun j hj => ?_
    map := fun k z => ?_
    known := ?_ }, ?_, ?_⟩
  · have hc := h.cnt
    have hl := h.len
    obtain ⟨_, _, _, _, _, _, _, _, _, _, _, h9, _⟩ := h.arn
    unfold bPut
    split
    · rename_i hgt
      rw [tot_addAt _ h.inv.1] at hgt
      unfold bPart; rw [partGo_len, List.length_set, List.length_append, addAt_len]
      simp only [List.length_cons, List.length_nil]; omega
    · rw [addAt_len]; exact hl
  · by_cases hij : i = j
    · subst hij
      rw [List.getElem?_set_self hlt] at hjj; cases hjj
      refine ⟨⟨p, hs, ws⟩, List.getElem?_set_self (by omega), rfl, hp, ?_⟩
      rw [mine]; exact hq.keep kpq
    · rw [List.getElem?_set_ne hij] at hjj
      obtain ⟨e2, a1, a2, a3, a4⟩ := h.used j hj hjj
      refine ⟨e2, by rw [List.getElem?_set_ne hij]; exact a1, a2, a3, ?_⟩
      rw [same (3 + j) (by omega) (by omega)]
      exact a4.keep fun b k hb hk => kp b k hk (by omega) (by omega)
  · by_cases hij : i = j
    · subst hij; rw [List.getElem?_set_self hlt] at hj; cases hj
    · rw [List.getElem?_set_ne hij] at hj ⊢; exact h.free j hj
  · rw [b2]
    simp only
    by_cases e : k = pKey p
    · subst e
      rw [if_pos rfl]
      constructor
      · intro h1; cases h1
        exact ⟨by omega, ⟨p, q'⟩, by rw [show ((i : Int)).toNat = i by omega, List.getElem?_set_self hlt], rfl⟩
      · rintro ⟨h0, h1, h2, h3⟩
        by_cases hij : i = z.toNat
        · congr 1; omega
        · rw [List.getElem?_set_ne hij] at h2
          have := (h.map (pKey p) z).2 ⟨h0, h1, h2, h3⟩
          rw [habs] at this; cases this
    · rw [if_neg e, h.map]
      constructor
      · rintro ⟨h0, h1, h2, h3⟩
        refine ⟨h0, h1, ?_, h3⟩
        rw [List.getElem?_set_ne (fun hij => by rw [← hij, hno] at h2; cases h2)]; exact h2
      · rintro ⟨h0, h1, h2, h3⟩
        by_cases hij : i = z.toNat
        · rw [hij, List.getElem?_set_self (by omega)] at h2; cases h2
          exact absurd h3.symm e
        · rw [List.getElem?_set_ne hij] at h2; exact ⟨h0, h1, h2, h3⟩
  · rintro b (hb' | hb' | ⟨hb', ho, _⟩)
    · cases hh : H b with
      | none => exact absurd hh (hq.kn b hb')
      | some k => rw [kpq b k hb' hh]; simp
    · exact hb.kn b hb'
    · by_cases h1 : oT b = 1
      · cases hh : H1 b with
        | none => exact absurd hh (ha.kn b ⟨hb', h1⟩)
        | some k => rw [kpa b k ⟨hb', h1⟩ hh]; simp
      · cases hh : H b with
        | none => exact absurd hh (h.known b hb')
        | some k => rw [kp b k hh (by omega) (by omega)]; simp
  · rintro b (hb' | hb' | ⟨hb', _⟩)
    · exact .inl (.inr hb')
    · rcases nS2 b hb' with h1 | h1
      · exact .inl (.inl h1.1)
      · exact .inr h1
    · exact .inl (.inl hb')
  · intro b k hk hn
    exact kp b k hk (fun h1 => hn (.inl h1.1)) (fun h1 => hn (.inl h1.1))
end
end Go.Sl
namespace Go.Sl
open Go Go.Proofs

def findE (es : List Ent1) (p : Path) : Option Ent1 := es.find? fun e => decide (e.p = p)
def insE (e : Ent1) : List Ent1 → List Ent1
  | [] => [e]
  | x :: l => if pLess x.p e.p then x :: insE e l else e :: x :: l
def updE (es : List Ent1) (e : Ent1) : List Ent1 := es.map fun x => if x.p = e.p then e else x
def tAskC (most full : Nat) (es : List Ent1) (p : Path) (o : Option Ent1) (c : Int × Int) (r : Int × Int × List Hold × List Wait) : Int × Int × List Ent1 :=
  if c.2 ≠ 0 then (0, c.2, es)
  else if c.1 > (most : Int) - szT1 es ∨ (o = none ∧ 0 < c.1 ∧ es.length = full) then (0, 10, es)
  else (r.1, r.2.1, match o with
    | some _ => updE es ⟨p, r.2.2.1, r.2.2.2⟩
    | none => if 0 < c.1 then insE ⟨p, r.2.2.1, r.2.2.2⟩ es else es)
def tAsk (most full : Nat) (es : List Ent1) (tx : Int) (p : Path) (m flag : Int) : Int × Int × List Ent1 :=
  if pMay p = false then (0, 1, es) else
  tAskC most full es p (findE es p) (qCost ((findE es p).elim [] (·.hs)) ((findE es p).elim [] (·.ws)) tx m flag) (qAsk ((findE es p).elim [] (·.hs)) ((findE es p).elim [] (·.ws)) tx m flag)

/-- In order, and each may be. -/
def Ord (es : List Ent1) : Prop := es.Pairwise (fun a b => pLess a.p b.p = true) ∧ ∀ e ∈ es, pMay e.p = true
theorem pLess_may {p q : Path} (h : pLess p q = true) : pMay p = true ∧ pMay q = true := by
  unfold pLess at h; simp only [Bool.and_eq_true] at h; exact h.1
theorem pLess_irr (p : Path) : pLess p p = false := by
  cases h : pLess p p with
  | false => rfl
  | true => have := pLess_may h; have := (pLess_code this.1 this.2).1 h; omega
theorem pLess_trans {p q r : Path} (h1 : pLess p q = true) (h2 : pLess q r = true) : pLess p r = true := by
  have a := pLess_may h1; have b := pLess_may h2
  have := (pLess_code a.1 a.2).1 h1; have := (pLess_code b.1 b.2).1 h2
  exact (pLess_code a.1 b.2).2 (by omega)
theorem pLess_tri {p q : Path} (hp : pMay p = true) (hq : pMay q = true) (h : pLess p q = false) (hne : p ≠ q) : pLess q p = true := by
  refine (pLess_code hq hp).2 ?_
  have : ¬ code p < code q := fun hh => by rw [(pLess_code hp hq).2 hh] at h; cases h
  have : code p ≠ code q := fun e => hne (code_inj hp hq e)
  omega
theorem Ord.uniq {es : List Ent1} (h : Ord es) {a b : Ent1} (ha : a ∈ es) (hb : b ∈ es) (hp : a.p = b.p) : a = b := by
  obtain ⟨h1, h4⟩ := h
  induction es with
  | nil => cases ha
  | cons x l ih =>
    obtain ⟨h2, h3⟩ := List.pairwise_cons.1 h1
    rcases List.mem_cons.1 ha with e1 | e1 <;> rcases List.mem_cons.1 hb with e2 | e2
    · rw [e1, e2]
    · subst e1; have := h2 b e2; rw [hp, pLess_irr] at this; cases this
    · subst e2; have := h2 a e1; rw [hp, pLess_irr] at this; cases this
    · exact ih e1 e2 h3 fun x hx => h4 x (by simp [hx])
theorem findE_some {es : List Ent1} (h : Ord es) {p : Path} {e : Ent1} : findE es p = some e ↔ e ∈ es ∧ e.p = p := by
  constructor
  · intro h1
    exact ⟨List.mem_of_find?_eq_some h1, by simpa using List.find?_some h1⟩
  · rintro ⟨h1, h2⟩
    cases hf : findE es p with
    | none => unfold findE at hf; rw [List.find?_eq_none] at hf; exact absurd (by simpa using h2) (hf e h1)
    | some e' =>
      have a := List.mem_of_find?_eq_some hf
      have b : e'.p = p := by simpa using List.find?_some hf
      rw [h.uniq a h1 (by rw [b, h2])]
theorem findE_none {es : List Ent1} {p : Path} : findE es p = none ↔ ∀ e ∈ es, e.p ≠ p := by
  unfold findE; rw [List.find?_eq_none]; simp

theorem insE_mem {e x : Ent1} {es : List Ent1} : x ∈ insE e es ↔ x = e ∨ x ∈ es := by
  induction es with
  | nil => simp [insE]
  | cons y l ih =>
    unfold insE; split
    · simp only [List.mem_cons, ih]; constructor
      · rintro (h | h | h)
        · exact .inr (.inl h)
        · exact .inl h
        · exact .inr (.inr h)
      · rintro (h | h | h)
        · exact .inr (.inl h)
        · exact .inl h
        · exact .inr (.inr h)
    · simp
theorem insE_len (e : Ent1) (es : List Ent1) : (insE e es).length = es.length + 1 := by
  induction es with
  | nil => rfl
  | cons y l ih => unfold insE; split <;> simp [ih]
theorem insE_sz (e : Ent1) (es : List Ent1) : szT1 (insE e es) = szT1 es + szE e := by
  induction es with
  | nil => simp [insE, szT1]
  | cons y l ih =>
    unfold insE; split
    · simp only [szT1, List.map_cons, List.sum_cons] at ih ⊢; omega
    · simp only [szT1, List.map_cons, List.sum_cons]; omega
theorem insE_ord {e : Ent1} {es : List Ent1} (h : Ord es) (hp : pMay e.p = true) (hn : ∀ x ∈ es, x.p ≠ e.p) : Ord (insE e es) := by
  refine ⟨?_, fun x hx => ?_⟩
  · obtain ⟨h1, h2⟩ := h
    induction es with
    | nil => exact List.pairwise_singleton _ _
    | cons y l ih =>
      obtain ⟨h3, h4⟩ := List.pairwise_cons.1 h1
      unfold insE; split
      · rename_i hl
        refine List.pairwise_cons.2 ⟨fun x hx => ?_, ih (fun x hx => hn x (by simp [hx])) h4 (fun x hx => h2 x (by simp [hx]))⟩
        rcases insE_mem.1 hx with rfl | hx
        · exact hl
        · exact h3 x hx
      · rename_i hl
        have hl' : pLess y.p e.p = false := by simpa using hl
        have hey := pLess_tri (h2 y (by simp)) hp hl' (hn y (by simp))
        refine List.pairwise_cons.2 ⟨fun x hx => ?_, h1⟩
        rcases List.mem_cons.1 hx with rfl | hx
        · exact hey
        · exact pLess_trans hey (h3 x hx)
  · rcases insE_mem.1 hx with rfl | hx
    · exact hp
    · exact h.2 x hx
theorem updE_mem {e e0 x : Ent1} {es : List Ent1} (_h : Ord es) (he : e0 ∈ es) (hp : e0.p = e.p) : x ∈ updE es e ↔ x = e ∨ (x ∈ es ∧ x.p ≠ e.p) := by
  unfold updE
  rw [List.mem_map]
  constructor
  · rintro ⟨y, hy, rfl⟩
    split
    · exact .inl rfl
    · rename_i hne; exact .inr ⟨hy, hne⟩
  · rintro (rfl | ⟨h1, h2⟩)
    · exact ⟨e0, he, by rw [if_pos hp]⟩
    · exact ⟨x, h1, by rw [if_neg h2]⟩
theorem updE_ord {e : Ent1} {es : List Ent1} (h : Ord es) : Ord (updE es e) := by
  have hp : ∀ x : Ent1, (if x.p = e.p then e else x).p = x.p := fun x => by
    split
    · rename_i h; exact h.symm
    · rfl
  refine ⟨?_, fun x hx => ?_⟩
  · unfold updE
    rw [List.pairwise_map]
    exact h.1.imp fun hab => by rw [hp, hp]; exact hab
  · obtain ⟨y, hy, rfl⟩ := List.mem_map.1 hx
    rw [hp]; exact h.2 y hy
theorem updE_sz {e e0 : Ent1} {es : List Ent1} (h : Ord es) (he : e0 ∈ es) (hp : e0.p = e.p) : szT1 (updE es e) + szE e0 = szT1 es + szE e := by
  obtain ⟨h1, h2⟩ := h
  induction es with
  | nil => cases he
  | cons y l ih =>
    obtain ⟨h3, h4⟩ := List.pairwise_cons.1 h1
    by_cases hy : y.p = e.p
    · have e1 : e0 = y := by
        rcases List.mem_cons.1 he with e1 | e1
        · exact e1
        · have := h3 e0 e1; rw [hp, hy, pLess_irr] at this; cases this
      subst e1
      have rest : updE l e = l := by
        unfold updE
        conv => rhs; rw [← List.map_id l]
        refine List.map_congr_left fun x hx => ?_
        rw [if_neg (fun hh => by have := h3 x hx; rw [hy, hh, pLess_irr] at this; cases this)]; rfl
      have : updE (e0 :: l) e = e :: l := by
        show (if e0.p = e.p then e else e0) :: updE l e = _
        rw [if_pos hy, rest]
      rw [this]
      simp only [szT1, List.map_cons, List.sum_cons]; omega
    · have hel : e0 ∈ l := (List.mem_cons.1 he).resolve_left fun e1 => hy (by rw [← e1]; exact hp)
      have ih := ih hel h4 (fun x hx => h2 x (by simp [hx]))
      have : updE (y :: l) e = y :: updE l e := by
        show (if y.p = e.p then e else y) :: updE l e = _
        rw [if_neg hy]
      rw [this]
      simp only [szT1, List.map_cons, List.sum_cons] at ih ⊢; omega
theorem szE_le {e : Ent1} {es : List Ent1} (h : e ∈ es) : szE e ≤ szT1 es := by
  unfold szT1
  induction es with
  | nil => cases h
  | cons y l ih =>
    simp only [List.map_cons, List.sum_cons]
    rcases List.mem_cons.1 h with rfl | h
    · omega
    · have := ih h; omega

section
variable {H : Heap} {oT : Nat → Nat} {S : Nat → Prop} {t ta tb : Nat} {pl : List (Option Head)} {fr : List Nat} {bk : List (List Pair)} {qe : List (Option Ent1)} {most full reqs : Int}

/-- Where a node's entry stands. -/
theorem TabO.place (h : TabO oT S H t ta tb pl fr bk qe most full reqs) {i : Nat} {e : Ent1} (hi : qe[i]? = some (some e)) : ∃ hd, pl[i]? = some (some hd) ∧ hd.p = e.p ∧ pMay e.p = true ∧ Que (fun b => S b ∧ oT b = 3 + i) H hd.q e.hs e.ws := by
  have hlt : i < pl.length := by have := (List.getElem?_eq_some_iff.1 hi).1; rw [h.ql] at this; exact this
  cases hp : pl[i]? with
  | none => rw [List.getElem?_eq_none_iff] at hp; omega
  | some o =>
    cases o with
    | none => have := h.free i hp; rw [hi] at this; cases this
    | some hd =>
      obtain ⟨e', a, b, c, d⟩ := h.used i hd hp
      rw [hi] at a; cases a
      exact ⟨hd, rfl, b.symm, by rw [b]; exact c, d⟩
theorem TabO.look_find (h : TabO oT S H t ta tb pl fr bk qe most full reqs) {es : List Ent1} (ho : Ord es) (hes : ∀ e : Ent1, e ∈ es ↔ ∃ i : Nat, qe[i]? = some (some e)) {p : Path} (hp : pMay p = true) :
    (∃ i hd e, look bk pl p = some (i, hd) ∧ findE es p = some e ∧ pl[i]? = some (some hd) ∧ qe[i]? = some (some e) ∧ e.p = p ∧ Que (fun b => S b ∧ oT b = 3 + i) H hd.q e.hs e.ws) ∨ (look bk pl p = none ∧ findE es p = none ∧ bGet bk (pKey p) = none) := by
  cases hl : look bk pl p with
  | some r =>
    obtain ⟨i, hd⟩ := r
    obtain ⟨_, a, b, c⟩ := look_some h hl
    obtain ⟨e, e1, e2, e3, e4⟩ := h.used i hd a
    refine .inl ⟨i, hd, e, rfl, (findE_some ho).2 ⟨(hes e).2 ⟨i, e1⟩, by rw [e2, b]⟩, a, e1, by rw [e2, b], e4⟩
  | none =>
    obtain ⟨a, b⟩ := look_none h hp hl
    refine .inr ⟨rfl, findE_none.2 fun e he hep => ?_, a⟩
    obtain ⟨i, hi⟩ := (hes e).1 he
    obtain ⟨hd, h1, h2, _⟩ := h.place hi
    exact b i hd h1 (by rw [h2, hep])
end
end Go.Sl
