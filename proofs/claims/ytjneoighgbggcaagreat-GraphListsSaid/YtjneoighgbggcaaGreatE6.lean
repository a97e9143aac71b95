/- Proved here: who waits for whom everywhere, and that chapter 14's example answers true. -/
import Derived.Test.YtjneoighgbggcaaGreatE5
namespace Go.Sl
open Go Go.Proofs Go.Sort

theorem ofGo_len (hs : List Hold) : ∀ (r pre : List Wait), (ofGo hs pre r).length ≤ r.length * (hs.length + (pre.length + r.length))
  | [], pre => by simp [ofGo]
  | w :: r, pre => by
    have h1 := byHold_len hs w
    have h2 := byWait_len pre w
    have h3 := ofGo_len hs r (pre ++ [w])
    simp only [ofGo, List.length_append, List.length_cons, List.length_nil] at h3 ⊢
    have e : hs.length + (pre.length + (0 + 1) + r.length) = hs.length + (pre.length + (r.length + 1)) := by omega
    rw [e] at h3
    rw [Nat.succ_mul]
    omega
theorem ofE_len (e : Ent1) : (ofE e.hs e.ws).length ≤ szE e * szE e := by
  have := ofGo_len e.hs e.ws []
  unfold ofE szE
  refine Nat.le_trans this (Nat.mul_le_mul (by omega) (by simp))

def allE (es : List Ent1) : List Edge := es.flatMap fun e => canon lessE (ofE e.hs e.ws)
theorem allE_len {es : List Ent1} {n : Nat} (h : ∀ e ∈ es, szE e ≤ n) : (allE es).length ≤ n * szT1 es := by
  induction es with
  | nil => simp [allE]
  | cons e es ih =>
    have ih := ih fun x hx => h x (by simp [hx])
    have h1 := canon_len (lt := lessE) (ofE e.hs e.ws)
    have h2 := ofE_len e
    have h3 : szE e * szE e ≤ n * szE e := Nat.mul_le_mul_right _ (h e (by simp))
    simp only [allE, List.flatMap_cons, List.length_append, szT1, List.map_cons, List.sum_cons, Nat.mul_add] at ih ⊢
    omega

section
variable {H : Heap} {Q : Value → Heap → Prop} {oT : Nat → Nat} {S : Nat → Prop} {t ta tb : Nat} {pl : List (Option Head)} {fr : List Nat} {bk : List (List Pair)} {qe : List (Option Ent1)} {most full reqs : Int} {es : List Ent1}

theorem TabO.ord (h : TabO oT S H t ta tb pl fr bk qe most full reqs) (hord : es.Pairwise fun a b => pLess a.p b.p = true) (hes : ∀ e : Ent1, e ∈ es ↔ ∃ i : Nat, qe[i]? = some (some e)) : Ord es :=
  ⟨hord, fun e he => by
    obtain ⟨i, hi⟩ := (hes e).1 he
    obtain ⟨hd, _, _, hm, _⟩ := h.place hi
    exact hm⟩

theorem c_tqueue (h : TabO oT S H t ta tb pl fr bk qe most full reqs) (ho : Ord es) (hes : ∀ e : Ent1, e ∈ es ↔ ∃ i : Nat, qe[i]? = some (some e)) (hz : szT1 es ≤ 100000) {p : Path}
    (h0 : findE es p = none → ∀ H', Sub H H' → Q (.pointer none) H')
    (h1 : ∀ e q' S' H', findE es p = some e → Que S' H' q' e.hs e.ws → Sub H H' → (∀ b, S' b → H b = none) → Q (ptr q') H') : T PP 117 [ptr t, Enc.val p] H Q := by
  apply T117; unfold sh117
  rw [pCells_val]
  intro q hq
  have hs := Sub.upd_fresh (.cs (pCells p) 39) hq
  have h2 := upd_same H q (.cs (pCells p) 39)
  generalize upd H q (.cs (pCells p) 39) = H2 at *
  have t2 := h.keep fun b k _ hk => hs b k hk
  have x0 : ∀ a b : Value, extrV 0 (.tuple #[a, b]) = some a := fun _ _ => rfl
  have x1 : ∀ a b : Value, extrV 1 (.tuple #[a, b]) = some b := fun _ _ => rfl
  rw [ldn_path0 p h2, ev_some]
  refine c_tat t2 ?_
  have none_case : findE es p = none → T PP 157 [.pointer none] H2 Q := fun hf => by
    apply T157; unfold sh157
    simp only [show eqP (.pointer none) (.pointer none) = some true from rfl, notB_f, ev_some, Br_true]
    exact h0 hf H2 hs
  cases hm : pMay p with
  | false =>
    have : look bk pl p = none := by unfold look; rw [hm]; rfl
    rw [this]
    simp only [x0, x1, ev_some]
    refine none_case (findE_none.2 fun e he hep => ?_)
    have := ho.2 e he; rw [hep, hm] at this; cases this
  | true =>
    rcases t2.look_find ho hes hm with ⟨i, hd, e, hl, hf, hi, hqe, hep, hque⟩ | ⟨hl, hf, _⟩
    · rw [hl]
      simp only [x0, x1, ev_some]
      have := szE_le ((findE_some ho).1 hf).1
      have hse : szE e = e.hs.length + e.ws.length := rfl
      refine c_qcopy hque (by omega) (by omega) fun q' S' H' a b c => h1 e q' S' H' hf a (hs.trans b) fun b' hb' => ?_
      cases hh : H b' with
      | none => rfl
      | some k => have := c b' hb'; rw [hs b' k hh] at this; cases this
    · rw [hl]
      simp only [x0, x1, ev_some]
      exact none_case hf

/-- The iterator over the nodes: J B i is what holds ahead of node i; B: what there was when the walk began. -/
theorem c_paths1 {l c : Nat} (h : TabO oT S H t ta tb pl fr bk qe most full reqs) (ho : Ord es) (hes : ∀ e : Ent1, e ∈ es ↔ ∃ i : Nat, qe[i]? = some (some e)) (hz : es.length ≤ 100000) (hc : H c = some (.cs [ptr t] 35)) (J : Heap → Nat → Heap → Prop)
    (h0 : ∀ B, Sub H B → J B 0 B) (hbase : ∀ B i H' b k, J B i H' → B b = some k → H b = none → H' b = some k) (hsub : ∀ B i H' H'', J B i H' → Sub H' H'' → J B i H'')
    (hstep : ∀ B (i : Nat) e H' (K : Value → Heap → Prop), Sub H B → es[i]? = some e → J B i H' → (∀ H'', J B (i + 1) H'' → K (.bool true) H'') → Yd PP l [Enc.val e.p] H' K)
    (hend : ∀ B H', Sub H B → J B es.length H' → Q (.tuple #[]) H') : T PP 254 [.func (.yield l) #[] #[], ptr c] H Q := by
  apply T254; unfold sh254
  rw [ld1_cs hc, List.getElem?_cons_zero, ev_some]
  refine c_tall h ho hes fun v B L oL hds sB fB => ?_
  obtain ⟨hlen, hent⟩ := hds
  simp only [oL.slc.lenS, ev_some, hlen]
  intro I step
  have main : ∀ (n i : Nat) (z : Int) (H1 : Heap), es.length - i = n → z = i → i ≤ es.length → J B i H1 → I [.func (.yield l) #[] #[], v, .int .i64 (es.length : Int), .int .i64 z] H1 := by
    intro n
    induction n using Nat.strongRecOn with
    | _ n ih =>
    intro i z H1 hn hz hi hJ
    apply step
    simp only [i_lss, ev_some]
    by_cases hlt : i < es.length
    · rw [Br_t (by omega)]
      obtain ⟨e, he⟩ : ∃ e, es[i]? = some e := ⟨es[i], List.getElem?_eq_getElem hlt⟩
      obtain ⟨x, hx⟩ : ∃ x, L[i]? = some x := ⟨L[i]'(by omega), List.getElem?_eq_getElem (by omega)⟩
      obtain ⟨hxp, _⟩ := hent i x e hx he
      have sL : Slc H1 v L := oL.slc.keep fun _ b hb k hk => hbase B i H1 b k hJ hk (fB b hb)
      have e0 : z.toNat = i := by omega
      simp (disch := omega) only [sL.ixi (n := 6) rfl, ev_some, e0, sL.rdn (n := 6) rfl rfl hx]
      intro r hr
      have e1 : Sl.sto 6 (upd H1 r (.cs [.int .i64 0, .int .i64 0, .int .i64 0, .int .i64 0, .int .i64 0, .pointer none] 138)) (.pointer (some ⟨r, 0, none⟩)) (Enc.val x) = some (upd H1 r (.cs (pCells x.1.p ++ [ptr x.1.q]) 138)) := by
        simp [Sl.sto, upd_same, Enc.val, Value.cells, Sl.flat, Value.oneCell', over, pCells]
      rw [e1, ev_some]
      have s2 := Sub.upd_fresh (.cs (pCells x.1.p ++ [ptr x.1.q]) 138) hr
      have r2 := upd_same H1 r (.cs (pCells x.1.p ++ [ptr x.1.q]) 138)
      generalize upd H1 r (.cs (pCells x.1.p ++ [ptr x.1.q]) 138) = H2 at *
      have lp : Sl.ldn 5 H2 (.pointer (some ⟨r, 0 + 0, none⟩)) = some (Enc.val x.1.p) := ldn_path x.1.p r2 fun j hj => by
        rw [Nat.add_zero, Nat.zero_add, List.getElem?_append_left (by simpa [pCells] using hj)]
      simp only [fldA_p, lp, ev_some]
      show Yd PP l ([] ++ [Enc.val x.1.p]) H2 _
      rw [hxp]
      refine hstep B i e H2 _ sB he (hsub B i H1 H2 hJ s2) fun H3 hJ3 => ?_
      simp (disch := omega) only [u_not, Bool.not_true, ev_some, Br_false, i_add]
      exact ih _ (by omega) (i + 1) _ H3 rfl (by omega) (by omega) hJ3
    · rw [Br_f (by omega)]
      rw [show i = es.length by omega] at hJ
      exact hend B H1 sB hJ
  exact main _ 0 0 B rfl rfl (Nat.zero_le _) (h0 B sB)

theorem c_gall {most full : Nat} (h : Tab S H t most full es) (hq : ∀ v H', Own H' v (canon lessE (allE es)) → Sub H H' → (∀ b ∈ blk v, H b = none) → Q v H') : T PP 84 [ptr t] H Q := by
  obtain ⟨oT, ta, tb, pl, fr, bk, qe, h, hpl, hlen, hsz, hmost, hfull, hord, hes⟩ := h
  have ho := h.ord hord hes
  apply T84; unfold sh84
  intro tp htp
  have s1 := Sub.upd_fresh (.cs [ptr t] 35) htp
  have t1 := upd_same H tp (.cs [ptr t] 35)
  show alW 22 _ (upd H tp (.cs [ptr t] 35)) _
  generalize upd H tp (.cs [ptr t] 35) = H1 at *
  intro vp hvp
  have s2 := Sub.upd_fresh (.cs [.slice none 0 0] 22) hvp
  have p2 := upd_same H1 vp (.cs [.slice none 0 0] 22)
  generalize upd H1 vp (.cs [.slice none 0 0] 22) = H2 at *
  have t2 := s2 _ _ t1
  have htv : tp ≠ vp := fun e => by subst e; rw [t1] at hvp; cases hvp
  rw [ld1_cs t2, List.getElem?_cons_zero, ev_some]
  apply T141; unfold sh141
  intro c hc
  have s3 := Sub.upd_fresh (.cs [ptr t] 35) hc
  have c3 := upd_same H2 c (.cs [ptr t] 35)
  show rfW PP (.func (.func 254) #[] #[ptr c]) (upd H2 c (.cs [ptr t] 35)) _ _ _ _
  generalize upd H2 c (.cs [ptr t] 35) = H3 at *
  have sH3 := (s1.trans s2).trans s3
  have hcv : c ≠ vp := fun e => by subst e; rw [p2] at hc; cases hc
  refine ⟨by kernel_rfl, fun l rc hl hy => ?_⟩
  have s4 := Sub.upd_fresh (lpR rc) hl
  have l4 := upd_same H3 l (lpR rc)
  have hlv : l ≠ vp := fun e => by subst e; rw [s3 _ _ p2] at hl; cases hl
  have hlt : l ≠ tp := fun e => by subst e; rw [s3 _ _ t2] at hl; cases hl
  have vp4 := s4 _ _ (s3 _ _ p2)
  have tp4 := s4 _ _ (s3 _ _ t2)
  have c4 := s4 _ _ c3
  have sH4 := sH3.trans s4
  have nH : ∀ b, (b = vp ∨ b = l ∨ b = tp) → H b = none := fun b hb => by
    cases hh : H b with
    | none => rfl
    | some k =>
      rcases hb with rfl | rfl | rfl
      · rw [s1 _ k hh] at hvp; cases hvp
      · rw [sH3 _ k hh] at hl; cases hl
      · rw [hh] at htp; cases htp
  generalize upd H3 l (lpR rc) = H4 at *
  have h4 := h.keep fun b k _ hk => sH4 b k hk
  have hsmall : es.length ≤ 100000 := by omega
  refine c_paths1 h4 ho hes hsmall c4 (fun B i H' => ∃ sv, H' vp = some (.cs [sv] 22) ∧ Own H' sv (allE (es.take i)) ∧ H' l = some (lpR rc) ∧ (∀ b k, B b = some k → b ≠ vp → b ≠ l → H' b = some k) ∧ ∀ b ∈ blk sv, B b = none ∧ b ≠ vp ∧ b ≠ l)
    ?_ ?_ ?_ ?_ ?_
  · intro B sB
    exact ⟨.slice none 0 0, sB _ _ vp4, Own.nil none, sB _ _ l4, fun b k hb _ _ => hb, fun b hb => by simp [blk] at hb⟩
  · rintro B i H' b k ⟨sv, _, _, _, a, _⟩ hb hn
    exact a b k hb (fun e => by rw [e, vp4] at hn; cases hn) (fun e => by rw [e, l4] at hn; cases hn)
  · rintro B i H' H'' ⟨sv, a1, a2, a3, a4, a5⟩ s
    exact ⟨sv, s _ _ a1, a2.sub s, s _ _ a3, fun b k hb h1 h2 => s _ _ (a4 b k hb h1 h2), a5⟩
  · rintro B i e H' K sB hei ⟨sv, a1, a2, a3, a4, a5⟩ hK
    have hee := List.mem_of_getElem? hei
    have hfind : findE es e.p = some e := (findE_some ho).2 ⟨hee, rfl⟩
    have sz1 := szE_le hee
    have sze : szE e = e.hs.length + e.ws.length := rfl
    have hout : (allE (es.take i)).length ≤ 2000000 := by
      have h1 := allE_len (es := es.take i) (n := 1024) fun x hx => by have := szE_le (List.mem_of_mem_take hx); omega
      have h2 : szT1 (es.take i) ≤ szT1 es := by
        have : szT1 (es.take i ++ es.drop i) = szT1 (es.take i) + szT1 (es.drop i) := by simp only [szT1, List.map_append, List.sum_append]
        rw [List.take_append_drop] at this
        omega
      omega
    refine hy _ H' K a3 ?_
    dsimp only [ap1]
    intro r hr
    have e1 : Sl.sto 5 (upd H' r (.cs [.int .i64 0, .int .i64 0, .int .i64 0, .int .i64 0, .int .i64 0] 39)) (.pointer (some ⟨r, 0, none⟩)) (Enc.val e.p) = some (upd H' r (.cs (pCells e.p) 39)) := by
      simp [Sl.sto, upd_same, Enc.val, Value.cells, Sl.flat, Value.oneCell', over, pCells]
    rw [e1, ev_some]
    have s5 := Sub.upd_fresh (.cs (pCells e.p) 39) hr
    have r5 := upd_same H' r (.cs (pCells e.p) 39)
    have hrl : r ≠ l := fun e => by subst e; rw [a3] at hr; cases hr
    generalize upd H' r (.cs (pCells e.p) 39) = H5 at *
    refine ⟨s5 _ _ a3, ?_⟩
    -- behind the mark
    have lB : upd H5 l (lpB rc) l = some (lpB rc) := upd_same _ _ _
    have vpB : upd H5 l (lpB rc) vp = some (.cs [sv] 22) := by rw [upd_ne (Ne.symm hlv)]; exact s5 _ _ a1
    have rB : upd H5 l (lpB rc) r = some (.cs (pCells e.p) 39) := by rw [upd_ne hrl]; exact r5
    have oB : Own (upd H5 l (lpB rc)) sv (allE (es.take i)) := (a2.sub s5).keep fun b hb k hk => by rw [upd_ne (a5 b hb).2.2]; exact hk
    have bB : ∀ b k, B b = some k → b ≠ vp → b ≠ l → upd H5 l (lpB rc) b = some k := fun b k hb h1 h2 => by rw [upd_ne h2]; exact s5 _ _ (a4 b k hb h1 h2)
    generalize upd H5 l (lpB rc) = H6 at *
    have tp6 : H6 tp = some (.cs [ptr t] 35) := bB tp _ (sB _ _ tp4) htv (Ne.symm hlt)
    have sH6 : Sub H H6 := fun b k hb => bB b k (sB _ _ (sH4 b k hb)) (fun e => by rw [nH b (.inl e)] at hb; cases hb) (fun e => by rw [nH b (.inr (.inl e))] at hb; cases hb)
    rw [ld1_cs tp6, List.getElem?_cons_zero, ev_some, ldn_path0 e.p rB, ev_some, ld1_cs vpB, List.getElem?_cons_zero, ev_some]
    refine c_tqueue (h.keep fun b k _ hk => sH6 b k hk) ho hes (by omega) (fun hn => by rw [hfind] at hn; cases hn) fun e' q' S' H7 hf hque s7 n7 => ?_
    rw [hfind] at hf; cases hf
    rw [ld1_cs (s7 _ _ vpB), List.getElem?_cons_zero, ev_some]
    refine ⟨rfl, ?_⟩
    refine c_gof hque (by omega) (by omega) fun v8 H8 o8 s8 n8 => ?_
    rw [ld1_cs (s8 _ _ (s7 _ _ vpB)), List.getElem?_cons_zero, ev_some]
    refine ⟨rfl, ?_⟩
    have s68 := s7.trans s8
    have cl := canon_len (lt := lessE) (ofE e.hs e.ws)
    have ol := ofE_len e
    have ol2 : szE e * szE e ≤ 1024 * 1024 := Nat.mul_le_mul (by omega) (by omega)
    refine appE (oB.sub s68) o8.slc (by omega) fun v9 H9 o9 c9 f9 => ?_
    have nb : ∀ b ∈ blk v9, ∀ k, H6 b = some k → b ∈ blk sv := fun b hb k hk => by
      rcases f9 b hb with f | f
      · exact f
      · rw [s68 b k hk] at f; cases f
    have n9 : ∀ b ∈ blk v9, B b = none ∧ b ≠ vp ∧ b ≠ l := fun b hb => by
      have hv : b ≠ vp := fun e => (a5 b (nb b hb _ (by rw [e]; exact vpB))).2.1 e
      have hl' : b ≠ l := fun e => (a5 b (nb b hb _ (by rw [e]; exact lB))).2.2 e
      refine ⟨?_, hv, hl'⟩
      cases hh : B b with
      | none => rfl
      | some k => have := (a5 b (nb b hb k (bB b k hh hv hl'))).1; rw [hh] at this; cases this
    have vp9 := c9 vp _ (s68 _ _ vpB) (fun hb => (a5 vp hb).2.1 rfl)
    rw [sto_cs vp9 v9 (by obtain ⟨_, _, rfl⟩ := o9.slc.len; rfl) (by obtain ⟨_, _, rfl⟩ := o9.slc.len; rfl) (by simp), ev_some]
    have lz : upd H9 vp (.cs ([sv].set 0 v9) 22) l = some (lpB rc) := by rw [upd_ne hlv]; exact c9 l _ (s68 _ _ lB) (fun hb => (a5 l hb).2.2 rfl)
    refine ⟨lz, hK _ ⟨v9, ?_, ?_, upd_same _ _ _, ?_, n9⟩⟩
    · rw [upd_ne (Ne.symm hlv)]; exact upd_same _ _ _
    · have : allE (es.take (i + 1)) = allE (es.take i) ++ canon lessE (ofE e.hs e.ws) := by
        rw [List.take_add_one, hei]; simp [allE]
      rw [this]
      exact o9.keep fun b hb k hk => by rw [upd_ne (n9 b hb).2.2, upd_ne (n9 b hb).2.1]; exact hk
    · intro b k hb h1 h2
      rw [upd_ne h2, upd_ne h1]
      exact c9 b k (s68 b k (bB b k hb h1 h2)) (fun hb' => by rw [(a5 b hb').1] at hb; cases hb)
  · rintro B H' sB ⟨sv, a1, a2, a3, a4, a5⟩
    rw [List.take_of_length_le (Nat.le_refl _)] at a2
    refine .inl ⟨a3, ?_⟩
    have vpE : ers H' l vp = some (.cs [sv] 22) := by unfold ers; rw [if_neg (Ne.symm hlv)]; exact a1
    have oE : Own (ers H' l) sv (allE es) := a2.keep fun b hb k hk => by unfold ers; rw [if_neg (a5 b hb).2.2]; exact hk
    have sE : Sub H (ers H' l) := fun b k hb => by
      have n1 : b ≠ vp := fun e => by rw [nH b (.inl e)] at hb; cases hb
      have n2 : b ≠ l := fun e => by rw [nH b (.inr (.inl e))] at hb; cases hb
      unfold ers; rw [if_neg n2]; exact a4 b k (sB _ _ (sH4 b k hb)) n1 n2
    generalize ers H' l = H'' at *
    dsimp only
    rw [ld1_cs vpE, List.getElem?_cons_zero, ev_some]
    have hout : (allE es).length ≤ 2000000 := by
      have h1 := allE_len (es := es) (n := 1024) fun x hx => by have := szE_le hx; omega
      omega
    refine c_gsort oE.slc (by omega) fun v' H9 o9 s9 f9 => hq v' H9 o9 (sE.trans s9) fun b hb => ?_
    cases hh : H b with
    | none => rfl
    | some k => have := f9 b hb; rw [sE b k hh] at this; cases this
end
end Go.Sl
namespace Go.Sl
open Go Go.Proofs Go.Sort

def p1 : Path := ⟨1, 0, 0, 0, 1⟩
def es1 : List Ent1 := [⟨p1, [⟨1, 6⟩], []⟩]
def es2 : List Ent1 := [⟨p1, [⟨1, 6⟩], [⟨2, 3, false, false⟩]⟩]
def es3 : List Ent1 := [⟨p1, [⟨1, 6⟩], [⟨2, 3, false, false⟩, ⟨3, 3, false, false⟩]⟩]
theorem ask1 : tAsk 9 9 [] 1 p1 6 0 = (1, 0, es1) := by decide
theorem ask2 : tAsk 9 9 es1 2 p1 3 0 = (2, 0, es2) := by decide
theorem ask3 : tAsk 9 9 es2 3 p1 3 0 = (2, 0, es3) := by decide
theorem all3 : canon lessE (allE es3) = [⟨2, 1⟩, ⟨3, 1⟩, ⟨3, 2⟩] := by decide

theorem c_awake (H : Heap) (Q : Value → Heap → Prop) (hq : ∀ H', Sub H H' → Q (.bool true) H') : T PP 12 [] H Q := by
  apply T12; unfold sh12
  refine c_tnew fun t S1 H1 most full hm hf t1 s1 f1 => ?_
  have em : most = 9 := by omega
  have ef : full = 9 := by omega
  subst em ef
  refine ev_iff.2 ⟨.agg #[.int .i64 1, .int .i64 0, .int .i64 0, .int .i64 0], rfl, ?_⟩
  refine ev_iff.2 ⟨Enc.val p1, rfl, ?_⟩
  intro r hr
  have e1 : Sl.sto 5 (upd H1 r (.cs [.int .i64 0, .int .i64 0, .int .i64 0, .int .i64 0, .int .i64 0] 39)) (.pointer (some ⟨r, 0, none⟩)) (Enc.val p1) = some (upd H1 r (.cs (pCells p1) 39)) := by
    simp [Sl.sto, upd_same, Enc.val, Value.cells, Sl.flat, Value.oneCell', over, pCells]
  rw [e1, ev_some]
  have s2 := Sub.upd_fresh (.cs (pCells p1) 39) hr
  have r2 := upd_same H1 r (.cs (pCells p1) 39)
  have tkn : ∀ b, S1 b → H1 b ≠ none := by obtain ⟨oT, ta, tb, pl, fr, bk, qe, h, _⟩ := t1; exact h.known
  have rS : ¬ S1 r := fun h => tkn r h hr
  have t2 : Tab S1 (upd H1 r (.cs (pCells p1) 39)) t 9 9 [] := by
    obtain ⟨oT, ta, tb, pl, fr, bk, qe, h, rest⟩ := t1
    exact ⟨oT, ta, tb, pl, fr, bk, qe, h.keep fun b k _ hk => s2 b k hk, rest⟩
  have nS : ∀ b k, H b = some k → ¬ S1 b := fun b k hk hb => by have := f1 b hb; rw [hk] at this; cases this
  have sH := s1.trans s2
  generalize upd H1 r (.cs (pCells p1) 39) = H2 at *
  rw [ldn_path0 p1 r2, ev_some]
  -- what was there, and the node, stay
  have stay : ∀ {S S' : Nat → Prop} {A B : Heap}, Frm S S' A B → (¬ S r ∧ A r = some (.cs (pCells p1) 39)) → (∀ b k, H b = some k → ¬ S b) → Sub H A →
      (¬ S' r ∧ B r = some (.cs (pCells p1) 39)) ∧ (∀ b k, H b = some k → ¬ S' b) ∧ Sub H B := by
    intro S S' A B f h1 h2 h3
    refine ⟨⟨fun h => ?_, f.2 _ _ h1.2 h1.1⟩, fun b k hk h => ?_, fun b k hk => f.2 _ _ (h3 b k hk) (h2 b k hk)⟩
    · rcases f.1 r h with h4 | h4
      · exact h1.1 h4
      · rw [h1.2] at h4; cases h4
    · rcases f.1 b h with h4 | h4
      · exact h2 b k hk h4
      · rw [h3 b k hk] at h4; cases h4
  refine c_task t2 fun S3 H3 t3 f3 => ?_
  rw [ask1] at t3
  obtain ⟨r3, n3, s3⟩ := stay f3 ⟨rS, r2⟩ nS sH
  rw [ldn_path0 p1 r3.2, ev_some]
  refine c_task t3 fun S4 H4 t4 f4 => ?_
  dsimp only at t4
  rw [ask2] at t4
  obtain ⟨r4, n4, s4⟩ := stay f4 r3 n3 s3
  rw [ldn_path0 p1 r4.2, ev_some]
  refine c_task t4 fun S5 H5 t5 f5 => ?_
  dsimp only at t5
  rw [ask3] at t5
  obtain ⟨r5, n5, s5⟩ := stay f5 r4 n4 s4
  refine c_gall t5 fun v6 H6 o6 s6 f6 => ?_
  dsimp only at o6
  rw [all3] at o6
  refine ev_iff.2 ⟨Enc.val (⟨2, 1⟩ : Edge), rfl, ev_iff.2 ⟨Enc.val (⟨3, 1⟩ : Edge), rfl, ev_iff.2 ⟨Enc.val (⟨3, 2⟩ : Edge), rfl, ?_⟩⟩⟩
  have bl : bldL (zRow 3 [.int .i64 0, .int .i64 0]) [(0, 2, Enc.val (⟨2, 1⟩ : Edge)), (2, 2, Enc.val (⟨3, 1⟩ : Edge)), (4, 2, Enc.val (⟨3, 2⟩ : Edge))] = some (enc [(⟨2, 1⟩ : Edge), ⟨3, 1⟩, ⟨3, 2⟩]) := rfl
  rw [bl, ev_some]
  intro q hq'
  have s7 := Sub.upd_fresh (.cs (enc [(⟨2, 1⟩ : Edge), ⟨3, 1⟩, ⟨3, 2⟩]) 27) hq'
  have o7 := own_new (H := H6) (b := q) (e := 27) [(⟨2, 1⟩ : Edge), ⟨3, 1⟩, ⟨3, 2⟩]
  generalize upd H6 q (.cs (enc [(⟨2, 1⟩ : Edge), ⟨3, 1⟩, ⟨3, 2⟩]) 27) = H7 at *
  refine c_same (o6.slc.sub s7) o7.slc (by decide) ?_
  rw [decide_eq_true rfl]
  exact hq H7 ((s5.trans s6).trans s7)
end Go.Sl
