/- Proved here: what the table's Ask answers. -/
import Derived.Test.YtjneoighgbggcaaGreatE3
import Derived.Test.YtjneoighgbggcaaGreatC1
import Derived.Test.YtjneoighgbggcaaGreatC2
namespace Go.Sl
open Go Go.Proofs

section
variable {H : Heap} {Q : Value → Heap → Prop}

theorem Frm.wider {S S1 S' : Nat → Prop} {H H' : Heap} (h : Frm S1 S' H H') (hs : ∀ b, S1 b → S b ∨ H b = none) : Frm S S' H H' := by
  refine ⟨fun b hb => ?_, fun b kk hk hn => h.2 b kk hk fun h1 => ?_⟩
  · rcases h.1 b hb with h1 | h1
    · exact hs b h1
    · exact .inr h1
  · rcases hs b h1 with h2 | h2
    · exact hn h2
    · rw [hk] at h2; cases h2

theorem c_task {S : Nat → Prop} {t most full : Nat} {es : List Ent1} {tx m flag : Int} {p : Path} (h : Tab S H t most full es)
    (hq : ∀ S' H', Tab S' H' t most full (tAsk most full es tx p m flag).2.2 → Frm S S' H H' → Q (.tuple #[.int .i64 (tAsk most full es tx p m flag).1, .int .i64 (tAsk most full es tx p m flag).2.1]) H') :
    T PP 73 [ptr t, .int .i64 tx, Enc.val p, .int .i64 m, .int .i64 flag] H Q := by
  apply T73; unfold sh73
  rw [pCells_val]
  intro pp hpp
  have s1 := Sub.upd_fresh (.cs (pCells p) 39) hpp
  have hp1 := upd_same H pp (.cs (pCells p) 39)
  generalize upd H pp (.cs (pCells p) 39) = H1 at *
  obtain ⟨oT, ta, tb, pl, fr, bk, qe, h0, hpl, hlen, hsz, hmost, hfull, hord, hmem⟩ := h
  have hkn := h0.known
  have h1 := h0.keep fun b k _ hk => s1 b k hk
  have ppS : ¬ S pp := fun hb => hkn pp hb hpp
  have fin : ∀ (H' : Heap) (a e : Int), Sub H1 H' → tAsk most full es tx p m flag = (a, e, es) → Q (.tuple #[.int .i64 a, .int .i64 e]) H' := fun H' a e s he => by
    rw [he] at hq
    exact hq S H' ⟨oT, ta, tb, pl, fr, bk, qe, h1.keep fun b k _ hk => s b k hk, hpl, hlen, hsz, hmost, hfull, hord, hmem⟩ (Frm.sub (s1.trans s) hkn (Frm.refl S H'))
  have ho : Ord es := ⟨hord, fun e he => by
    obtain ⟨i, hi⟩ := (hmem e).1 he
    obtain ⟨hd, _, _, hm, _⟩ := h0.place hi
    exact hm⟩
  simp only [ldn_path0 p hp1, ev_some]
  refine c_tmay h1 ?_
  simp only [i_neq, ev_some]
  cases hm : pMay p with
  | false =>
    rw [if_neg (by simp), Br_t (by decide)]
    exact fin H1 0 1 (Sub.refl H1) (by unfold tAsk; rw [if_pos hm])
  | true =>
  rw [if_pos rfl, Br_f (by decide)]
  have lp : ∀ H', Sub H1 H' → Sl.ldn 5 H' (ptr pp) = some (Enc.val p) := fun H' s => ldn_path0 p (s pp _ hp1)
  simp only [lp H1 (Sub.refl H1), ev_some]
  refine c_tat h1 ?_
  have x0 : ∀ a b : Value, extrV 0 (.tuple #[a, b]) = some a := fun _ _ => rfl
  have x1 : ∀ a b : Value, extrV 1 (.tuple #[a, b]) = some b := fun _ _ => rfl
  rcases h1.look_find ho hmem hm with ⟨i, hd, e, hl, hf, hi, hqe, hep, hque⟩ | ⟨hl, hf, habs⟩
  · -- it has locks already
    rw [hl]
    simp only [x0, x1, ev_some, eqP_nil, notB_f]
    have hee : e ∈ es := ((findE_some ho).1 hf).1
    have hse : szE e ≤ szT1 es := szE_le hee
    have hse' : szE e = e.hs.length + e.ws.length := rfl
    have hq1 : (qAsk e.hs e.ws tx m flag).2.2.1.length ≤ e.hs.length + 1 ∧ (qAsk e.hs e.ws tx m flag).2.2.2.length ≤ e.ws.length + 1 := qAsk_len _ _ _ _ _
    unfold tAsk at hq fin
    rw [if_neg (by rw [hm]; simp), hf] at hq
    rw [if_neg (by rw [hm]; simp), hf] at fin
    simp only [Option.elim_some] at hq fin
    have hc : (qCost e.hs e.ws tx m flag).2 = 0 → (qCost e.hs e.ws tx m flag).1 = ((qAsk e.hs e.ws tx m flag).2.2.1.length + (qAsk e.hs e.ws tx m flag).2.2.2.length : Int) - (e.hs.length + e.ws.length) := by
      intro h0; unfold qCost at h0 ⊢; dsimp only at h0 ⊢; split
      · rename_i hh; rw [if_pos hh] at h0; exact absurd h0 hh
      · rfl
    generalize hcost : qCost e.hs e.ws tx m flag = cst at *
    generalize hask : qAsk e.hs e.ws tx m flag = ask at *
    unfold tAskC at hq fin
    simp only [reduceCtorEq, false_and, or_false] at hq fin
    intro K18 step18
    rw [Br_false]
    apply step18
    refine c_qcost hque (by omega) (by omega) ?_
    rw [hcost]
    simp only [x0, x1, ev_some, i_neq]
    by_cases he' : cst.2 ≠ 0
    · rw [Br_t he']; exact fin H1 _ _ (Sub.refl H1) (by rw [if_pos he'])
    have he : cst.2 = 0 := by simpa using he'
    rw [Br_f he']
    rw [if_neg he'] at hq fin
    have hcv := hc he
    intro K32 step32
    simp (disch := omega) only [nilV_p, fldA_p, Nat.zero_add, ld1_cs h1.ht, List.getElem?_cons_zero, List.getElem?_cons_succ, ev_some, i_sub, i_gtr]
    by_cases hgt : (most : Int) - szT1 es < cst.1
    · rw [Br_t hgt]
      apply step32
      rw [Br_true]
      exact fin H1 _ _ (Sub.refl H1) (by rw [if_pos hgt])
    · rw [Br_f hgt]
      rw [if_neg hgt] at hq
      dsimp only at hq
      simp only [Br_false]
      apply step32
      rw [Br_false]
      simp (disch := omega) only [nilV_p, fldA_p, Nat.zero_add, ld1_cs h1.ht, List.getElem?_cons_zero, List.getElem?_cons_succ, ev_some, i_add]
      rw [sto_cs h1.ht _ rfl rfl (by simp), ev_some]
      simp only [List.set_cons_zero, List.set_cons_succ]
      have h2 := h1.req ((szT1 es : Nat) + cst.1)
      have fr2 : Frm S S H1 _ := Frm.upd h1.st (.cs [ptr ta, ptr tb, .int .i64 (most : Int), .int .i64 (full : Int), .int .i64 ((szT1 es : Nat) + cst.1)] 142)
      generalize upd H1 t (.cs [ptr ta, ptr tb, .int .i64 (most : Int), .int .i64 (full : Int), .int .i64 ((szT1 es : Nat) + cst.1)] 142) = H2 at *
      intro K50 step50 K60 step60
      rw [Br_false]
      apply step60
      rw [Br_false]
      apply step50
      obtain ⟨e', e1, e2, e3, hque2⟩ := h2.used i hd hi
      rw [hqe] at e1; cases e1
      refine c_qask hque2 (by omega) (by omega) fun S3 H3 hq3 k3 n3 => ?_
      rw [hask] at hq3 ⊢
      simp only [x0, x1, ev_some]
      obtain ⟨oT4, S4, h4, fr4⟩ := h2.setq hi hqe hq3 k3 n3
      have hupd := updE_sz (e := ⟨p, ask.2.2.1, ask.2.2.2⟩) ho hee hep
      have hz : ((szT1 es : Nat) : Int) + cst.1 = (szT1 (updE es ⟨p, ask.2.2.1, ask.2.2.2⟩) : Nat) := by
        rw [hcv]
        have : szE ⟨p, ask.2.2.1, ask.2.2.2⟩ = ask.2.2.1.length + ask.2.2.2.length := rfl
        omega
      rw [hz, hep] at h4
      refine hq S4 H3 ⟨oT4, ta, tb, pl, fr, bk, _, h4, hpl, by rw [show (updE es ⟨p, ask.2.2.1, ask.2.2.2⟩).length = es.length by simp [updE]]; exact hlen, by omega, hmost, hfull, (updE_ord ho).1, fun x => ?_⟩ (Frm.sub s1 hkn (fr2.trans fr4))
      rw [updE_mem ho hee hep]
      have hlt : i < qe.length := (List.getElem?_eq_some_iff.1 hqe).1
      constructor
      · rintro (rfl | ⟨a1, a2⟩)
        · exact ⟨i, List.getElem?_set_self hlt⟩
        · obtain ⟨j, hj⟩ := (hmem x).1 a1
          refine ⟨j, ?_⟩
          rw [List.getElem?_set_ne (fun hij => by subst hij; rw [hqe] at hj; cases hj; exact a2 hep)]; exact hj
      · rintro ⟨j, hj⟩
        by_cases hij : i = j
        · subst hij; rw [List.getElem?_set_self hlt] at hj; cases hj; exact .inl rfl
        · rw [List.getElem?_set_ne hij] at hj
          have hx := (hmem x).2 ⟨j, hj⟩
          refine .inr ⟨hx, fun hxp => hij ?_⟩
          have hxe : x = e := ho.uniq hx hee (by rw [hxp, hep])
          subst hxe
          -- two places with one node
          obtain ⟨hd1, p1, p2, _⟩ := h1.place hqe
          obtain ⟨hd2, p3, p4, _⟩ := h1.place hj
          have m1 := (h1.map (pKey hd1.p) (i : Int)).2 ⟨by omega, hd1, by simpa using p1, rfl⟩
          have m2 := (h1.map (pKey hd1.p) (j : Int)).2 ⟨by omega, hd2, by simpa using p3, by rw [p2, p4]⟩
          rw [m1] at m2; have := Option.some.inj m2; omega
  · -- a node that has none yet
    rw [hl]
    simp only [x0, x1, ev_some, show eqP (.pointer none) (.pointer none) = some true from rfl, notB_f]
    unfold tAsk at hq fin
    rw [if_neg (by rw [hm]; simp), hf] at hq
    rw [if_neg (by rw [hm]; simp), hf] at fin
    simp only [Option.elim_none] at hq fin
    have hq1 : (qAsk [] [] tx m flag).2.2.1.length ≤ ([] : List Hold).length + 1 ∧ (qAsk [] [] tx m flag).2.2.2.length ≤ ([] : List Wait).length + 1 := qAsk_len _ _ _ _ _
    have hc : (qCost [] [] tx m flag).2 = 0 → (qCost [] [] tx m flag).1 = ((qAsk [] [] tx m flag).2.2.1.length + (qAsk [] [] tx m flag).2.2.2.length : Int) := by
      intro h0; unfold qCost at h0 ⊢; dsimp only at h0 ⊢; split
      · rename_i hh; rw [if_pos hh] at h0; exact absurd h0 hh
      · simp
    simp only [List.length_nil, Nat.zero_add] at hq1
    generalize hcost : qCost [] [] tx m flag = cst at *
    generalize hask : qAsk [] [] tx m flag = ask at *
    unfold tAskC at hq fin
    simp only [true_and] at hq fin
    intro K18 step18
    rw [Br_true]
    refine ev_iff.2 ⟨.agg #[.slice none 0 0, .slice none 0 0], rfl, fun q' hq' => ?_⟩
    have s2 := Sub.upd_fresh (.cs [.slice none 0 0, .slice none 0 0] 212) hq'
    have hq2 := upd_same H1 q' (.cs [.slice none 0 0, .slice none 0 0] 212)
    show K18 [ptr t, .int .i64 tx, .int .i64 m, .int .i64 flag, ptr pp, ptr q', .bool true] (upd H1 q' (.cs [.slice none 0 0, .slice none 0 0] 212))
    generalize upd H1 q' (.cs [.slice none 0 0, .slice none 0 0] 212) = H2 at *
    have hqS : ¬ S q' := fun hb => h1.known q' hb hq'
    have hqH : H q' = none := by
      cases hh : H q' with
      | none => rfl
      | some k => rw [s1 q' k hh] at hq'; cases hq'
    have que : Que (fun b => b = q') H2 q' [] [] := ⟨_, _, rfl, hq2, .inl ⟨rfl, none, 0, rfl⟩, .inl ⟨rfl, none, 0, rfl⟩, fun h => absurd rfl h, fun h => absurd rfl h, fun b hb => by rw [hb, hq2]; simp⟩
    have h2 := h1.keep fun b k _ hk => s2 b k hk
    apply step18
    refine c_qcost que (by simp) (by simp) ?_
    rw [hcost]
    simp only [x0, x1, ev_some, i_neq]
    by_cases he' : cst.2 ≠ 0
    · rw [Br_t he']; exact fin H2 _ _ s2 (by rw [if_pos he'])
    have he : cst.2 = 0 := by simpa using he'
    rw [Br_f he']
    rw [if_neg he'] at hq fin
    have hcv := hc he
    intro K32 step32
    simp (disch := omega) only [nilV_p, fldA_p, Nat.zero_add, ld1_cs h2.ht, List.getElem?_cons_zero, List.getElem?_cons_succ, ev_some, i_sub, i_gtr]
    have yes : (cst.1 > (most : Int) - szT1 es ∨ (0 < cst.1 ∧ es.length = full)) → K32 [ptr t, .int .i64 tx, .int .i64 m, .int .i64 flag, ptr pp, ptr q', .bool true, .int .i64 cst.1, .bool true] H2 := by
      intro hh
      apply step32
      rw [Br_true]
      exact fin H2 _ _ s2 (by rw [if_pos hh])
    have no : ¬ (cst.1 > (most : Int) - szT1 es ∨ (0 < cst.1 ∧ es.length = full)) → K32 [ptr t, .int .i64 tx, .int .i64 m, .int .i64 flag, ptr pp, ptr q', .bool true, .int .i64 cst.1, .bool false] H2 := by
      intro hh
      rw [if_neg hh] at hq
      dsimp only at hq
      apply step32
      rw [Br_false]
      simp (disch := omega) only [nilV_p, fldA_p, Nat.zero_add, ld1_cs h2.ht, List.getElem?_cons_zero, List.getElem?_cons_succ, ev_some, i_add]
      rw [sto_cs h2.ht _ rfl rfl (by simp), ev_some]
      simp only [List.set_cons_zero, List.set_cons_succ]
      have h3 := h2.req ((szT1 es : Nat) + cst.1)
      have fr3 : Frm S S H2 _ := Frm.upd h2.st (.cs [ptr ta, ptr tb, .int .i64 (most : Int), .int .i64 (full : Int), .int .i64 ((szT1 es : Nat) + cst.1)] 142)
      have qn : q' ≠ t := fun e => hqS (by rw [e]; exact h1.st)
      have que3 : Que (fun b => b = q') (upd H2 t (.cs [ptr ta, ptr tb, .int .i64 (most : Int), .int .i64 (full : Int), .int .i64 ((szT1 es : Nat) + cst.1)] 142)) q' [] [] := que.keep fun b k hb hk => by rw [upd_ne (by rw [hb]; exact qn)]; exact hk
      have pp3 := h2.st
      have hp3 : (upd H2 t (.cs [ptr ta, ptr tb, .int .i64 (most : Int), .int .i64 (full : Int), .int .i64 ((szT1 es : Nat) + cst.1)] 142)) pp = some (.cs (pCells p) 39) := by
        rw [upd_ne (fun e => ppS (by rw [e]; exact h1.st))]; exact s2 pp _ hp1
      generalize upd H2 t (.cs [ptr ta, ptr tb, .int .i64 (most : Int), .int .i64 (full : Int), .int .i64 ((szT1 es : Nat) + cst.1)] 142) = H3 at *
      intro K50 step50 K60 step60
      rw [Br_true]
      simp only [i_gtr, ev_some]
      by_cases hpos : 0 < cst.1
      · rw [if_pos hpos] at hq
        rw [decide_eq_true hpos]
        apply step60
        rw [Br_true]
        simp only [nilV_p, fldA_p, Nat.zero_add, ld1_cs h3.ht, List.getElem?_cons_zero, ev_some, ldn_path0 p hp3]
        have bv : bldV [.int .i64 0, .int .i64 0, .int .i64 0, .int .i64 0, .int .i64 0, .pointer none] [(0, 5, Enc.val p), (5, 1, ptr q')] = some (Enc.val (⟨p, q'⟩ : Head)) := rfl
        rw [bv, ev_some]
        refine c_atake h3.arn ⟨p, q'⟩ (fun hfr => ?_) fun i r H4 hfr ha4 hno k4 => ?_
        · exfalso; subst hfr; simp only [List.length_nil] at hlen; omega
        · have ht4 := k4 t _ h3.ht (fun hh => by have := h3.ot; omega)
          have hp4 := k4 pp _ hp3 (fun hh => ppS hh.1)
          simp only [x0, x1, ev_some, Br_true, ld1_cs ht4, List.getElem?_cons_zero, List.getElem?_cons_succ, ldn_path0 p hp4]
          refine c_pkey ?_
          simp only [ld1_cs ht4, List.getElem?_cons_zero, List.getElem?_cons_succ, ev_some, true_and]
          have hcnt := h3.cnt
          have hbl := h3.len
          have bk4 := h3.bkt.keep (H' := H4) fun b k hb hk => k4 b k hk (by omega)
          refine c_bput bk4 h3.inv.1 (by omega) (by omega) (fun l hl x hx => ?_) (⟨pKey p, (i : Int)⟩ : Pair) (pKey_lt p) habs fun S5 H5 hb5 fr5 => ?_
          · obtain ⟨j, hj⟩ := List.getElem?_of_mem hl
            exact (h3.inv.2.1 j l x hj hx).2
          apply step50
          have q4 : ∀ b k, b = q' → H3 b = some k → H5 b = some k := fun b k hb hk => fr5.2 b k (k4 b k hk (fun hh => hqS (by rw [← hb]; exact hh.1))) (fun hh => hqS (by rw [← hb]; exact hh.1))
          have que5 : Que (fun b => b = q') H5 q' [] [] := que3.keep q4
          have new1 : ∀ b, H4 b = none → H3 b = none := fun b hb => by
            cases hh : H3 b with
            | none => rfl
            | some k =>
              by_cases h1' : S b ∧ oT b = 1
              · exact absurd hb (ha4.kn b h1')
              · rw [k4 b k hh h1'] at hb; cases hb
          obtain ⟨oT6, S6, h6, fr6⟩ := h3.add hm hfr hno que3 (fun b hb => by rw [hb]; exact hqS) ha4 k4 hb5 fr5 habs new1
          have hlt : i < pl.length := (List.getElem?_eq_some_iff.1 hno).1
          have hi6 : (pl.set i (some (⟨p, q'⟩ : Head)))[i]? = some (some ⟨p, q'⟩) := List.getElem?_set_self hlt
          have hqe6 : (qe.set i (some (⟨p, [], []⟩ : Ent1)))[i]? = some (some ⟨p, [], []⟩) := List.getElem?_set_self (by have := h3.ql; omega)
          obtain ⟨e6, e61, _, _, que6⟩ := h6.used i _ hi6
          refine c_qask que5 (by simp) (by simp) fun S7 H7 hq7 k7 n7 => ?_
          rw [hask] at hq7 ⊢
          simp only [x0, x1, ev_some]
          obtain ⟨oT8, S8, h8, fr8⟩ := h6.setq hi6 hqe6 hq7 k7 (fun b hb => (n7 b hb).imp (fun e => by subst e; exact que6.bnd) id)
          have hz : ((szT1 es : Nat) : Int) + cst.1 = (szT1 (insE ⟨p, ask.2.2.1, ask.2.2.2⟩ es) : Nat) := by
            rw [insE_sz, hcv]
            have : szE ⟨p, ask.2.2.1, ask.2.2.2⟩ = ask.2.2.1.length + ask.2.2.2.length := rfl
            omega
          rw [hz] at h8
          have hr : fr.length = r.length + 1 := by rw [hfr]; rfl
          have hbound : szT1 (insE ⟨p, ask.2.2.1, ask.2.2.2⟩ es) ≤ most := by omega
          refine hq S8 H7 ⟨oT8, ta, tb, _, r, _, _, h8, by rw [List.length_set]; exact hpl, by rw [insE_len, List.length_set]; omega, hbound, hmost, hfull, (insE_ord ho hm (findE_none.1 hf)).1, fun x => ?_⟩ ?_
          · rw [insE_mem, List.set_set]
            have hlt2 : i < qe.length := by have := h3.ql; omega
            constructor
            · rintro (rfl | hx)
              · exact ⟨i, List.getElem?_set_self hlt2⟩
              · obtain ⟨j, hj⟩ := (hmem x).1 hx
                refine ⟨j, ?_⟩
                rw [List.getElem?_set_ne (fun hij => by subst hij; rw [h3.free i hno] at hj; cases hj)]; exact hj
            · rintro ⟨j, hj⟩
              by_cases hij : i = j
              · subst hij; rw [List.getElem?_set_self hlt2] at hj; cases hj; exact .inl rfl
              · rw [List.getElem?_set_ne hij] at hj; exact .inr ((hmem x).2 ⟨j, hj⟩)
          · have f1 : Frm S (fun b => S b ∨ b = q') H H2 := ⟨fun b hb => hb.imp id fun e => by rw [e]; exact hqH, fun b kk hk _ => (s1.trans s2) b kk hk⟩
            have f2 : Frm (fun b => S b ∨ b = q') (fun b => S b ∨ b = q') H2 H3 := ⟨fun b hb => .inl hb, fun b kk hk hn => fr3.2 b kk hk fun hh => hn (.inl hh)⟩
            exact f1.trans (f2.trans (fr6.trans fr8))
      · rw [if_neg hpos] at hq
        rw [decide_eq_false hpos]
        apply step60
        rw [Br_false]
        apply step50
        refine c_qask que3 (by simp) (by simp) fun S4 H4 hq4 k4 n4 => ?_
        rw [hask]
        simp only [x0, x1, ev_some]
        have c0 : cst.1 = 0 := by omega
        rw [c0, Int.add_zero] at h3
        refine hq S H4 ⟨oT, ta, tb, pl, fr, bk, qe, h3.keep fun b k hb hk => k4 b k hk fun e => hqS (by rw [← e]; exact hb), hpl, hlen, hsz, hmost, hfull, hord, hmem⟩ ?_
        exact ⟨fun b hb => .inl hb, fun b kk hk hn => k4 b kk (fr3.2 b kk ((s1.trans s2) b kk hk) hn) fun e => by subst e; rw [hqH] at hk; cases hk⟩
    by_cases hgt : (most : Int) - szT1 es < cst.1
    · rw [Br_t hgt]; exact yes (.inl hgt)
    · rw [Br_f hgt]
      simp only [Br_true]
      by_cases hpos : 0 < cst.1
      · rw [Br_t hpos]
        refine c_aleft h2.arn ?_
        simp only [i_eql, ev_some]
        by_cases hfu : es.length = full
        · rw [decide_eq_true (show (fr.length : Int) = 0 by omega)]
          exact yes (.inr ⟨hpos, hfu⟩)
        · rw [decide_eq_false (show ¬ (fr.length : Int) = 0 by omega)]
          exact no (by omega)
      · rw [Br_f hpos]; exact no (by omega)
end
end Go.Sl
namespace Go.Sl
open Go Go.Proofs Go.Sort

abbrev VH : Type := { h : Head // pMay h.p = true }
instance : Inhabited VH := ⟨⟨⟨⟨0, 0, 0, 0, 1⟩, 0⟩, by decide⟩⟩
instance : Enc VH where
  val x := Enc.val x.1
  sz := 6
  ag := true
  size _ := rfl
  pos := by decide
  flat _ := rfl
  agg _ _ := ⟨_, rfl⟩
  one h := by cases h
def ltH (a b : VH) : Bool := pLess a.1.p b.1.p
theorem ltH_code (a b : VH) : ltH a b = true ↔ code a.1.p < code b.1.p := pLess_code a.2 b.2
theorem swoH : SWO ltH where
  irrefl x := pLess_irr _
  trans x y z h1 h2 := by rw [ltH_code] at *; omega
  ntrans x y z h1 h2 := by
    rw [← Bool.not_eq_true, ltH_code] at *; omega
end Go.Sl
