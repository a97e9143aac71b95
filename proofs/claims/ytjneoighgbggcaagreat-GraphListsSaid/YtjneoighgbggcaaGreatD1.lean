/- Proved here: GraphLists answers true wherever chapter 14's example answers true. -/
import Derived.Test.YtjneoighgbggcaaGreatD0
import Derived.Test.YtjneoighgbggcaaGreatC3
namespace Go.Sl
open Go Go.Proofs Go.Sort

theorem stoI : STO ltInt where
  irrefl x := by simp [ltInt]
  trans x y z h1 h2 := by simp [ltInt] at *; omega
  tri x y h1 h2 := by simp [ltInt] at *; omega
theorem valI (n : Int) : Enc.val n = .int .i64 n := rfl
theorem u30 : PP.underlying 30 = some (.slice 3) := by kernel_rfl
theorem b3 : bytT PP 3 = some 8 := by kernel_rfl
theorem z3 : zeT PP 3 = some [.int .i64 0] := by kernel_rfl
theorem c_lessI {H : Heap} {bs : List Nat} : CmpO PP 309 H bs ltInt := by
  intro H' x y K _ hk
  have nan : ∀ (n : Int) (H : Heap) (K : Value → Heap → Prop), K (.bool false) H → T PP 385 [.int .i64 n] H K := by
    intro n H K hk
    apply T385; unfold sh385
    simp only [i_neq, ev_some]; simpa using hk
  apply T309; unfold sh309
  refine nan x _ _ ?_
  simp only [Br_false, valI, i_lss, ev_some]
  exact hk

section
variable {H : Heap} {Q : Value → Heap → Prop} {v : Value}
theorem appI {s x : Value} {l ys : List Int} {K : Value → Heap → Prop} (hs : Own H s l) (hx : Slc H x ys) (hbound : l.length + ys.length ≤ 1000000000)
    (h : ∀ v' H', Own H' v' (l ++ ys) → Chg (blk s) H H' → (∀ b ∈ blk v', b ∈ blk s ∨ H b = none) → K v' H') : appW PP 30 30 s x H K :=
  app_own u30 s3 b3 z3 rfl rfl (by decide) hs hx hbound h

theorem c_compactI {l : List Int} (ho : Own H v l) (hb : l.length ≤ 1000000000)
    (h : ∀ v' H', Own H' v' (dd l) → Chg (blk v) H H' → blk v' = blk v → Q v' H') : T PP 90 [v] H Q := by
  apply T90; unfold sh90
  simp only [ho.slc.lenS, ev_some, i_lss]
  by_cases h2 : l.length < 2
  · rw [Br_t (by omega)]
    exact h v H (by rw [dd_short l h2]; exact ho) (Chg.of_sub _ (Sub.refl H)) rfl
  · rw [Br_f (by omega)]
    intro I stepI
    have loop1 : ∀ (n k : Nat) (z : Int), l.length - k = n → z = ((k + 1 : Nat) : Int) → k + 1 ≤ l.length → dd (l.take (k + 1)) = l.take (k + 1) → I [v, .int .i64 z] H := by
      intro n
      induction n using Nat.strongRecOn with
      | _ n ih =>
      intro k z hn hz hk hdd
      apply stepI
      simp only [ho.slc.lenS, ev_some, i_lss]
      by_cases hlt : k + 1 < l.length
      · rw [Br_t (by omega)]
        obtain ⟨a, ha⟩ : ∃ a, l[k]? = some a := ⟨l[k]'(by omega), List.getElem?_eq_getElem (by omega)⟩
        obtain ⟨x, hx⟩ : ∃ x, l[k + 1]? = some x := ⟨l[k + 1]'(by omega), List.getElem?_eq_getElem (by omega)⟩
        have e0 : z.toNat = k + 1 := by omega
        have e1 : (z - 1).toNat = k := by omega
        simp (disch := omega) only [i_sub, ev_some, ho.slc.ixi (n := 1) rfl, e0, e1, ho.slc.rd1 (n := 1) rfl rfl ha, ho.slc.rd1 (n := 1) rfl rfl hx, valI, i_eql]
        have hstep := dd_take ha hx
        by_cases hax : a = x
        · rw [Br_t hax.symm]
          rw [if_pos hax] at hstep
          obtain ⟨v2, e2, l2, x2⟩ := ho.tail (n := 1) rfl hlt hz
          rw [e2, ev_some]
          intro J stepJ
          have loop2 : ∀ (n m : Nat) (i y : Int) (H1 : Heap), l.length - m = n → m ≤ l.length → k + 2 ≤ m → i = ((dd (l.take m)).length : Int) → (dd (l.take m)).length < m → y = (m : Int) - (k + 1 : Nat) →
              Own H1 v (dd (l.take m) ++ l.drop (dd (l.take m)).length) → Chg (blk v) H H1 → J [v, .int .i64 i, v2, .int .i64 y] H1 := by
            intro n
            induction n using Nat.strongRecOn with
            | _ n ih2 =>
            intro m i y H1 hn hml hkm hi hil hy ho1 c1
            apply stepJ
            simp only [l2, ev_some, i_lss]
            have hlen : (dd (l.take m) ++ l.drop (dd (l.take m)).length).length = l.length := by simp; omega
            by_cases hm : m < l.length
            · rw [Br_t (by omega)]
              intro K stepK
              obtain ⟨a, ha⟩ : ∃ a, l[m - 1]? = some a := ⟨l[m - 1]'(by omega), List.getElem?_eq_getElem (by omega)⟩
              obtain ⟨x, hx⟩ : ∃ x, l[m - 1 + 1]? = some x := ⟨l[m - 1 + 1]'(by omega), List.getElem?_eq_getElem (by omega)⟩
              have hstep := dd_take ha hx
              rw [show m - 1 + 2 = m + 1 by omega, show m - 1 + 1 = m by omega] at hstep
              rw [show m - 1 + 1 = m by omega] at hx
              have ha' : (dd (l.take m) ++ l.drop (dd (l.take m)).length)[m - 1]? = some a := by rw [get_app (by omega)]; exact ha
              have hx' : (dd (l.take m) ++ l.drop (dd (l.take m)).length)[m]? = some x := by rw [get_app (by omega)]; exact hx
              have e0 : k + 1 + y.toNat = m := by omega
              have e1 : k + 1 + (y - 1).toNat = m - 1 := by omega
              simp (disch := omega) only [x2, i_sub, ev_some, e0, e1, ho1.slc.rd1 (n := 1) rfl rfl ha', ho1.slc.rd1 (n := 1) rfl rfl hx', valI, i_neq]
              by_cases hax : a = x
              · rw [show decide (x ≠ a) = false by simp [hax], Br_false]
                apply stepK
                simp (disch := omega) only [i_add, ev_some]
                rw [if_pos hax] at hstep
                refine ih2 (l.length - (m + 1)) (by omega) (m + 1) i _ H1 rfl (by omega) (by omega) (by rw [hstep]; exact hi) (by rw [hstep]; omega) (by omega) (by rw [hstep]; exact ho1) c1
              · rw [show decide (x ≠ a) = true by simp [Ne.symm hax], Br_true]
                rw [if_neg hax] at hstep
                have e2 : i.toNat = (dd (l.take m)).length := by omega
                simp (disch := omega) only [ho1.slc.ixi (n := 1) rfl, ev_some, e2]
                refine ho1.stl (n := 1) rfl (by omega) x fun H2 ho2 c2 => ?_
                simp (disch := omega) only [i_add, ev_some]
                apply stepK
                simp (disch := omega) only [i_add, ev_some]
                have hl2 : (dd (l.take (m + 1))).length = (dd (l.take m)).length + 1 := by rw [hstep]; simp
                refine ih2 (l.length - (m + 1)) (by omega) (m + 1) _ _ H2 rfl (by omega) (by omega) (by rw [hl2]; omega) (by omega) (by omega) ?_ (c1.trans c2)
                have : (dd (l.take m) ++ l.drop (dd (l.take m)).length).set (dd (l.take m)).length x = dd (l.take (m + 1)) ++ l.drop (dd (l.take (m + 1))).length := by
                  rw [hl2, hstep, set_app (by omega)]
                rw [← this]; exact ho2
            · rw [Br_f (by omega)]
              have hml : m = l.length := by omega
              subst hml
              rw [List.take_length] at *
              refine ho1.cut (t := 30) (e := 3) u30 z3 rfl rfl rfl (k := (dd l).length) (by rw [hlen]; omega) hi fun v' H2 o2 c2 e2 => ?_
              rw [List.take_left] at o2
              exact h v' H2 o2 (c1.trans c2) e2
          have hD : (dd (l.take (k + 2))).length = k + 1 := by rw [hstep, hdd]; simp; omega
          refine loop2 _ (k + 2) _ _ H rfl (by omega) (Nat.le_refl _) (by rw [hD]; exact hz) (by omega) (by omega) ?_ (Chg.of_sub _ (Sub.refl H))
          rw [hD, hstep, hdd, List.take_append_drop]; exact ho
        · rw [Br_f (Ne.symm hax)]
          rw [if_neg hax, hdd] at hstep
          simp (disch := omega) only [i_add, ev_some]
          refine ih (l.length - (k + 1)) (by omega) (k + 1) _ rfl (by omega) (by omega) ?_
          rw [hstep, (take_succ2 ha hx).2, (take_succ2 ha hx).1]
      · rw [Br_f (by omega)]
        have hk2 : k + 1 = l.length := by omega
        rw [hk2, List.take_length] at hdd
        exact h v H (by rw [hdd]; exact ho) (Chg.of_sub _ (Sub.refl H)) rfl
    refine loop1 _ 0 _ rfl (by omega) (by omega) ?_
    exact dd_short _ (by simp; omega)
theorem c_sameI {x y : Value} {l m : List Int} (hx : Slc H x l) (hy : Slc H y m) (hb : l.length ≤ 1000000000) (h : Q (.bool (decide (l = m))) H) : T PP 17 [x, y] H Q := by
  apply T17; unfold sh17
  simp only [hx.lenS, hy.lenS, ev_some, i_neq]
  by_cases hlen : l.length = m.length
  · rw [Br_f (by omega)]
    intro I stepI
    have loop : ∀ (n i : Nat) (z : Int), l.length - i = n → z = i → i ≤ l.length → l.take i = m.take i → I [x, y, .int .i64 (l.length : Int), .int .i64 z] H := by
      intro n
      induction n using Nat.strongRecOn with
      | _ n ih =>
      intro i z hn hz hi ht
      apply stepI
      simp only [i_lss, ev_some]
      by_cases hlt : i < l.length
      · rw [Br_t (by omega)]
        obtain ⟨a, ha⟩ : ∃ a, l[i]? = some a := ⟨l[i]'(by omega), List.getElem?_eq_getElem (by omega)⟩
        obtain ⟨c, hc⟩ : ∃ c, m[i]? = some c := ⟨m[i]'(by omega), List.getElem?_eq_getElem (by omega)⟩
        have e0 : z.toNat = i := by omega
        simp (disch := omega) only [hx.ixi (n := 1) rfl, hy.ixi (n := 1) rfl, ev_some, e0, hx.rd1 (n := 1) rfl rfl ha, hy.rd1 (n := 1) rfl rfl hc, valI, i_neq]
        by_cases hac : a = c
        · rw [show decide (a ≠ c) = false by simp [hac], Br_false]
          simp (disch := omega) only [i_add, ev_some]
          refine ih (l.length - (i + 1)) (by omega) (i + 1) _ rfl (by omega) (by omega) ?_
          rw [List.take_add_one, List.take_add_one, ht, ha, hc, hac]
        · rw [show decide (a ≠ c) = true by simp [hac], Br_true]
          have : l ≠ m := by intro e; subst e; rw [ha] at hc; cases hc; exact hac rfl
          simpa [this] using h
      · rw [Br_f (by omega)]
        have : l = m := by
          rw [List.take_of_length_le (by omega), List.take_of_length_le (by omega)] at ht; exact ht
        simpa [this] using h
    exact loop _ 0 _ rfl rfl (by omega) (by simp)
  · rw [Br_t (by omega)]
    have : l ≠ m := fun e => hlen (by rw [e])
    simpa [this] using h

theorem c_numbers {x : Value} {l : List Int} (hx : Slc H x l) (hb : l.length ≤ 100000000)
    (h : ∀ v' H', Own H' v' (canon ltInt l) → Sub H H' → (∀ b ∈ blk v', H b = none) → Q v' H') : T PP 30 [x] H Q := by
  apply T30; unfold sh30
  simp only [hx.lenS, ev_some]
  intro I stepI
  have main : ∀ (n j : Nat) (z : Int) (o : List Int) (vo : Value) (H1 : Heap), l.length - j = n → z = j → j ≤ l.length → o.length ≤ j → Own H1 vo o → Sub H H1 → (∀ b ∈ blk vo, H b = none ∧ ∃ k, H1 b = some k) →
      (∀ v' H', Own H' v' ((l.drop j).foldl (ins ltInt) o) → Sub H H' → (∀ b ∈ blk v', H b = none) → Q v' H') → I [vo, x, .int .i64 (l.length : Int), .int .i64 z] H1 := by
    intro n
    induction n using Nat.strongRecOn with
    | _ n ih =>
    intro j z o vo H1 hn hz hj hol ho s1 hk hq
    apply stepI
    simp only [i_lss, ev_some]
    by_cases hlt : j < l.length
    · rw [Br_t (by omega)]
      intro K10 step10
      obtain ⟨e, he⟩ : ∃ e, l[j]? = some e := ⟨l[j]'(by omega), List.getElem?_eq_getElem (by omega)⟩
      have hdrop : l.drop j = e :: l.drop (j + 1) := by
        rw [List.drop_eq_getElem_cons hlt]; congr 1
        rw [List.getElem?_eq_getElem hlt] at he; exact Option.some.inj he
      rw [hdrop, List.foldl_cons] at hq
      have k10 : ∀ (v' : Value) (H' : Heap), Own H' v' (ins ltInt o e) → Sub H H' → (∀ b ∈ blk v', H b = none ∧ ∃ k, H' b = some k) → K10 [v', x, .int .i64 (l.length : Int), .int .i64 z] H' := by
        intro v' H' o' s' k'
        apply step10
        simp (disch := omega) only [i_add, ev_some]
        have := ins_len (lt := ltInt) o e
        exact ih (l.length - (j + 1)) (by omega) (j + 1) _ _ _ _ rfl (by omega) (by omega) (by omega) o' s' k' hq
      have e0 : z.toNat = j := by omega
      have hx1 := hx.sub s1
      simp (disch := omega) only [hx1.ixi (n := 1) rfl, ev_some, e0, hx1.rd1 (n := 1) rfl rfl he, valI]
      intro I22 step22
      have scan : ∀ (m i : Nat) (y : Int), o.length - i = m → y = i → i ≤ o.length → (∀ j a, j < i → o[j]? = some a → ltInt a e = true) → I22 [vo, .int .i64 e, .int .i64 y, x, .int .i64 (l.length : Int), .int .i64 z] H1 := by
        intro m
        induction m using Nat.strongRecOn with
        | _ m mh =>
        intro i y hm hy hi hpre
        apply step22
        intro K30 step30
        have term : (∀ a, o[i]? = some a → ltInt a e = false) → K30 [vo, .int .i64 e, .int .i64 y, x, .int .i64 (l.length : Int), .int .i64 z, .bool false] H1 := by
          intro hst
          have hpos := pos_spec hi hpre hst
          apply step30
          simp only [Br_false]
          intro K40 step40
          simp only [ho.slc.lenS, ev_some, i_eql]
          have insert : o[i]? ≠ some e → K40 [vo, .int .i64 e, .int .i64 y, x, .int .i64 (l.length : Int), .int .i64 z, .bool true] H1 := by
            intro hne
            have hins : ins ltInt o e = o.take i ++ ([e] ++ o.drop i) := by unfold ins; rw [hpos, if_neg hne]; rfl
            apply step40
            simp only [Br_true]
            obtain ⟨v49, e49, o49, b49⟩ := ho.take3 (n := 1) hi hy .i64
            rw [e49, ev_some]
            obtain ⟨v50, e50, r50, b50⟩ := ho.slc.part (n := 1) rfl hi (Nat.le_refl _) (.inr ⟨.i64, y, rfl, hy⟩) (.inl ⟨rfl, rfl⟩)
            rw [e50, ev_some]
            have b52 : bldL (zRow 1 [(.int .i64 0)]) [(0, 1, .int .i64 e)] = some (enc [e]) := rfl
            rw [b52, ev_some]
            intro q hq0
            have s3 : Sub H1 (upd H1 q (.cs (enc [e]) 3)) := Sub.upd_fresh _ hq0
            rw [List.take_length] at r50
            refine appI (own_new [e]) (r50.sub s3) (by simp; omega) fun v55 H4 o55 c55 f55 => ?_
            have c4 : Sub H1 H4 := s3.chg c55 (by simpa [blk] using hq0)
            have o49' : Own H4 v49 (o.take i) := o49.sub c4
            refine appI o49' o55.slc (by simp; omega) fun v57 H6 o57 c57 f57 => ?_
            refine k10 v57 H6 (by rw [hins]; exact o57) ?_ fun b hb => ?_
            · have : Sub H H4 := s1.trans c4
              exact this.chg c57 fun b hb => by rw [b49] at hb; exact (hk b hb).1
            · refine ⟨?_, o57.slc.known (by simp) b hb⟩
              rcases f57 b hb with f | f
              · rw [b49] at f; exact (hk b f).1
              · cases hh : H b with
                | none => rfl
                | some k => have := (s1.trans c4) b k hh; rw [f] at this; cases this
          by_cases hio : i < o.length
          · rw [Br_f (by omega)]
            obtain ⟨a, ha⟩ : ∃ a, o[i]? = some a := ⟨o[i]'(by omega), List.getElem?_eq_getElem (by omega)⟩
            have e1 : y.toNat = i := by omega
            simp (disch := omega) only [ho.slc.ixi (n := 1) rfl, ev_some, e1, ho.slc.rd1 (n := 1) rfl rfl ha, valI, i_neq]
            by_cases hae : a = e
            · rw [show decide (a ≠ e) = false by simp [hae]]
              apply step40
              simp only [Br_false]
              refine k10 vo H1 ?_ s1 hk
              unfold ins; rw [hpos, if_pos (by rw [ha, hae])]; exact ho
            · rw [show decide (a ≠ e) = true by simp [hae]]
              exact insert (by rw [ha]; simpa using hae)
          · rw [Br_t (by omega)]
            exact insert (by rw [List.getElem?_eq_none (by omega)]; simp)
        simp only [ho.slc.lenS, ev_some, i_lss]
        by_cases hio : i < o.length
        · rw [Br_t (by omega)]
          obtain ⟨a, ha⟩ : ∃ a, o[i]? = some a := ⟨o[i]'(by omega), List.getElem?_eq_getElem (by omega)⟩
          have e1 : y.toNat = i := by omega
          simp (disch := omega) only [ho.slc.ixi (n := 1) rfl, ev_some, e1, ho.slc.rd1 (n := 1) rfl rfl ha, valI, i_lss]
          by_cases h1 : a < e
          · rw [show decide (a < e) = true by simp [h1]]
            apply step30
            simp (disch := omega) only [Br_true, i_add, ev_some]
            refine mh (o.length - (i + 1)) (by omega) (i + 1) _ rfl (by omega) (by omega) fun j b hj hb => ?_
            by_cases hji : j = i
            · subst hji; rw [ha] at hb; cases hb; simp [ltInt, h1]
            · exact hpre j b (by omega) hb
          · rw [show decide (a < e) = false by simp [h1]]
            exact term fun b hb => by rw [ha] at hb; cases hb; simp [ltInt, h1]
        · rw [Br_f (by omega)]
          exact term fun b hb => by rw [List.getElem?_eq_none (by omega)] at hb; cases hb
      exact scan _ 0 _ rfl rfl (Nat.zero_le _) (fun j a hj => by omega)
    · rw [Br_f (by omega)]
      rw [List.drop_eq_nil_of_le (by omega)] at hq
      exact hq vo H1 ho s1 fun b hb => (hk b hb).1
  exact main _ 0 _ [] _ H rfl rfl (Nat.zero_le _) (by simp) (Own.nil none) (Sub.refl H) (by simp [blk]) h
end
end Go.Sl
namespace Go.Sl
open Go Go.Proofs Go.Sort

section
variable {H : Heap} {Q : Value → Heap → Prop} {v : Value}

def toL (tx : Int) (l : List Edge) : List Int := (l.filter fun e => decide (e.From = tx)).map Edge.To

theorem toL_cons (tx : Int) (e : Edge) (l : List Edge) : toL tx (e :: l) = if e.From = tx then e.To :: toL tx l else toL tx l := by
  unfold toL; by_cases h : e.From = tx <;> simp [h]
theorem drop_cons' {α : Type} {l : List α} {j : Nat} {e : α} (he : l[j]? = some e) : l.drop j = e :: l.drop (j + 1) := by
  have hlt : j < l.length := by
    rcases Nat.lt_or_ge j l.length with h | h
    · exact h
    · rw [List.getElem?_eq_none h] at he; cases he
  rw [List.drop_eq_getElem_cons hlt]; congr 1
  rw [List.getElem?_eq_getElem hlt] at he; exact Option.some.inj he
theorem st_edge {H1 : Heap} {p : Nat} (e : Edge) : Sl.sto 2 (upd H1 p (.cs [.int .i64 0, .int .i64 0] 27)) (.pointer (some ⟨p, 0, none⟩)) (Enc.val e) = some (upd (upd H1 p (.cs [.int .i64 0, .int .i64 0] 27)) p (.cs [.int .i64 e.From, .int .i64 e.To] 27)) := by
  simp [Sl.sto, upd_same, Value.cells, Sl.flat, Value.oneCell', over, Enc.val]
theorem known_fresh {H H1 : Heap} (s : Sub H H1) {bs : List Nat} (hk : ∀ b ∈ bs, H b = none) {bs' : List Nat} (f : ∀ b ∈ bs', b ∈ bs ∨ H1 b = none) : ∀ b ∈ bs', H b = none := fun b hb => by
  rcases f b hb with f | f
  · exact hk b f
  · cases hh : H b with
    | none => rfl
    | some k => have := s b k hh; rw [f] at this; cases this

theorem c_from {x : Value} {l : List Edge} {tx : Int} (hx : Slc H x l) (hb : l.length ≤ 100000000)
    (h : ∀ v' H', Own H' v' (toL tx (canon lessE l)) → Sub H H' → (∀ b ∈ blk v', H b = none) → Q v' H') : T PP 18 [x, .int .i64 tx] H Q := by
  apply T18; unfold sh18
  refine c_gsort hx hb fun v1 H1 o1 s1 f1 => ?_
  have hlen := canon_len (lt := lessE) l
  generalize canon lessE l = s at *
  simp only [o1.slc.lenS, ev_some]
  intro I stepI
  have main : ∀ (n j : Nat) (z : Int) (o : List Int) (vo : Value) (H2 : Heap), s.length - j = n → z = j → j ≤ s.length → o.length ≤ j → Own H2 vo o → Sub H1 H2 → (∀ b ∈ blk vo, H1 b = none) →
      (∀ v' H', Own H' v' (o ++ toL tx (s.drop j)) → Sub H1 H' → (∀ b ∈ blk v', H1 b = none) → Q v' H') → I [.int .i64 tx, vo, v1, .int .i64 (s.length : Int), .int .i64 z] H2 := by
    intro n
    induction n using Nat.strongRecOn with
    | _ n ih =>
    intro j z o vo H2 hn hz hj hol ho s2 hk hq
    apply stepI
    simp only [i_lss, ev_some]
    by_cases hlt : j < s.length
    · rw [Br_t (by omega)]
      intro K step
      obtain ⟨e, he⟩ : ∃ e, s[j]? = some e := ⟨s[j]'(by omega), List.getElem?_eq_getElem (by omega)⟩
      rw [drop_cons' he, toL_cons] at hq
      have k10 : ∀ (o' : List Int) (v' : Value) (H' : Heap), o'.length ≤ j + 1 → Own H' v' o' → Sub H1 H' → (∀ b ∈ blk v', H1 b = none) → (∀ v' H', Own H' v' (o' ++ toL tx (s.drop (j + 1))) → Sub H1 H' → (∀ b ∈ blk v', H1 b = none) → Q v' H') → K [.int .i64 tx, v', v1, .int .i64 (s.length : Int), .int .i64 z] H' := by
        intro o' v' H' ol' o'' s' k' hq
        apply step
        simp (disch := omega) only [i_add, ev_some]
        exact ih (s.length - (j + 1)) (by omega) (j + 1) _ _ _ _ rfl (by omega) (by omega) ol' o'' s' k' hq
      have e0 : z.toNat = j := by omega
      have hx1 := o1.slc.sub s2
      simp (disch := omega) only [hx1.ixi (n := 2) rfl, ev_some, e0, hx1.rdn (n := 2) rfl rfl he]
      intro p hp
      rw [st_edge, ev_some]
      have s3 : Sub H2 (upd (upd H2 p (.cs [.int .i64 0, .int .i64 0] 27)) p (.cs [.int .i64 e.From, .int .i64 e.To] 27)) := (Sub.upd_fresh _ hp).chg (Chg_upd _) (by simpa using hp)
      have p3 : (upd (upd H2 p (.cs [.int .i64 0, .int .i64 0] 27)) p (.cs [.int .i64 e.From, .int .i64 e.To] 27)) p = some (.cs [.int .i64 e.From, .int .i64 e.To] 27) := upd_same _ _ _
      generalize (upd (upd H2 p (.cs [.int .i64 0, .int .i64 0] 27)) p (.cs [.int .i64 e.From, .int .i64 e.To] 27)) = H3 at *
      simp only [fldA_p, ld1_cs p3, List.getElem?_cons_zero, List.getElem?_cons_succ, Nat.zero_add, ev_some, i_eql]
      by_cases hf : e.From = tx
      · rw [Br_t hf]
        rw [if_pos hf] at hq
        have b52 : bldL (zRow 1 [(.int .i64 0)]) [(0, 1, .int .i64 e.To)] = some (enc [e.To]) := rfl
        rw [b52, ev_some]
        intro q hq0
        have s4 : Sub H3 (upd H3 q (.cs (enc [e.To]) 3)) := Sub.upd_fresh _ hq0
        refine appI ((ho.sub s3).sub s4) (own_new [e.To]).slc (by simp; omega) fun v55 H4 o55 c55 f55 => ?_
        refine k10 _ v55 H4 (by simp; omega) o55 (((s2.trans s3).trans s4).chg c55 hk) (known_fresh ((s2.trans s3).trans s4) hk f55) ?_
        simpa using hq
      · rw [Br_f hf]
        rw [if_neg hf] at hq
        exact k10 _ vo H3 (by omega) (ho.sub s3) (s2.trans s3) hk hq
    · rw [Br_f (by omega)]
      rw [List.drop_eq_nil_of_le (by omega)] at hq
      exact hq vo H2 (by simpa [toL] using ho) s2 hk
  refine main _ 0 _ [] _ H1 rfl rfl (Nat.zero_le _) (by simp) (Own.nil none) (Sub.refl H1) (by simp [blk]) fun v' H' o' s' k' => ?_
  refine h v' H' (by simpa using o') (s1.trans s') fun b hb => ?_
  cases hh : H b with
  | none => rfl
  | some k => have := s1 b k hh; rw [k' b hb] at this; cases this

theorem c_reffrom {x : Value} {s : List Edge} {tx : Int} (hx : Slc H x s) (hb : s.length ≤ 100000000)
    (h : ∀ v' H', Own H' v' (canon ltInt (toL tx s)) → Sub H H' → (∀ b ∈ blk v', H b = none) → Q v' H') : T PP 19 [x, .int .i64 tx] H Q := by
  apply T19; unfold sh19
  simp only [hx.lenS, ev_some]
  intro I stepI
  have main : ∀ (n j : Nat) (z : Int) (o : List Int) (vo : Value) (H2 : Heap), s.length - j = n → z = j → j ≤ s.length → o.length ≤ j → Own H2 vo o → Sub H H2 → (∀ b ∈ blk vo, H b = none) →
      (∀ v' H', Own H' v' (canon ltInt (o ++ toL tx (s.drop j))) → Sub H H' → (∀ b ∈ blk v', H b = none) → Q v' H') → I [.int .i64 tx, vo, x, .int .i64 (s.length : Int), .int .i64 z] H2 := by
    intro n
    induction n using Nat.strongRecOn with
    | _ n ih =>
    intro j z o vo H2 hn hz hj hol ho s2 hk hq
    apply stepI
    simp only [i_lss, ev_some]
    by_cases hlt : j < s.length
    · rw [Br_t (by omega)]
      intro K step
      obtain ⟨e, he⟩ : ∃ e, s[j]? = some e := ⟨s[j]'(by omega), List.getElem?_eq_getElem (by omega)⟩
      rw [drop_cons' he, toL_cons] at hq
      have k10 : ∀ (o' : List Int) (v' : Value) (H' : Heap), o'.length ≤ j + 1 → Own H' v' o' → Sub H H' → (∀ b ∈ blk v', H b = none) → (∀ v' H', Own H' v' (canon ltInt (o' ++ toL tx (s.drop (j + 1)))) → Sub H H' → (∀ b ∈ blk v', H b = none) → Q v' H') → K [.int .i64 tx, v', x, .int .i64 (s.length : Int), .int .i64 z] H' := by
        intro o' v' H' ol' o'' s' k' hq
        apply step
        simp (disch := omega) only [i_add, ev_some]
        exact ih (s.length - (j + 1)) (by omega) (j + 1) _ _ _ _ rfl (by omega) (by omega) ol' o'' s' k' hq
      have e0 : z.toNat = j := by omega
      have hx1 := hx.sub s2
      simp (disch := omega) only [hx1.ixi (n := 2) rfl, ev_some, e0, hx1.rdn (n := 2) rfl rfl he]
      intro p hp
      rw [st_edge, ev_some]
      have s3 : Sub H2 (upd (upd H2 p (.cs [.int .i64 0, .int .i64 0] 27)) p (.cs [.int .i64 e.From, .int .i64 e.To] 27)) := (Sub.upd_fresh _ hp).chg (Chg_upd _) (by simpa using hp)
      have p3 : (upd (upd H2 p (.cs [.int .i64 0, .int .i64 0] 27)) p (.cs [.int .i64 e.From, .int .i64 e.To] 27)) p = some (.cs [.int .i64 e.From, .int .i64 e.To] 27) := upd_same _ _ _
      generalize (upd (upd H2 p (.cs [.int .i64 0, .int .i64 0] 27)) p (.cs [.int .i64 e.From, .int .i64 e.To] 27)) = H3 at *
      simp only [fldA_p, ld1_cs p3, List.getElem?_cons_zero, List.getElem?_cons_succ, Nat.zero_add, ev_some, i_eql]
      by_cases hf : e.From = tx
      · rw [Br_t hf]
        rw [if_pos hf] at hq
        have b52 : bldL (zRow 1 [(.int .i64 0)]) [(0, 1, .int .i64 e.To)] = some (enc [e.To]) := rfl
        rw [b52, ev_some]
        intro q hq0
        have s4 : Sub H3 (upd H3 q (.cs (enc [e.To]) 3)) := Sub.upd_fresh _ hq0
        refine appI ((ho.sub s3).sub s4) (own_new [e.To]).slc (by simp; omega) fun v55 H4 o55 c55 f55 => ?_
        refine k10 _ v55 H4 (by simp; omega) o55 (((s2.trans s3).trans s4).chg c55 hk) (known_fresh ((s2.trans s3).trans s4) hk f55) ?_
        simpa using hq
      · rw [Br_f hf]
        rw [if_neg hf] at hq
        exact k10 _ vo H3 (by omega) (ho.sub s3) (s2.trans s3) hk hq
    · rw [Br_f (by omega)]
      rw [List.drop_eq_nil_of_le (by omega)] at hq
      refine c_numbers ho.slc (by omega) fun v' H' o' s' k' => ?_
      refine hq v' H' (by simpa [toL] using o') (s2.trans s') fun b hb => ?_
      cases hh : H b with
      | none => rfl
      | some k => have := s2 b k hh; rw [k' b hb] at this; cases this
  exact main _ 0 _ [] _ H rfl rfl (Nat.zero_le _) (by simp) (Own.nil none) (Sub.refl H) (by simp [blk]) fun v' H' o' s' k' => h v' H' (by simpa using o') s' k'

def ends (l : List Edge) : List Int := l.flatMap fun e => [e.From, e.To]

theorem c_nodesL {x : Value} {s : List Edge} {I : List Value → Heap → Prop} (hx : Slc H x s) (hb : s.length ≤ 100000000)
    (stepI : ∀ (H4 : Heap) (x5 x6 x7 x8 : Value), (ev (intV .lss x8 x7) fun v9 =>
      Br v9 (
      ev (ixS 2 x6 x8) fun v10 =>
      ev (ldn 2 H4 v10) fun v11 =>
      alW 27 [(.int .i64 0), (.int .i64 0)] H4 fun v12 H13 =>
      ev (sto 2 H13 v12 v11) fun H14 =>
      ev (fldA 0 v12) fun v15 =>
      ev (ld1 H14 v15) fun v16 =>
      ev (fldA 1 v12) fun v17 =>
      ev (ld1 H14 v17) fun v18 =>
      ev (bldL (zRow 2 [(.int .i64 0)]) [(0, 1, v16), (1, 1, v18)]) fun l19 =>
      nsW 3 2 2 l19 H14 fun v20 H21 =>
      appW PP 30 30 x5 v20 H21 fun v22 H23 =>
      ev (intV .add x8 (.int .i64 1)) fun v24 =>
      I [v22, x6, x7, v24] H23) (Q x5 H4)) → I [x5, x6, x7, x8] H4)
    (hq : ∀ v' H', Own H' v' (ends s) → Sub H H' → (∀ b ∈ blk v', H b = none) → Q v' H') : I [.slice none 0 0, x, .int .i64 (s.length : Int), .int .i64 0] H := by
  have main : ∀ (n j : Nat) (z : Int) (o : List Int) (vo : Value) (H2 : Heap), s.length - j = n → z = j → j ≤ s.length → o.length ≤ 2 * j → Own H2 vo o → Sub H H2 → (∀ b ∈ blk vo, H b = none) →
      (∀ v' H', Own H' v' (o ++ ends (s.drop j)) → Sub H H' → (∀ b ∈ blk v', H b = none) → Q v' H') → I [vo, x, .int .i64 (s.length : Int), .int .i64 z] H2 := by
    intro n
    induction n using Nat.strongRecOn with
    | _ n ih =>
    intro j z o vo H2 hn hz hj hol ho s2 hk hq
    apply stepI
    simp only [i_lss, ev_some]
    by_cases hlt : j < s.length
    · rw [Br_t (by omega)]
      obtain ⟨e, he⟩ : ∃ e, s[j]? = some e := ⟨s[j]'(by omega), List.getElem?_eq_getElem (by omega)⟩
      rw [drop_cons' he] at hq
      have e0 : z.toNat = j := by omega
      have hx1 := hx.sub s2
      simp (disch := omega) only [hx1.ixi (n := 2) rfl, ev_some, e0, hx1.rdn (n := 2) rfl rfl he]
      intro p hp
      rw [st_edge, ev_some]
      have s3 : Sub H2 (upd (upd H2 p (.cs [.int .i64 0, .int .i64 0] 27)) p (.cs [.int .i64 e.From, .int .i64 e.To] 27)) := (Sub.upd_fresh _ hp).chg (Chg_upd _) (by simpa using hp)
      have p3 : (upd (upd H2 p (.cs [.int .i64 0, .int .i64 0] 27)) p (.cs [.int .i64 e.From, .int .i64 e.To] 27)) p = some (.cs [.int .i64 e.From, .int .i64 e.To] 27) := upd_same _ _ _
      generalize (upd (upd H2 p (.cs [.int .i64 0, .int .i64 0] 27)) p (.cs [.int .i64 e.From, .int .i64 e.To] 27)) = H3 at *
      simp only [fldA_p, ld1_cs p3, List.getElem?_cons_zero, List.getElem?_cons_succ, Nat.zero_add, ev_some]
      have b52 : bldL (zRow 2 [(.int .i64 0)]) [(0, 1, .int .i64 e.From), (1, 1, .int .i64 e.To)] = some (enc [e.From, e.To]) := rfl
      rw [b52, ev_some]
      intro q hq0
      have s4 : Sub H3 (upd H3 q (.cs (enc [e.From, e.To]) 3)) := Sub.upd_fresh _ hq0
      refine appI ((ho.sub s3).sub s4) (own_new [e.From, e.To]).slc (by simp; omega) fun v55 H4 o55 c55 f55 => ?_
      simp (disch := omega) only [i_add, ev_some]
      refine ih (s.length - (j + 1)) (by omega) (j + 1) _ _ _ _ rfl (by omega) (by omega) (by simp; omega) o55 (((s2.trans s3).trans s4).chg c55 hk) (known_fresh ((s2.trans s3).trans s4) hk f55) ?_
      simpa [ends] using hq
    · rw [Br_f (by omega)]
      rw [List.drop_eq_nil_of_le (by omega)] at hq
      exact hq vo H2 (by simpa [ends] using ho) s2 hk
  exact main _ 0 _ [] _ H rfl rfl (Nat.zero_le _) (by simp) (Own.nil none) (Sub.refl H) (by simp [blk]) (by simpa using hq)

theorem ends_len (s : List Edge) : (ends s).length = 2 * s.length := by
  induction s with
  | nil => rfl
  | cons e s ih => unfold ends at *; simp only [List.flatMap_cons, List.length_append, List.length_cons, List.length_nil, ih]; omega

theorem c_nodes {x : Value} {s : List Edge} (hx : Slc H x s) (hb : s.length ≤ 10000000)
    (h : ∀ v' H', Own H' v' (canon ltInt (ends s)) → Sub H H' → (∀ b ∈ blk v', H b = none) → Q v' H') : T PP 20 [x] H Q := by
  apply T20; unfold sh20
  simp only [hx.lenS, ev_some]
  intro I stepI
  have hl := ends_len s
  refine c_nodesL (Q := fun x5 H4 => T PP 89 [x5] H4 fun v25 H26 => T PP 90 [x5] H26 fun v27 H28 => Q v27 H28) hx (by omega) stepI fun v1 H1 o1 s1 f1 => ?_
  have a1 : Arr H1 v1 (ends s).toArray := by unfold Arr; simpa using o1
  refine SI.c_sort (lt := ltInt) stoI.swo c_lessI a1 (by simp; omega) fun H2 d2 a2 c2 p2 s2 => ?_
  have hl2 : d2.toList.length = (ends s).length := by have := p2.length_eq; simpa using this
  have o2 : Own H2 v1 d2.toList := a2
  refine c_compactI o2 (by omega) fun v3 H3 o3 c3 e3 => ?_
  have hc : canon ltInt (ends s) = dd d2.toList := by
    refine canon_eq stoI (dd_srt stoI _ (sorted_pairwise s2)) fun z => ?_
    rw [dd_mem, p2.mem_iff]
  refine h v3 H3 (by rw [hc]; exact o3) (s1.chg (c2.trans c3) f1) (by rw [e3]; exact f1)

theorem c_refnodes {x : Value} {s : List Edge} (hx : Slc H x s) (hb : s.length ≤ 10000000)
    (h : ∀ v' H', Own H' v' (canon ltInt (ends s)) → Sub H H' → (∀ b ∈ blk v', H b = none) → Q v' H') : T PP 21 [x] H Q := by
  apply T21; unfold sh21
  simp only [hx.lenS, ev_some]
  intro I stepI
  have hl := ends_len s
  refine c_nodesL (Q := fun x5 H4 => T PP 30 [x5] H4 fun v25 H26 => Q v25 H26) hx (by omega) stepI fun v1 H1 o1 s1 f1 => ?_
  refine c_numbers o1.slc (by omega) fun v' H' o' s' k' => ?_
  refine h v' H' o' (s1.trans s') fun b hb => ?_
  cases hh : H b with
  | none => rfl
  | some k => have := s1 b k hh; rw [k' b hb] at this; cases this

/-- graph.From's own list is sorted, each once. -/
theorem toL_canon (tx : Int) (l : List Edge) : toL tx (canon lessE l) = canon ltInt (toL tx l) := by
  refine (canon_eq stoI ?_ fun z => ?_).symm
  · have := canon_srt stoE l
    generalize canon lessE l = s at this
    induction s with
    | nil => exact List.Pairwise.nil
    | cons e s ih =>
      have hp := List.pairwise_cons.1 this
      rw [toL_cons]
      split
      · rename_i he
        refine List.Pairwise.cons (fun z hz => ?_) (ih hp.2)
        unfold toL at hz
        simp only [List.mem_map, List.mem_filter, decide_eq_true_eq] at hz
        obtain ⟨f, ⟨hf, hft⟩, rfl⟩ := hz
        have := hp.1 f hf
        unfold lessE at this
        rw [if_neg (by simp [he, hft])] at this
        simpa [ltInt] using this
      · exact ih hp.2
  · unfold toL
    simp only [List.mem_map, List.mem_filter, canon_mem stoE]
end
end Go.Sl
namespace Go.Sl
open Go Go.Proofs Go.Sort

theorem srt_get {lt : Edge → Edge → Bool} {s : List Edge} (h : Srt lt s) {i : Nat} {a b : Edge} (ha : s[i]? = some a) (hb : s[i + 1]? = some b) : lt a b = true := by
  have h1 := (List.pairwise_iff_getElem.1 h)
  obtain ⟨hi, rfl⟩ := List.getElem?_eq_some_iff.1 ha
  obtain ⟨hj, rfl⟩ := List.getElem?_eq_some_iff.1 hb
  exact h1 i (i + 1) hi hj (by omega)
theorem STO.asym {α : Type} [DecidableEq α] {lt : α → α → Bool} (h : STO lt) {x y : α} (e : lt x y = true) : lt y x = false := by
  cases hh : lt y x with
  | false => rfl
  | true => have := h.trans _ _ _ e hh; rw [h.irrefl] at this; cases this

theorem c_graphlists {H : Heap} {Q : Value → Heap → Prop} {x : Value} {l : List Edge} {tx : Int} (hx : Slc H x l)
    (haw : ∀ (H : Heap) (Q : Value → Heap → Prop), (∀ H', Sub H H' → Q (.bool true) H') → T PP 12 [] H Q)
    (hQ : ∀ H', Sub H H' → Q (.bool true) H') : T PP 3 [x, .int .i64 tx] H Q := by
  apply T3; unfold sh3
  refine haw _ _ fun H1 s1 => ?_
  simp only [u_not, Bool.not_true, ev_some, Br_false]
  have hx1 := hx.sub s1
  simp only [hx1.lenS, ev_some, i_gtr]
  refine Br_ways (fun _ => hQ _ s1) (fun hlen => ?_)
  have hl60 : l.length ≤ 60 := by omega
  refine c_gsort hx1 (by omega) fun v2 H2 o2 s2 f2 => ?_
  have hcl := canon_len (lt := lessE) l
  simp only [o2.slc.lenS, ev_some]
  intro I stepI
  have main : ∀ (n i : Nat) (z : Int), (canon lessE l).length - i = n → z = i → i ≤ (canon lessE l).length → I [x, .int .i64 tx, v2, .int .i64 ((canon lessE l).length : Int), .int .i64 z] H2 := by
    intro n
    induction n using Nat.strongRecOn with
    | _ n ih =>
    intro i z hn hz hi
    apply stepI
    simp only [i_lss, ev_some]
    by_cases hlt : i < (canon lessE l).length
    · rw [Br_t (by omega)]
      intro K stepK
      have good : K [x, .int .i64 tx, v2, .int .i64 ((canon lessE l).length : Int), .int .i64 z, .bool false] H2 := by
        apply stepK
        simp (disch := omega) only [Br_false, i_add, ev_some]
        exact ih _ (by omega) (i + 1) _ rfl (by omega) (by omega)
      simp only [i_gtr, ev_some]
      by_cases h0 : 0 < i
      · rw [Br_t (by omega)]
        obtain ⟨a, ha⟩ : ∃ a, (canon lessE l)[i - 1]? = some a := ⟨(canon lessE l)[i - 1]'(by omega), List.getElem?_eq_getElem (by omega)⟩
        obtain ⟨b, hb⟩ : ∃ b, (canon lessE l)[i]? = some b := ⟨(canon lessE l)[i]'(by omega), List.getElem?_eq_getElem (by omega)⟩
        have hab := srt_get (canon_srt stoE l) ha (by rw [show i - 1 + 1 = i by omega]; exact hb)
        have hba := stoE.asym hab
        have e0 : z.toNat = i := by omega
        have e1 : (z - 1).toNat = i - 1 := by omega
        simp (disch := omega) only [i_sub, ev_some, o2.slc.ixi (n := 2) rfl, e0, e1, o2.slc.rdn (n := 2) rfl rfl ha, o2.slc.rdn (n := 2) rfl rfl hb]
        refine c_less a b ?_
        simp (disch := omega) only [hab, u_not, Bool.not_true, Br_false, ev_some, o2.slc.rdn (n := 2) rfl rfl ha, o2.slc.rdn (n := 2) rfl rfl hb]
        refine c_less b a ?_
        rw [hba]; exact good
      · rw [Br_f (by omega)]
        exact good
    · rw [Br_f (by omega)]
      have s12 := s1.trans s2
      have hx2 := hx1.sub s2
      refine c_refsort hx2 (by omega) fun v3 H3 o3 s3 f3 => ?_
      refine c_same (o2.slc.sub s3) o3.slc (by omega) ?_
      simp only [decide_true, Br_true]
      refine c_gsort (o2.slc.sub s3) (by omega) fun v4 H4 o4 s4 f4 => ?_
      have hcc : canon lessE (canon lessE l) = canon lessE l := canon_eq stoE (canon_srt stoE l) fun _ => Iff.rfl
      rw [hcc] at o4
      refine c_same o4.slc ((o2.slc.sub s3).sub s4) (by omega) ?_
      simp only [decide_true, Br_true]
      refine c_from ((hx2.sub s3).sub s4) (by omega) fun v5 H5 o5 s5 f5 => ?_
      refine c_reffrom (((hx2.sub s3).sub s4).sub s5) (by omega) fun v6 H6 o6 s6 f6 => ?_
      rw [toL_canon] at o5
      have hlen5 : (canon ltInt (toL tx l)).length ≤ 1000000000 := by
        have h1 := canon_len (lt := ltInt) (toL tx l)
        have h2 : (toL tx l).length ≤ l.length := by unfold toL; rw [List.length_map]; exact List.length_filter_le _ _
        omega
      refine c_sameI (o5.slc.sub s6) o6.slc hlen5 ?_
      simp only [decide_true, Br_true]
      have hx6 := (((hx2.sub s3).sub s4).sub s5).sub s6
      refine c_nodes hx6 (by omega) fun v7 H7 o7 s7 f7 => ?_
      refine c_refnodes (hx6.sub s7) (by omega) fun v8 H8 o8 s8 f8 => ?_
      have hlen7 : (canon ltInt (ends l)).length ≤ 1000000000 := by
        have h1 := canon_len (lt := ltInt) (ends l)
        have h2 := ends_len l
        omega
      refine c_sameI (o7.slc.sub s8) o8.slc hlen7 ?_
      simp only [decide_true]
      exact hQ _ (((((((s12.trans s3).trans s4).trans s5).trans s6).trans s7).trans s8))
  exact main _ 0 _ rfl rfl (Nat.zero_le _)
end Go.Sl
