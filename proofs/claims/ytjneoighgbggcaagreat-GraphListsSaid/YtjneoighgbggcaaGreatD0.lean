/- Proved here: copies, Compact and Sort of edges answer the canonical list, in the program and in the document. -/
import Derived.Test.YtjneoighgbggcaaGreatC2
import Derived.Test.YtjneoighgbggcaaGreatA2
import Derived.Test.YtjneoighgbggcaaGreatC0
namespace Go.Sl
open Go Go.Proofs Go.Sort

theorem own_new {α : Type} [Enc α] {H : Heap} {b : Nat} {e : TypeId} (l : List α) : Own (upd H b (.cs (enc l) e)) (.slice (some ⟨b, 0, none⟩) l.length l.length) l :=
  .inr ⟨b, 0, l.length, enc l, e, rfl, Nat.le_refl _, upd_same _ _ _, by rw [enc_length]; simp, by rw [List.drop_zero, ← enc_length, List.take_length]⟩

theorem ld1_cs {H : Heap} {p off : Nat} {c : List Value} {e : TypeId} (h : H p = some (.cs c e)) : Sl.ld1 H (.pointer (some ⟨p, off, none⟩)) = c[off]? := by simp [Sl.ld1, h, Blk.rd]
theorem fldA_p (n p off : Nat) : fldA n (.pointer (some ⟨p, off, none⟩)) = some (.pointer (some ⟨p, off + n, none⟩)) := by simp [fldA, add_one]

def lessE (a b : Edge) : Bool := if a.From ≠ b.From then decide (a.From < b.From) else decide (a.To < b.To)
theorem stoE : STO lessE where
  irrefl x := by simp [lessE]
  trans x y z h1 h2 := by
    unfold lessE at *
    simp only [ne_eq, ite_not] at *
    split at h1 <;> split at h2 <;> split <;> simp only [decide_eq_true_eq] at * <;> omega
  tri x y h1 h2 := by
    unfold lessE at *
    by_cases a1 : x.From = y.From
    · simp [a1] at h1 h2
      obtain ⟨x1, x2⟩ := x; obtain ⟨y1, y2⟩ := y
      simp only at a1 h1 h2
      have : x2 = y2 := by omega
      rw [a1, this]
    · simp [a1, Ne.symm a1] at h1 h2; omega

section
variable {H : Heap} {Q : Value → Heap → Prop}
theorem upd_other {H : Heap} {b c : Nat} {k x : Blk} (h : H c = some x) (hb : H b = none) : upd H b k c = some x := by
  rw [upd_ne]; exact h
  intro e; subst e; rw [hb] at h; cases h

theorem c_less (a b : Edge) (h : Q (.bool (lessE a b)) H) : T PP 14 [Enc.val a, Enc.val b] H Q := by
  refine T.drop (Q := fun v H' => v = .bool (lessE a b) ∧ Sub H H') ?_ (fun v H' hv => ⟨H, hv.2, hv.1 ▸ h⟩)
  apply T14; unfold sh14
  intro p hp q hq
  have hpq : p ≠ q := by intro e; subst e; rw [upd_same] at hq; cases hq
  have hs : Sub H (upd (upd H p (.cs (Enc.val a).cells.toList 27)) q (.cs (Enc.val b).cells.toList 27)) := (Sub.upd_fresh _ hp).trans (Sub.upd_fresh _ hq)
  have hp2 : (upd (upd H p (.cs (Enc.val a).cells.toList 27)) q (.cs (Enc.val b).cells.toList 27)) p = some (.cs [.int .i64 a.From, .int .i64 a.To] 27) := by rw [upd_ne hpq, upd_same]; rfl
  have hq2 : (upd (upd H p (.cs (Enc.val a).cells.toList 27)) q (.cs (Enc.val b).cells.toList 27)) q = some (.cs [.int .i64 b.From, .int .i64 b.To] 27) := by rw [upd_same]; rfl
  generalize (upd (upd H p (.cs (Enc.val a).cells.toList 27)) q (.cs (Enc.val b).cells.toList 27)) = H2 at *
  simp only [fldA_p, ld1_cs hp2, ld1_cs hq2, List.getElem?_cons_zero, List.getElem?_cons_succ, Nat.zero_add, ev_some, i_neq, i_lss]
  unfold lessE
  by_cases e : a.From = b.From
  · rw [Br_f (by simp [e])]; simp [e, hs]
  · rw [Br_t e]; simp [e, hs]

theorem c_cmpE {bs : List Nat} : Cmp H bs (.func (.func 87) #[] #[]) lessE := by
  intro H' a b K _ hk
  show T PP 87 _ H' K
  refine T.drop (Q := fun v H2 => (∃ r, v = .int .i64 r ∧ decide (r < 0) = lessE a b) ∧ Sub H' H2) ?_ (fun v H2 hv => ⟨H', hv.2, by obtain ⟨⟨r, rfl, hr⟩, _⟩ := hv; exact hk r hr⟩)
  apply T87; unfold sh87
  intro p hp q hq
  have hpq : p ≠ q := by intro e; subst e; rw [upd_same] at hq; cases hq
  have hs : Sub H' (upd (upd H' p (.cs (Enc.val a).cells.toList 27)) q (.cs (Enc.val b).cells.toList 27)) := (Sub.upd_fresh _ hp).trans (Sub.upd_fresh _ hq)
  have hp2 : (upd (upd H' p (.cs (Enc.val a).cells.toList 27)) q (.cs (Enc.val b).cells.toList 27)) p = some (.cs [.int .i64 a.From, .int .i64 a.To] 27) := by rw [upd_ne hpq, upd_same]; rfl
  have hq2 : (upd (upd H' p (.cs (Enc.val a).cells.toList 27)) q (.cs (Enc.val b).cells.toList 27)) q = some (.cs [.int .i64 b.From, .int .i64 b.To] 27) := by rw [upd_same]; rfl
  generalize (upd (upd H' p (.cs (Enc.val a).cells.toList 27)) q (.cs (Enc.val b).cells.toList 27)) = H2 at *
  have l1 : Sl.ldn 2 H2 (.pointer (some ⟨p, 0, none⟩)) = some (Enc.val a) := by simp [Sl.ldn, hp2, rdn, Blk.rd, Enc.val]
  have l2 : Sl.ldn 2 H2 (.pointer (some ⟨q, 0, none⟩)) = some (Enc.val b) := by simp [Sl.ldn, hq2, rdn, Blk.rd, Enc.val]
  simp only [l1, l2, ev_some]
  refine c_less a b ?_
  by_cases hl : lessE a b = true
  · rw [hl, Br_true]; exact ⟨⟨-1, rfl, by simp⟩, hs⟩
  · rw [Bool.not_eq_true] at hl
    rw [hl, Br_false]
    have e1 : eqA [(.int .i64 0), (.int .i64 0)] (Enc.val a) (Enc.val b) = some (a.From == b.From && (a.To == b.To && true)) := by simp [eqA, eqC, Enc.val]
    simp only [l1, l2, e1, notB, ev_some]
    refine Br_bools (fun _ => ⟨⟨0, rfl, by simp⟩, hs⟩) (fun _ => ⟨⟨1, rfl, by simp⟩, hs⟩)

theorem u22 : PP.underlying 22 = some (.slice 27) := by kernel_rfl
theorem s27 : szT PP 27 = some 2 := by kernel_rfl
theorem b27 : bytT PP 27 = some 16 := by kernel_rfl

theorem appE {s x : Value} {l ys : List Edge} {K : Value → Heap → Prop} (hs : Own H s l) (hx : Slc H x ys) (hbound : l.length + ys.length ≤ 1000000000)
    (h : ∀ v' H', Own H' v' (l ++ ys) → Chg (blk s) H H' → (∀ b ∈ blk v', b ∈ blk s ∨ H b = none) → K v' H') : appW PP 22 22 s x H K :=
  app_own u22 s27 b27 z27 rfl rfl (by decide) hs hx hbound h

theorem c_clone {x : Value} {l : List Edge} (hx : Slc H x l) (hb : l.length ≤ 1000000000)
    (h : ∀ v' H', Own H' v' l → Sub H H' → (∀ b ∈ blk v', H b = none) → Q v' H') : T PP 85 [x] H Q := by
  apply T85; unfold sh85
  obtain ⟨a, c, e⟩ := hx.len
  have e1 : ∃ t, eqS x (.slice none 0 0) = some t ∧ (t = true → l = []) := by
    rw [e]
    rcases hx with ⟨rfl, _⟩ | ⟨b, off, cap, k, e2, _⟩
    · cases a <;> exact ⟨_, rfl, fun _ => rfl⟩
    · rw [e] at e2; cases e2; exact ⟨false, rfl, by simp⟩
  obtain ⟨t, e1, ht⟩ := e1
  simp only [e1, notB, ev_some]
  refine Br_bools (fun h1 => ?_) (fun _ => ?_)
  · have : l = [] := ht (by simpa using h1)
    subst this
    exact h _ _ (Own.nil none) (Sub.refl H) (by simp [blk])
  · have e2 : bldL (zRow 0 [(.int .i64 0), (.int .i64 0)]) [] = some (enc ([] : List Edge)) := rfl
    rw [e2, ev_some]
    intro b hb0
    have s0 : Sub H (upd H b (.cs (enc ([] : List Edge)) 27)) := Sub.upd_fresh _ hb0
    refine appE (own_new ([] : List Edge)) (hx.sub s0) (by simpa using hb) fun v' H' o c f => ?_
    refine h v' H' (by simpa using o) (s0.chg c (by simp [blk, hb0])) fun b' hb' => ?_
    rcases f b' hb' with f | f
    · simp [blk] at f; subst f; exact hb0
    · rw [upd_ne (by intro e; subst e; rw [upd_same] at f; cases f)] at f; exact f
end
end Go.Sl
namespace Go.Sl
open Go Go.Proofs Go.Sort

section
variable {α : Type} [Enc α] {H : Heap} {v : Value} {l : List α}
theorem Slc.ixi (h : Slc H v l) {n : Nat} (hn : Enc.sz α = n) {i : Int} (hi : 0 ≤ i ∧ i < l.length) : ixS n v (.int .i64 i) = some (elt v n i.toNat) := by
  subst hn; exact h.ix' hi.1 hi.2 .i64
theorem Slc.rdn (h : Slc H v l) {n : Nat} (hn : Enc.sz α = n) (hag : Enc.ag α = true) {i : Nat} {x : α} (hx : l[i]? = some x) : Sl.ldn n H (elt v n i) = some (Enc.val x) := by
  subst hn; exact h.ldn hx hag
theorem Slc.rd1 (h : Slc H v l) {n : Nat} (hn : Enc.sz α = n) (hag : Enc.ag α = false) {i : Nat} {x : α} (hx : l[i]? = some x) : Sl.ld1 H (elt v n i) = some (Enc.val x) := by
  subst hn; exact h.ld1 hx hag
theorem Own.stl (h : Own H v l) {n : Nat} (hn : Enc.sz α = n) {i : Nat} (hi : i < l.length) (x : α) {K : Heap → Prop} (k : ∀ H', Own H' v (l.set i x) → Chg (blk v) H H' → K H') : ev (Sl.sto n H (elt v n i) (Enc.val x)) K := by
  subst hn
  obtain ⟨H', e, o, c⟩ := Own.sto h hi x
  rw [e]; exact k H' o c
/-- 's[k:]' of what may be written, as a place to read. -/
theorem Own.tail (h : Own H v l) {n : Nat} (hn : Enc.sz α = n) {k : Nat} (hk : k < l.length) {z : Int} (hz : z = (k : Int)) : ∃ v2, slV n v (some (.int .i64 z)) none none = some v2 ∧ lenS v2 = some (.int .i64 ((l.length - k : Nat) : Int)) ∧
    ∀ (j : Int), 0 ≤ j ∧ j < (l.length - k : Nat) → ixS n v2 (.int .i64 j) = some (elt v n (k + j.toNat)) := by
  subst hn
  rcases h with ⟨rfl, a, rfl⟩ | ⟨b, off, cap, c, e', rfl, h1, h2, h3, h4⟩
  · simp at hk
  · have hb := bnds_none (len := l.length) (cap := cap) (lo := k) (hi := l.length) (vlo := some (.int .i64 z)) (vhi := none) (.inr ⟨_, _, rfl, hz⟩) (.inl ⟨rfl, rfl⟩) (by omega) (Nat.le_refl _) h1
    refine ⟨.slice (some ⟨b, off + k * Enc.sz α, none⟩) (l.length - k) (cap - k), ?_, rfl, fun j hj => ?_⟩
    · simp only [slV]; rw [hb]; dsimp only; rw [if_neg (by omega)]; simp [add_one]
    · simp only [ixS, elt]
      rw [if_pos ⟨hj.1, by omega⟩]
      simp only [add_one, Nat.add_mul, Nat.add_assoc]
theorem get_app {D L : List α} {m : Nat} (h : D.length ≤ m) : (D ++ L.drop D.length)[m]? = L[m]? := by
  have _ := Enc.sz α
  rw [List.getElem?_append_right h, List.getElem?_drop]; congr 1; omega
end
theorem set_app {α : Type} {D L : List α} {x : α} (h : D.length < L.length) : (D ++ L.drop D.length).set D.length x = (D ++ [x]) ++ L.drop (D.length + 1) := by
  rw [List.set_append_right _ _ (Nat.le_refl _), Nat.sub_self, List.drop_eq_getElem_cons h, List.set_cons_zero, List.append_assoc]
  rfl
theorem dd_short {α : Type} [DecidableEq α] (l : List α) (h : l.length < 2) : dd l = l := by
  match l, h with
  | [], _ => rfl
  | [_], _ => rfl
theorem take_succ2 {α : Type} {l : List α} {k : Nat} {a x : α} (ha : l[k]? = some a) (hx : l[k + 1]? = some x) : l.take (k + 1) = l.take k ++ [a] ∧ l.take (k + 2) = l.take k ++ [a] ++ [x] := by
  have h1 : l.take (k + 1) = l.take k ++ [a] := by rw [List.take_add_one, ha]; rfl
  refine ⟨h1, ?_⟩
  rw [List.take_add_one, hx, h1]; rfl
theorem dd_take {α : Type} [DecidableEq α] {l : List α} {k : Nat} {a x : α} (ha : l[k]? = some a) (hx : l[k + 1]? = some x) : dd (l.take (k + 2)) = if a = x then dd (l.take (k + 1)) else dd (l.take (k + 1)) ++ [x] := by
  obtain ⟨h1, h2⟩ := take_succ2 ha hx
  rw [h2, dd_snoc, h1]

section
variable {H : Heap} {Q : Value → Heap → Prop} {v : Value}
theorem eqE (a b : Edge) : eqA [(.int .i64 0), (.int .i64 0)] (Enc.val a) (Enc.val b) = some (decide (a = b)) := by
  have : eqA [(.int .i64 0), (.int .i64 0)] (Enc.val a) (Enc.val b) = some (a.From == b.From && (a.To == b.To && true)) := by simp [eqA, eqC, Enc.val]
  rw [this]; congr 1
  obtain ⟨a1, a2⟩ := a; obtain ⟨b1, b2⟩ := b
  by_cases h1 : a1 = b1 <;> by_cases h2 : a2 = b2 <;> simp [h1, h2]
theorem notB_f (b : Bool) : notB false (some b) = some (.bool b) := rfl
theorem notB_t (b : Bool) : notB true (some b) = some (.bool (!b)) := rfl

theorem c_compact {l : List Edge} (ho : Own H v l) (hb : l.length ≤ 1000000000)
    (h : ∀ v' H', Own H' v' (dd l) → Chg (blk v) H H' → blk v' = blk v → Q v' H') : T PP 88 [v] H Q := by
  apply T88; unfold sh88
  simp only [ho.slc.lenS, ev_some, i_lss]
  by_cases h2 : l.length < 2
  · rw [Br_t (by omega)]
    exact h v H (by rw [dd_short l h2]; exact ho) (Chg.of_sub _ (Sub.refl H)) rfl
  · rw [Br_f (by omega)]
    intro I stepI
    have loop1 : ∀ (n k : Nat) (z : Int), l.length - k = n → z = ((k + 1 : Nat) : Int) → k + 1 ≤ l.length → dd (l.take (k + 1)) = l.take (k + 1) → I [v, .int .i64 z] H := by
      intro n
      induction n using Nat.strongRecOn with
      | _ n ih =>
      intro k z hn hz hk hdd
      apply stepI
      simp only [ho.slc.lenS, ev_some, i_lss]
      by_cases hlt : k + 1 < l.length
      · rw [Br_t (by omega)]
        obtain ⟨a, ha⟩ : ∃ a, l[k]? = some a := ⟨l[k]'(by omega), List.getElem?_eq_getElem (by omega)⟩
        obtain ⟨x, hx⟩ : ∃ x, l[k + 1]? = some x := ⟨l[k + 1]'(by omega), List.getElem?_eq_getElem (by omega)⟩
        have e0 : z.toNat = k + 1 := by omega
        have e1 : (z - 1).toNat = k := by omega
        simp (disch := omega) only [i_sub, ev_some, ho.slc.ixi (n := 2) rfl, e0, e1, ho.slc.rdn (n := 2) rfl rfl ha, ho.slc.rdn (n := 2) rfl rfl hx, eqE, notB_f]
        have hstep := dd_take ha hx
        by_cases hax : a = x
        · rw [Br_t hax.symm]
          rw [if_pos hax] at hstep
          obtain ⟨v2, e2, l2, x2⟩ := ho.tail (n := 2) rfl hlt hz
          rw [e2, ev_some]
          intro J stepJ
          have loop2 : ∀ (n m : Nat) (i y : Int) (H1 : Heap), l.length - m = n → m ≤ l.length → k + 2 ≤ m → i = ((dd (l.take m)).length : Int) → (dd (l.take m)).length < m → y = (m : Int) - (k + 1 : Nat) →
              Own H1 v (dd (l.take m) ++ l.drop (dd (l.take m)).length) → Chg (blk v) H H1 → J [v, .int .i64 i, v2, .int .i64 y] H1 := by
            intro n
            induction n using Nat.strongRecOn with
            | _ n ih2 =>
            intro m i y H1 hn hml hkm hi hil hy ho1 c1
            apply stepJ
            simp only [l2, ev_some, i_lss]
            have hlen : (dd (l.take m) ++ l.drop (dd (l.take m)).length).length = l.length := by simp; omega
            by_cases hm : m < l.length
            · rw [Br_t (by omega)]
              intro K stepK
              obtain ⟨a, ha⟩ : ∃ a, l[m - 1]? = some a := ⟨l[m - 1]'(by omega), List.getElem?_eq_getElem (by omega)⟩
              obtain ⟨x, hx⟩ : ∃ x, l[m - 1 + 1]? = some x := ⟨l[m - 1 + 1]'(by omega), List.getElem?_eq_getElem (by omega)⟩
              have hstep := dd_take ha hx
              rw [show m - 1 + 2 = m + 1 by omega, show m - 1 + 1 = m by omega] at hstep
              rw [show m - 1 + 1 = m by omega] at hx
              have ha' : (dd (l.take m) ++ l.drop (dd (l.take m)).length)[m - 1]? = some a := by rw [get_app (by omega)]; exact ha
              have hx' : (dd (l.take m) ++ l.drop (dd (l.take m)).length)[m]? = some x := by rw [get_app (by omega)]; exact hx
              have e0 : k + 1 + y.toNat = m := by omega
              have e1 : k + 1 + (y - 1).toNat = m - 1 := by omega
              simp (disch := omega) only [x2, i_sub, ev_some, e0, e1, ho1.slc.rdn (n := 2) rfl rfl ha', ho1.slc.rdn (n := 2) rfl rfl hx', eqE, notB_t]
              by_cases hax : a = x
              · rw [show (!decide (x = a)) = false by simp [hax], Br_false]
                apply stepK
                simp (disch := omega) only [i_add, ev_some]
                rw [if_pos hax] at hstep
                refine ih2 (l.length - (m + 1)) (by omega) (m + 1) i _ H1 rfl (by omega) (by omega) (by rw [hstep]; exact hi) (by rw [hstep]; omega) (by omega) (by rw [hstep]; exact ho1) c1
              · rw [show (!decide (x = a)) = true by simp [Ne.symm hax], Br_true]
                rw [if_neg hax] at hstep
                have e2 : i.toNat = (dd (l.take m)).length := by omega
                simp (disch := omega) only [ho1.slc.ixi (n := 2) rfl, ev_some, e2]
                refine ho1.stl (n := 2) rfl (by omega) x fun H2 ho2 c2 => ?_
                simp (disch := omega) only [i_add, ev_some]
                apply stepK
                simp (disch := omega) only [i_add, ev_some]
                have hl2 : (dd (l.take (m + 1))).length = (dd (l.take m)).length + 1 := by rw [hstep]; simp
                refine ih2 (l.length - (m + 1)) (by omega) (m + 1) _ _ H2 rfl (by omega) (by omega) (by rw [hl2]; omega) (by omega) (by omega) ?_ (c1.trans c2)
                have : (dd (l.take m) ++ l.drop (dd (l.take m)).length).set (dd (l.take m)).length x = dd (l.take (m + 1)) ++ l.drop (dd (l.take (m + 1))).length := by
                  rw [hl2, hstep, set_app (by omega)]
                rw [← this]; exact ho2
            · rw [Br_f (by omega)]
              have hml : m = l.length := by omega
              subst hml
              rw [List.take_length] at *
              refine ho1.cut (t := 22) (e := 27) u22 z27 rfl rfl rfl (k := (dd l).length) (by rw [hlen]; omega) hi fun v' H2 o2 c2 e2 => ?_
              rw [List.take_left] at o2
              exact h v' H2 o2 (c1.trans c2) e2
          have hD : (dd (l.take (k + 2))).length = k + 1 := by rw [hstep, hdd]; simp; omega
          refine loop2 _ (k + 2) _ _ H rfl (by omega) (Nat.le_refl _) (by rw [hD]; exact hz) (by omega) (by omega) ?_ (Chg.of_sub _ (Sub.refl H))
          rw [hD, hstep, hdd, List.take_append_drop]; exact ho
        · rw [Br_f (Ne.symm hax)]
          rw [if_neg hax, hdd] at hstep
          simp (disch := omega) only [i_add, ev_some]
          refine ih (l.length - (k + 1)) (by omega) (k + 1) _ rfl (by omega) (by omega) ?_
          rw [hstep, (take_succ2 ha hx).2, (take_succ2 ha hx).1]
      · rw [Br_f (by omega)]
        have hk2 : k + 1 = l.length := by omega
        rw [hk2, List.take_length] at hdd
        exact h v H (by rw [hdd]; exact ho) (Chg.of_sub _ (Sub.refl H)) rfl
    refine loop1 _ 0 _ rfl (by omega) (by omega) ?_
    exact dd_short _ (by simp; omega)
end
end Go.Sl
namespace Go.Sl
open Go Go.Proofs Go.Sort

section
variable {H : Heap} {Q : Value → Heap → Prop} {v : Value}

theorem c_gsort {x : Value} {l : List Edge} (hx : Slc H x l) (hb : l.length ≤ 100000000)
    (h : ∀ v' H', Own H' v' (canon lessE l) → Sub H H' → (∀ b ∈ blk v', H b = none) → Q v' H') : T PP 13 [x] H Q := by
  apply T13; unfold sh13
  refine c_clone hx (by omega) fun v1 H1 o1 s1 f1 => ?_
  have a1 : Arr H1 v1 l.toArray := by unfold Arr; simpa using o1
  refine SE.c_sort (lt := lessE) stoE.swo c_cmpE a1 (by simpa using hb) fun H2 d2 a2 c2 p2 s2 => ?_
  have hl : d2.toList.length = l.length := by have := p2.length_eq; simpa using this
  have o2 : Own H2 v1 d2.toList := a2
  refine c_compact o2 (by omega) fun v3 H3 o3 c3 e3 => ?_
  have hc : canon lessE l = dd d2.toList := by
    refine canon_eq stoE (dd_srt stoE _ (sorted_pairwise s2)) fun z => ?_
    rw [dd_mem, p2.mem_iff]
  refine h v3 H3 (by rw [hc]; exact o3) (s1.chg (c2.trans c3) f1) (by rw [e3]; exact f1)

theorem c_same {x y : Value} {l m : List Edge} (hx : Slc H x l) (hy : Slc H y m) (hb : l.length ≤ 1000000000) (h : Q (.bool (decide (l = m))) H) : T PP 15 [x, y] H Q := by
  apply T15; unfold sh15
  simp only [hx.lenS, hy.lenS, ev_some, i_neq]
  by_cases hlen : l.length = m.length
  · rw [Br_f (by omega)]
    intro I stepI
    have loop : ∀ (n i : Nat) (z : Int), l.length - i = n → z = i → i ≤ l.length → l.take i = m.take i → I [x, y, .int .i64 (l.length : Int), .int .i64 z] H := by
      intro n
      induction n using Nat.strongRecOn with
      | _ n ih =>
      intro i z hn hz hi ht
      apply stepI
      simp only [i_lss, ev_some]
      by_cases hlt : i < l.length
      · rw [Br_t (by omega)]
        obtain ⟨a, ha⟩ : ∃ a, l[i]? = some a := ⟨l[i]'(by omega), List.getElem?_eq_getElem (by omega)⟩
        obtain ⟨c, hc⟩ : ∃ c, m[i]? = some c := ⟨m[i]'(by omega), List.getElem?_eq_getElem (by omega)⟩
        have e0 : z.toNat = i := by omega
        simp (disch := omega) only [hx.ixi (n := 2) rfl, hy.ixi (n := 2) rfl, ev_some, e0, hx.rdn (n := 2) rfl rfl ha, hy.rdn (n := 2) rfl rfl hc, eqE, notB_t]
        by_cases hac : a = c
        · rw [show (!decide (a = c)) = false by simp [hac], Br_false]
          simp (disch := omega) only [i_add, ev_some]
          refine ih (l.length - (i + 1)) (by omega) (i + 1) _ rfl (by omega) (by omega) ?_
          rw [List.take_add_one, List.take_add_one, ht, ha, hc, hac]
        · rw [show (!decide (a = c)) = true by simp [hac], Br_true]
          have : l ≠ m := by intro e; subst e; rw [ha] at hc; cases hc; exact hac rfl
          simpa [this] using h
      · rw [Br_f (by omega)]
        have : l = m := by
          rw [List.take_of_length_le (by omega), List.take_of_length_le (by omega)] at ht; exact ht
        simpa [this] using h
    exact loop _ 0 _ rfl rfl (by omega) (by simp)
  · rw [Br_t (by omega)]
    have : l ≠ m := fun e => hlen (by rw [e])
    simpa [this] using h

theorem pos_le (lt : Edge → Edge → Bool) (l : List Edge) (x : Edge) : pos lt l x ≤ l.length := (List.takeWhile_sublist _).length_le
theorem pos_spec {α : Type} {lt : α → α → Bool} {l : List α} {x : α} {i : Nat} (hi : i ≤ l.length) (h1 : ∀ j a, j < i → l[j]? = some a → lt a x = true) (h2 : ∀ a, l[i]? = some a → lt a x = false) : pos lt l x = i := by
  unfold pos
  induction l generalizing i with
  | nil => simp at hi ⊢; omega
  | cons y l ih =>
    cases i with
    | zero =>
      have := h2 y (by simp)
      simp [this]
    | succ i =>
      have h0 := h1 0 y (by omega) (by simp)
      simp only [List.takeWhile_cons, h0, if_true, List.length_cons]
      congr 1
      exact ih (by simpa using hi) (fun j a hj ha => h1 (j + 1) a (by omega) (by simpa using ha)) (fun a ha => h2 a (by simpa using ha))

theorem c_refsort {x : Value} {l : List Edge} (hx : Slc H x l) (hb : l.length ≤ 100000000)
    (h : ∀ v' H', Own H' v' (canon lessE l) → Sub H H' → (∀ b ∈ blk v', H b = none) → Q v' H') : T PP 16 [x] H Q := by
  apply T16; unfold sh16
  simp only [hx.lenS, ev_some]
  intro I stepI
  have main : ∀ (n j : Nat) (z : Int) (o : List Edge) (vo : Value) (H1 : Heap), l.length - j = n → z = j → j ≤ l.length → o.length ≤ j → Own H1 vo o → Sub H H1 → (∀ b ∈ blk vo, H b = none ∧ ∃ k, H1 b = some k) →
      (∀ v' H', Own H' v' ((l.drop j).foldl (ins lessE) o) → Sub H H' → (∀ b ∈ blk v', H b = none) → Q v' H') → I [vo, x, .int .i64 (l.length : Int), .int .i64 z] H1 := by
    intro n
    induction n using Nat.strongRecOn with
    | _ n ih =>
    intro j z o vo H1 hn hz hj hol ho s1 hk hq
    apply stepI
    simp only [i_lss, ev_some]
    by_cases hlt : j < l.length
    · rw [Br_t (by omega)]
      intro K10 step10
      obtain ⟨e, he⟩ : ∃ e, l[j]? = some e := ⟨l[j]'(by omega), List.getElem?_eq_getElem (by omega)⟩
      have hdrop : l.drop j = e :: l.drop (j + 1) := by
        rw [List.drop_eq_getElem_cons hlt]; congr 1
        rw [List.getElem?_eq_getElem hlt] at he; exact Option.some.inj he
      rw [hdrop, List.foldl_cons] at hq
      have k10 : ∀ (v' : Value) (H' : Heap), Own H' v' (ins lessE o e) → Sub H H' → (∀ b ∈ blk v', H b = none ∧ ∃ k, H' b = some k) → K10 [v', x, .int .i64 (l.length : Int), .int .i64 z] H' := by
        intro v' H' o' s' k'
        apply step10
        simp (disch := omega) only [i_add, ev_some]
        have := ins_len (lt := lessE) o e
        exact ih (l.length - (j + 1)) (by omega) (j + 1) _ _ _ _ rfl (by omega) (by omega) (by omega) o' s' k' hq
      have e0 : z.toNat = j := by omega
      have hx1 := hx.sub s1
      simp (disch := omega) only [hx1.ixi (n := 2) rfl, ev_some, e0, hx1.rdn (n := 2) rfl rfl he]
      intro p hp
      have st : Sl.sto 2 (upd H1 p (.cs [.int .i64 0, .int .i64 0] 27)) (.pointer (some ⟨p, 0, none⟩)) (Enc.val e) = some (upd (upd H1 p (.cs [.int .i64 0, .int .i64 0] 27)) p (.cs [.int .i64 e.From, .int .i64 e.To] 27)) := by
        simp [Sl.sto, upd_same, Value.cells, Sl.flat, Value.oneCell', over, Enc.val]
      rw [st, ev_some]
      have s2 : Sub H1 (upd (upd H1 p (.cs [.int .i64 0, .int .i64 0] 27)) p (.cs [.int .i64 e.From, .int .i64 e.To] 27)) := (Sub.upd_fresh _ hp).chg (Chg_upd _) (by simpa using hp)
      have p2 : (upd (upd H1 p (.cs [.int .i64 0, .int .i64 0] 27)) p (.cs [.int .i64 e.From, .int .i64 e.To] 27)) p = some (.cs [.int .i64 e.From, .int .i64 e.To] 27) := upd_same _ _ _
      generalize (upd (upd H1 p (.cs [.int .i64 0, .int .i64 0] 27)) p (.cs [.int .i64 e.From, .int .i64 e.To] 27)) = H2 at *
      have ho2 : Own H2 vo o := ho.sub s2
      have hk2 : ∀ b ∈ blk vo, H b = none ∧ ∃ k, H2 b = some k := fun b hb => ⟨(hk b hb).1, (hk b hb).2.imp fun k hk => s2 b k hk⟩
      intro I22 step22
      have scan : ∀ (m i : Nat) (y : Int), o.length - i = m → y = i → i ≤ o.length → (∀ j a, j < i → o[j]? = some a → lessE a e = true) → I22 [vo, .pointer (some ⟨p, 0, none⟩), .int .i64 y, x, .int .i64 (l.length : Int), .int .i64 z] H2 := by
        intro m
        induction m using Nat.strongRecOn with
        | _ m mh =>
        intro i y hm hy hi hpre
        apply step22
        intro K30 step30
        have term : (∀ a, o[i]? = some a → lessE a e = false) → K30 [vo, .pointer (some ⟨p, 0, none⟩), .int .i64 y, x, .int .i64 (l.length : Int), .int .i64 z, .bool false] H2 := by
          intro hst
          have hpos := pos_spec hi hpre hst
          apply step30
          simp only [Br_false]
          intro K40 step40
          simp only [ho2.slc.lenS, ev_some, i_lss]
          have insert : o[i]? ≠ some e → K40 [vo, .pointer (some ⟨p, 0, none⟩), .int .i64 y, x, .int .i64 (l.length : Int), .int .i64 z, .bool false] H2 := by
            intro hne
            have hins : ins lessE o e = o.take i ++ ([e] ++ o.drop i) := by unfold ins; rw [hpos, if_neg hne]; rfl
            apply step40
            simp only [Br_false]
            obtain ⟨v49, e49, o49, b49⟩ := ho2.take3 (n := 2) hi hy .i64
            rw [e49, ev_some]
            have l51 : Sl.ldn 2 H2 (.pointer (some ⟨p, 0, none⟩)) = some (Enc.val e) := by simp [Sl.ldn, p2, rdn, Blk.rd, Enc.val]
            rw [l51, ev_some]
            obtain ⟨v50, e50, r50, b50⟩ := ho2.slc.part (n := 2) rfl hi (Nat.le_refl _) (.inr ⟨.i64, y, rfl, hy⟩) (.inl ⟨rfl, rfl⟩)
            rw [e50, ev_some]
            have b52 : bldL (zRow 1 [(.int .i64 0), (.int .i64 0)]) [(0, 2, Enc.val e)] = some (enc [e]) := rfl
            rw [b52, ev_some]
            intro q hq0
            have s3 : Sub H2 (upd H2 q (.cs (enc [e]) 27)) := Sub.upd_fresh _ hq0
            rw [List.take_length] at r50
            refine appE (own_new [e]) (r50.sub s3) (by simp; omega) fun v55 H4 o55 c55 f55 => ?_
            have c4 : Sub H2 H4 := s3.chg c55 (by simpa [blk] using hq0)
            have o49' : Own H4 v49 (o.take i) := o49.sub c4
            refine appE o49' o55.slc (by simp; omega) fun v57 H6 o57 c57 f57 => ?_
            refine k10 v57 H6 (by rw [hins]; exact o57) ?_ fun b hb => ?_
            · have : Sub H H4 := (s1.trans s2).trans c4
              exact this.chg c57 fun b hb => by rw [b49] at hb; exact (hk b hb).1
            · refine ⟨?_, o57.slc.known (by simp) b hb⟩
              rcases f57 b hb with f | f
              · rw [b49] at f; exact (hk b f).1
              · cases hh : H b with
                | none => rfl
                | some k => have := ((s1.trans s2).trans c4) b k hh; rw [f] at this; cases this
          by_cases hio : i < o.length
          · rw [Br_t (by omega)]
            obtain ⟨a, ha⟩ : ∃ a, o[i]? = some a := ⟨o[i]'(by omega), List.getElem?_eq_getElem (by omega)⟩
            have e1 : y.toNat = i := by omega
            have l51 : Sl.ldn 2 H2 (.pointer (some ⟨p, 0, none⟩)) = some (Enc.val e) := by simp [Sl.ldn, p2, rdn, Blk.rd, Enc.val]
            simp (disch := omega) only [ho2.slc.ixi (n := 2) rfl, ev_some, e1, ho2.slc.rdn (n := 2) rfl rfl ha, l51, eqE, notB_f]
            by_cases hae : a = e
            · rw [show decide (a = e) = true by simp [hae]]
              apply step40
              simp only [Br_true]
              refine k10 vo H2 ?_ (s1.trans s2) hk2
              unfold ins; rw [hpos, if_pos (by rw [ha, hae])]; exact ho2
            · rw [show decide (a = e) = false by simp [hae]]
              exact insert (by rw [ha]; simpa using hae)
          · rw [Br_f (by omega)]
            exact insert (by rw [List.getElem?_eq_none (by omega)]; simp)
        simp only [ho2.slc.lenS, ev_some, i_lss]
        by_cases hio : i < o.length
        · rw [Br_t (by omega)]
          obtain ⟨a, ha⟩ : ∃ a, o[i]? = some a := ⟨o[i]'(by omega), List.getElem?_eq_getElem (by omega)⟩
          have e1 : y.toNat = i := by omega
          have ld0 : ∀ f, fldA f (elt vo 2 i) = some (elf vo 2 i f) := fun f => ho2.slc.fld ha f
          have ldf0 : Sl.ld1 H2 (elf vo 2 i 0) = some (.int .i64 a.From) := ho2.slc.ldf ha rfl
          have ldf1 : Sl.ld1 H2 (elf vo 2 i 1) = some (.int .i64 a.To) := ho2.slc.ldf ha rfl
          have more : lessE a e = true → K30 [vo, .pointer (some ⟨p, 0, none⟩), .int .i64 y, x, .int .i64 (l.length : Int), .int .i64 z, .bool true] H2 := by
            intro hl
            apply step30
            simp (disch := omega) only [Br_true, i_add, ev_some]
            refine mh (o.length - (i + 1)) (by omega) (i + 1) _ rfl (by omega) (by omega) fun j b hj hb => ?_
            by_cases hji : j = i
            · subst hji; rw [ha] at hb; cases hb; exact hl
            · exact hpre j b (by omega) hb
          have less : lessE a e = false → K30 [vo, .pointer (some ⟨p, 0, none⟩), .int .i64 y, x, .int .i64 (l.length : Int), .int .i64 z, .bool false] H2 := fun hl => term fun b hb => by rw [ha] at hb; cases hb; exact hl
          simp (disch := omega) only [ho2.slc.ixi (n := 2) rfl, ev_some, e1, ld0, ldf0, ldf1, fldA_p, ld1_cs p2, List.getElem?_cons_zero, List.getElem?_cons_succ, Nat.zero_add, i_lss, i_eql]
          by_cases h1 : a.From < e.From
          · rw [Br_t h1]; exact more (by simp only [lessE, ne_eq, show ¬ a.From = e.From by omega]; simp [h1])
          · rw [Br_f h1]
            by_cases h2 : a.From = e.From
            · rw [Br_t h2]
              by_cases h3 : a.To < e.To
              · rw [show decide (a.To < e.To) = true by simp [h3]]; exact more (by simp [lessE, h2, h3])
              · rw [show decide (a.To < e.To) = false by simp [h3]]; exact less (by simp [lessE, h2]; omega)
            · rw [Br_f h2]; exact less (by simp only [lessE, ne_eq, h2]; simp; omega)
        · rw [Br_f (by omega)]
          exact term fun b hb => by rw [List.getElem?_eq_none (by omega)] at hb; cases hb
      exact scan _ 0 _ rfl rfl (Nat.zero_le _) (fun j a hj => by omega)
    · rw [Br_f (by omega)]
      rw [List.drop_eq_nil_of_le (by omega)] at hq
      exact hq vo H1 ho s1 fun b hb => (hk b hb).1
  exact main _ 0 _ [] _ H rfl rfl (Nat.zero_le _) (by simp) (Own.nil none) (Sub.refl H) (by simp [blk]) h
end
end Go.Sl
