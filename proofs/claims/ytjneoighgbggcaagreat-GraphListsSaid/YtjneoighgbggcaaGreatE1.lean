/- Proved here: what a node's queue, nodes and the arena answer. -/
import Derived.Test.YtjneoighgbggcaaGreatE0
import Derived.Test.YtjneoighgbggcaaGreatA2
namespace Go.Sl
open Go Go.Proofs

theorem b48v (w : Wait) : bldL (zRow 1 [(.int .i64 0), (.int .i64 0), (.bool false), (.bool false)]) [(0, 4, Enc.val w)] = some (enc [w]) := rfl

section
variable {H : Heap} {Q : Value → Heap → Prop}
theorem c_over {a oa la ca b ob lb cb : Nat} {c1 c2 : List Value} {e1 e2 : TypeId} (h1 : H a = some (.cs c1 e1)) (h2 : H b = some (.cs c2 e2)) (hne : a ≠ b) (hc : c2 ≠ [])
    (hq : Q (.bool false) H) : T PP 413 [.slice (some ⟨a, oa, none⟩) la ca, .slice (some ⟨b, ob, none⟩) lb cb] H Q :=
  over_self (fn := Tryz.f413) (tS := 45) (tR := 4) (by kernel_rfl) (by kernel_rfl) (by kernel_rfl) (by kernel_rfl) (by kernel_rfl) u45 s48 h1 h2 hne hc hq

theorem c_sinsert {v x : Value} {l : List Wait} {w : Wait} {i : Nat} {z : Int} {q : Nat} (hv : Own H v l) (hx : x = .slice (some ⟨q, 0, none⟩) 1 1) (hq : H q = some (.cs (enc [w]) 48)) (hne : l ≠ [] → ∀ b ∈ blk v, b ≠ q) (hi : i ≤ l.length) (hz : z = i) (hb : l.length ≤ 100000000)
    (h : ∀ v' H', Own H' v' (l.take i ++ w :: l.drop i) → Chg (blk v) H H' → (∀ b ∈ blk v', b ∈ blk v ∨ H b = none) → Q v' H') : T PP 358 [v, .int .i64 z, x] H Q := by
  apply T358; unfold sh358
  subst hx hz
  have hxs : Slc H (.slice (some ⟨q, 0, none⟩) 1 1) [w] := .inr ⟨q, 0, 1, _, rfl, Nat.le_refl _, hq, fun j u hu => by simpa [Blk.rd] using hu⟩
  obtain ⟨v4, e4, _, _⟩ := hv.slc.part (n := 4) rfl hi (Nat.le_refl _) (.inr ⟨.i64, (i : Int), rfl, rfl⟩) (.inl ⟨rfl, rfl⟩)
  simp only [e4, ev_some, show lenS (.slice (some ⟨q, 0, none⟩) 1 1) = some (.int .i64 1) from rfl, i_eql]
  rw [Br_f (by decide)]
  simp only [hv.slc.lenS, ev_some, i_eql]
  by_cases hil : i = l.length
  · rw [Br_t (by omega)]
    refine appWt hv hxs (by simp; omega) fun v' H' o c f => ?_
    refine h v' H' ?_ c f
    subst hil; simpa using o
  · rw [Br_f (by omega)]
    have hlt : i < l.length := by omega
    rcases hv with ⟨rfl, _⟩ | ⟨b, off, cap, c, e, rfl, h1, h2, h3, h4⟩
    · simp at hlt
    have hbq : b ≠ q := hne (fun e => by subst e; simp at hlt) b (by simp [blk])
    have hself : Own H (.slice (some ⟨b, off, none⟩) l.length cap) l := .inr ⟨b, off, cap, c, e, rfl, h1, h2, h3, h4⟩
    have sz : Enc.sz Wait = 4 := rfl
    rw [sz] at h3 h4
    have hv4 : v4 = .slice (some ⟨b, off + i * 4, none⟩) (l.length - i) (cap - i) := by
      rw [slV_raw (lo := i) (hi := l.length) (.inr ⟨_, _, rfl, rfl⟩) (.inl ⟨rfl, rfl⟩) (by omega) (by omega) (by omega), Option.some.injEq] at e4
      exact e4.symm
    subst hv4
    have lw : (enc [w]).length = 4 := rfl
    have ltk : (enc (l.take i)).length = i * 4 := by rw [enc_length, List.length_take, Nat.min_eq_left hi]; rfl
    have ldr : (enc (l.drop i)).length = (l.length - i) * 4 := by rw [enc_length, List.length_drop]; rfl
    have hcat : enc (l.take i ++ w :: l.drop i) = enc (l.take i) ++ enc [w] ++ enc (l.drop i) := by
      rw [show l.take i ++ w :: l.drop i = l.take i ++ [w] ++ l.drop i by simp, enc_append, enc_append]
    have hfl : flat (enc [w]) = true := enc_flat _
    have hfd : flat (enc (l.drop i)) = true := enc_flat _
    simp (disch := omega) only [i_add, ev_some, capV, i_gtr]
    have rdr : ∀ j u, (enc (l.drop i))[j]? = some u → (Blk.cs c e).rd (off + i * 4 + j) = some u := by
      intro j u hu
      rw [enc_drop, sz, ← h4, List.getElem?_drop, List.getElem?_take] at hu
      split at hu
      · rw [List.getElem?_drop] at hu
        simpa [Blk.rd, Nat.add_assoc] using hu
      · cases hu
    by_cases hcap : cap < l.length + 1
    · -- laid anew
      have hcl : cap = l.length := by omega
      rw [Br_t (by omega)]
      obtain ⟨v14, e14, o14, b14⟩ := hself.take (n := 4) (k := i) hi (z := (i : Int)) rfl .i64
      have e14' : slV 4 (.slice (some ⟨b, off, none⟩) l.length cap) none (some (.int .i64 (i : Int))) none = some (.slice (some ⟨b, off, none⟩) i cap) := by
        have := slV_raw (n := 4) (b := b) (off := off) (len := l.length) (cap := cap) (lo := 0) (hi := i) (vlo := none) (vhi := some (.int .i64 (i : Int))) (.inl ⟨rfl, rfl⟩) (.inr ⟨.i64, _, rfl, rfl⟩) (Nat.zero_le _) (by omega) (by omega)
        simpa using this
      rw [e14, Option.some.injEq] at e14'
      subst e14'
      rw [e14, ev_some]
      simp (disch := omega) only [i_sub, ev_some]
      have hlt' : (l.take i).length = i := by rw [List.length_take, Nat.min_eq_left hi]
      have s14 : Slc H (.slice (some ⟨b, off, none⟩) (l.take i).length cap) (l.take i) := by rw [hlt']; exact o14.slc
      have := app_make (P := PP) (α := Wait) (t := 45) (t3 := 3) u45 u3 s48 b48 z48 rfl rfl (by decide) rfl (m := l.length + 1 - i) (zi := (l.length : Int) + 1 - i) s14 (by omega) (by omega) (by omega)
        (K := fun v17 H18 => ev (slV 4 v17 (some (.int .i64 i)) none none) fun v19 => cpyW PP 45 45 v19 (.slice (some ⟨q, 0, none⟩) 1 1) H18 fun v20 H21 => ev (slV 4 v17 (some (.int .i64 ((i : Int) + 1))) none none) fun v23 => cpyW PP 45 45 v23 (.slice (some ⟨b, off + i * 4, none⟩) (l.length - i) (cap - i)) H21 fun v25 H26 => Q v17 H26)
        (fun b' cap' rest hb' hcap' hrest => ?_)
      · rw [hlt'] at this; exact this
      · rw [hlt'] at hcap' hrest ⊢
        have hn1 : i + (l.length + 1 - i) = l.length + 1 := by omega
        rw [hn1] at hcap' ⊢
        have hq' : upd H b' (.cs (enc (l.take i) ++ rest) 48) q = some (.cs (enc [w]) 48) := upd_other hq hb'
        have hbb : b' ≠ b := fun e => by subst e; rw [hb'] at h2; cases h2
        have hqb : q ≠ b' := fun e => by subst e; rw [hb'] at hq; cases hq
        have rlen : (enc (l.take i) ++ rest).length = cap' * 4 := by rw [List.length_append, ltk, hrest, ← Nat.add_mul]; congr 1; omega
        rw [slV_raw (lo := i) (hi := l.length + 1) (.inr ⟨_, _, rfl, rfl⟩) (.inl ⟨rfl, rfl⟩) (by omega) (by omega) (by omega), ev_some]
        refine cpy_raw (P := PP) (us := enc [w]) (m := 1) u45 s48 (upd_same _ _ _) hq' (Nat.min_eq_left (by omega)) rfl (fun j u hu => by simpa [Blk.rd] using hu) (by rw [rlen, lw]; omega) hfl ?_
        rw [show ((i : Int) + 1) = ((i + 1 : Nat) : Int) by omega]
        rw [upd_upd]
        rw [slV_raw (lo := i + 1) (hi := l.length + 1) (.inr ⟨_, _, rfl, rfl⟩) (.inl ⟨rfl, rfl⟩) (by omega) (by omega) (by omega), ev_some]
        have l2 : (over (enc (l.take i) ++ rest) (0 + i * 4) (enc [w])).length = cap' * 4 := by rw [over_length (by rw [rlen, lw]; omega), rlen]
        refine cpy_raw (P := PP) (us := enc (l.drop i)) (m := l.length - i) (k2 := .cs c e) u45 s48 (upd_same _ _ _) (by rw [upd_ne (Ne.symm hbb)]; exact h2) (Nat.min_eq_left (by omega)) ldr rdr (by rw [l2, ldr]; omega) hfd ?_
        rw [upd_upd]
        refine h _ _ (.inr ⟨b', 0, cap', _, 48, by simp [List.length_take, Nat.min_eq_left hi]; omega, by simp [List.length_take, Nat.min_eq_left hi]; omega, upd_same _ _ _, ?_, ?_⟩) (Chg.of_sub _ (Sub.upd_fresh _ hb')) (fun b hb => by simp [blk] at hb; subst hb; exact .inr hb')
        · rw [over_length (by rw [l2, ldr]; omega), l2, Nat.zero_add]; exact Nat.le_refl _
        · have t1 : ((enc (l.take i) ++ rest).drop 0).take (i * 4) = enc (l.take i) := by rw [List.drop_zero, List.take_left' ltk]
          have t2 := over_take (vs := enc [w]) t1 ltk (by rw [rlen, lw]; omega)
          have t3 := over_take (vs := enc (l.drop i)) t2 (by rw [List.length_append, ltk]) (by rw [l2, lw, ldr]; omega)
          rw [hcat, ← t3]
          have e1 : (l.take i ++ w :: l.drop i).length * Enc.sz Wait = i * 4 + (enc [w]).length + (enc (l.drop i)).length := by
            rw [← enc_length, hcat, List.length_append, List.length_append, ltk]
          rw [e1, lw, show (i + 1) * 4 = i * 4 + 4 by omega]
    · -- in place
      rw [Br_f (by omega)]
      rw [show ((l.length : Int) + 1) = ((l.length + 1 : Nat) : Int) by omega, show ((i : Int) + 1) = ((i + 1 : Nat) : Int) by omega]
      rw [slV_raw (lo := 0) (hi := l.length + 1) (.inl ⟨rfl, rfl⟩) (.inr ⟨_, _, rfl, rfl⟩) (by omega) (by omega) (by omega), ev_some]
      rw [slV_raw (lo := i + 1) (hi := l.length + 1 - 0) (.inr ⟨_, _, rfl, rfl⟩) (.inl ⟨rfl, rfl⟩) (by omega) (by omega) (by omega), ev_some]
      have hcne : c ≠ [] := by intro e0; subst e0; simp at h3; omega
      refine c_over hq h2 (Ne.symm hbq) hcne ?_
      simp only [u_not, ev_some, Bool.not_false, Br_true]
      rw [slV_raw (lo := i) (hi := l.length + 1 - 0) (.inr ⟨_, _, rfl, rfl⟩) (.inl ⟨rfl, rfl⟩) (by omega) (by omega) (by omega), ev_some]
      have f1 : off + 0 * 4 + (i + 1) * 4 + (enc (l.drop i)).length ≤ c.length := by rw [ldr]; omega
      refine cpy_raw (P := PP) (us := enc (l.drop i)) (m := l.length - i) (k2 := .cs c e) u45 s48 h2 h2 ((Nat.min_eq_right (by omega)).trans (by omega)) ldr (fun j u hu => by rw [show off + 0 * 4 + i * 4 = off + i * 4 by omega]; exact rdr j u hu) f1 hfd ?_
      have f2 : off + 0 * 4 + i * 4 + (enc [w]).length ≤ c.length := by rw [lw]; omega
      rw [ev_some]
      refine cpy_raw (P := PP) (us := enc [w]) (m := 1) u45 s48 (upd_same _ _ _) (by rw [upd_ne (Ne.symm hbq)]; exact hq) (Nat.min_eq_left (by omega)) rfl (fun j u hu => by simpa [Blk.rd] using hu) (by rw [over_length f1]; exact f2) hfl ?_
      rw [upd_upd, over_comm (by rw [lw]; omega) f1]
      refine h _ _ (.inr ⟨b, off, cap, _, e, by simp [List.length_take, Nat.min_eq_left hi]; omega, by simp [List.length_take, Nat.min_eq_left hi]; omega, upd_same _ _ _, ?_, ?_⟩) (Chg_upd _) (fun b hb => by simp [blk] at hb ⊢; exact .inl hb)
      · rw [over_length (by rw [over_length f2]; exact f1), over_length f2]; exact h3
      · have t1 : (c.drop off).take (i * 4) = enc (l.take i) := by
          rw [enc_take, sz, ← h4, List.take_take, Nat.min_eq_left (by omega)]
        have t2 := over_take (vs := enc [w]) t1 ltk (by rw [lw]; omega)
        have t3 := over_take (vs := enc (l.drop i)) t2 (by rw [List.length_append, ltk]) (by rw [over_length (by rw [lw]; omega), lw, ldr]; omega)
        rw [hcat, ← t3]
        have e1 : (l.take i ++ w :: l.drop i).length * Enc.sz Wait = i * 4 + (enc [w]).length + (enc (l.drop i)).length := by
          rw [← enc_length, hcat, List.length_append, List.length_append, ltk]
        rw [e1, lw, show off + 0 * 4 + i * 4 = off + i * 4 by omega, show off + 0 * 4 + (i + 1) * 4 = off + (i * 4 + 4) by omega]

def insW (l : List Wait) (w : Wait) : List Wait := l.take (place l w.conv) ++ w :: l.drop (place l w.conv)
theorem c_reqinsert {x : Value} {l : List Wait} (w : Wait) (hx : Slc H x l) (hb : l.length ≤ 100000000)
    (h : ∀ v' H', Own H' v' (insW l w) → Sub H H' → (∀ b ∈ blk v', H b = none) → Q v' H') : T PP 267 [x, Enc.val w] H Q := by
  apply T267; unfold sh267
  intro p hp
  have hs := Sub.upd_fresh (.cs (Enc.val w).cells.toList 48) hp
  have hp2 : upd H p (.cs (Enc.val w).cells.toList 48) p = some (.cs [.int .i64 w.tx, .int .i64 w.mode, .bool w.conv, .bool w.inst] 48) := upd_same _ _ _
  generalize upd H p (.cs (Enc.val w).cells.toList 48) = H1 at *
  have l7 : ∀ H2, Sub H1 H2 → Sl.ldn 4 H2 (.pointer (some ⟨p, 0, none⟩)) = some (Enc.val w) := fun H2 s => by simp [Sl.ldn, s p _ hp2, Sl.rdn, Blk.rd, Enc.val]
  have l6 : ∀ H2, Sub H1 H2 → Sl.ld1 H2 (.pointer (some ⟨p, 2, none⟩)) = some (.bool w.conv) := fun H2 s => by rw [ld1_cs (s p _ hp2)]; rfl
  simp only [fldA_p, ev_some, Nat.zero_add, l6 _ (Sub.refl H1), l7 _ (Sub.refl H1), b48v]
  refine c_cloneW (hx.sub hs) (by omega) fun v9 H2 o9 s9 f9 => ?_
  simp only [l6 _ s9, l7 _ s9, ev_some, true_and]
  refine c_place (hx.sub (hs.trans s9)) (by omega) ?_
  simp only [l7 _ s9, ev_some, true_and]
  intro q hq
  have s10 := Sub.upd_fresh (.cs (enc [w]) 48) hq
  refine c_sinsert (i := place l w.conv) (o9.sub s10) rfl (upd_same _ _ _) (fun hl0 b hb e => ?_) (place_le l w.conv) rfl hb fun v' H' o c f => ?_
  · subst e
    obtain ⟨k, hk⟩ := o9.slc.known hl0 b hb
    rw [hk] at hq; cases hq
  · have sall : Sub H (upd H2 q (.cs (enc [w]) 48)) := (hs.trans s9).trans s10
    refine h v' H' o (sall.chg c fun b hb => ?_) fun b hb => ?_
    · cases hh : H b with
      | none => rfl
      | some k => have := f9 b hb; rw [hs b k hh] at this; cases this
    · cases hh : H b with
      | none => rfl
      | some k =>
        rcases f b hb with f | f
        · have := f9 b f; rw [hs b k hh] at this; cases this
        · rw [sall b k hh] at f; cases f
end
end Go.Sl
namespace Go.Sl
open Go Go.Proofs

/-- Locks and requests at a node, as they lie; S: all the blocks that are theirs. -/
def Que (S : Nat → Prop) (H : Heap) (q : Nat) (hs : List Hold) (ws : List Wait) : Prop :=
  ∃ vh vw, S q ∧ H q = some (.cs [vh, vw] 212) ∧ Slc H vh hs ∧ Slc H vw ws ∧ (hs ≠ [] → ∀ b ∈ blk vh, S b ∧ b ≠ q) ∧ (ws ≠ [] → ∀ b ∈ blk vw, S b ∧ b ≠ q) ∧ ∀ b, S b → H b ≠ none

theorem Slc.keep {α : Type} [Enc α] {H H' : Heap} {v : Value} {l : List α} (h : Slc H v l) (s : l ≠ [] → ∀ b ∈ blk v, ∀ k, H b = some k → H' b = some k) : Slc H' v l := by
  rcases h with h | ⟨b, off, cap, k, a1, a2, a3, a4⟩
  · exact .inl h
  · by_cases hl : l = []
    · subst hl; exact .inl ⟨rfl, _, _, a1⟩
    · exact .inr ⟨b, off, cap, k, a1, a2, s hl b (by rw [a1]; simp [blk]) k a3, a4⟩
theorem Que.keep {S : Nat → Prop} {H H' : Heap} {q : Nat} {hs : List Hold} {ws : List Wait} (h : Que S H q hs ws) (s : ∀ b k, S b → H b = some k → H' b = some k) : Que S H' q hs ws := by
  obtain ⟨vh, vw, a1, a2, a3, a4, a5, a6, a7⟩ := h
  refine ⟨vh, vw, a1, s q _ a1 a2, a3.keep fun hl b hb k hk => s b k (a5 hl b hb).1 hk, a4.keep fun hl b hb k hk => s b k (a6 hl b hb).1 hk, a5, a6, fun b hb => ?_⟩
  cases hh : H b with
  | none => exact absurd hh (a7 b hb)
  | some k => rw [s b k hb hh]; simp
theorem Que.sub {S : Nat → Prop} {H H' : Heap} {q : Nat} {hs : List Hold} {ws : List Wait} (h : Que S H q hs ws) (s : Sub H H') : Que S H' q hs ws := h.keep fun b k _ hk => s b k hk

def nowQ (hs : List Hold) (ws : List Wait) (tx tg : Int) (conv : Bool) : Bool := decide ((if conv then placeC ws else ws.length) = 0) && goes hs tx tg
def qAsk (hs : List Hold) (ws : List Wait) (tx m flag : Int) : Int × Int × List Hold × List Wait :=
  if chkR tx m flag ≠ 0 then (0, chkR tx m flag, hs, ws)
  else if (ws.any fun w => decide (w.tx = tx)) = true then (0, 3, hs, ws)
  else if modeOf hs tx ≠ 0 ∧ other (modeOf hs tx) m = false then (1, 0, hs, ws)
  else if nowQ hs ws tx (target (modeOf hs tx) m) (decide (modeOf hs tx ≠ 0)) = true then (1, 0, if flag = 2 then hs else setH hs tx (target (modeOf hs tx) m), ws)
  else if flag = 1 then (0, 40, hs, ws)
  else (2, 0, hs, insW ws ⟨tx, target (modeOf hs tx) m, decide (modeOf hs tx ≠ 0), decide (flag = 2)⟩)
def qCost (hs : List Hold) (ws : List Wait) (tx m flag : Int) : Int × Int :=
  let r := qAsk hs ws tx m flag
  if r.2.1 ≠ 0 then (0, r.2.1) else ((r.2.2.1.length + r.2.2.2.length : Int) - (hs.length + ws.length), 0)

abbrev ptr (q : Nat) : Value := .pointer (some ⟨q, 0, none⟩)
theorem eqP_nil (q : Nat) : eqP (ptr q) (.pointer none) = some false := rfl
theorem nilV_p (q off : Nat) : nilV (.pointer (some ⟨q, off, none⟩)) = some (.pointer (some ⟨q, off, none⟩)) := rfl

section
variable {H : Heap} {Q : Value → Heap → Prop} {S : Nat → Prop} {q : Nat} {hs : List Hold} {ws : List Wait}

theorem c_holds (hq : Que S H q hs ws) (hb : hs.length ≤ 100000000) (h : ∀ v' H', Own H' v' hs → Sub H H' → (∀ b ∈ blk v', H b = none) → Q v' H') : T PP 144 [ptr q] H Q := by
  apply T144; unfold sh144
  obtain ⟨vh, vw, a1, a2, a3, a4, a5, a6, a7⟩ := hq
  simp only [eqP_nil, notB_f, ev_some, Br_false, nilV_p, fldA_p, ld1_cs a2, List.getElem?_cons_zero, Nat.zero_add]
  exact c_cloneH a3 (by omega) h
theorem c_waits (hq : Que S H q hs ws) (hb : ws.length ≤ 100000000) (h : ∀ v' H', Own H' v' ws → Sub H H' → (∀ b ∈ blk v', H b = none) → Q v' H') : T PP 99 [ptr q] H Q := by
  apply T99; unfold sh99
  obtain ⟨vh, vw, a1, a2, a3, a4, a5, a6, a7⟩ := hq
  simp only [eqP_nil, notB_f, ev_some, Br_false, nilV_p, fldA_p, ld1_cs a2, List.getElem?_cons_zero, List.getElem?_cons_succ, Nat.zero_add]
  exact c_cloneW a4 (by omega) h
theorem c_qmode (hq : Que S H q hs ws) (hb : hs.length ≤ 100000000) {tx : Int} (h : Q (.int .i64 (modeOf hs tx)) H) : T PP 102 [ptr q, .int .i64 tx] H Q := by
  refine T.pure (fun Q' hQ => ?_) h
  apply T102; unfold sh102
  refine c_holds hq hb fun v H1 o s f => ?_
  exact c_grpof o.slc (by omega) (hQ _ s)
theorem c_qsize (hq : Que S H q hs ws) (hb : hs.length ≤ 100000000) (hb2 : ws.length ≤ 100000000) (h : Q (.int .i64 ((hs.length : Int) + ws.length)) H) : T PP 258 [ptr q] H Q := by
  apply T258; unfold sh258
  obtain ⟨vh, vw, a1, a2, a3, a4, a5, a6, a7⟩ := hq
  simp (disch := omega) only [eqP_nil, notB_f, ev_some, Br_false, nilV_p, fldA_p, ld1_cs a2, List.getElem?_cons_zero, List.getElem?_cons_succ, Nat.zero_add, a3.lenS, a4.lenS, i_add]
  exact h
theorem c_qcopy (hq : Que S H q hs ws) (hb : hs.length ≤ 100000000) (hb2 : ws.length ≤ 100000000) (h : ∀ q' S' H', Que S' H' q' hs ws → Sub H H' → (∀ b, S' b → H b = none) → Q (ptr q') H') : T PP 157 [ptr q] H Q := by
  apply T157; unfold sh157
  simp only [eqP_nil, notB_f, ev_some, Br_false]
  refine c_holds hq hb fun v3 H3 o3 s3 f3 => ?_
  refine c_waits (hq.sub s3) hb2 fun v5 H5 o5 s5 f5 => ?_
  refine ev_iff.2 ⟨.agg #[v3, v5], ?_, ?_⟩
  · obtain ⟨a, c, rfl⟩ := o3.slc.len
    obtain ⟨a', c', rfl⟩ := o5.slc.len
    rfl
  intro p hp
  have s6 : Sub H5 (upd H5 p (.cs [v3, v5] 212)) := Sub.upd_fresh _ hp
  have n5 : ∀ b ∈ blk v5, H b = none := fun b hb => by
    cases hh : H b with
    | none => rfl
    | some k => have := f5 b hb; rw [s3 b k hh] at this; cases this
  have hpH : H p = none := by
    cases hh : H p with
    | none => rfl
    | some k => rw [(s3.trans s5) p k hh] at hp; cases hp
  have k3 : hs ≠ [] → ∀ b ∈ blk v3, H5 b ≠ none := fun hl b hb => by
    obtain ⟨k, hk⟩ := o3.slc.known hl b hb
    rw [s5 b k hk]; simp
  have k5 : ws ≠ [] → ∀ b ∈ blk v5, H5 b ≠ none := fun hl b hb => by
    obtain ⟨k, hk⟩ := o5.slc.known hl b hb
    rw [hk]; simp
  refine h p (fun b => b = p ∨ (b ∈ blk v3 ∧ H5 b ≠ none) ∨ (b ∈ blk v5 ∧ H5 b ≠ none)) _ ⟨v3, v5, .inl rfl, upd_same _ _ _, (o3.slc.sub s5).sub s6, o5.slc.sub s6, ?_, ?_, ?_⟩ ((s3.trans s5).trans s6) ?_
  · intro hl b hb
    have := k3 hl b hb
    exact ⟨.inr (.inl ⟨hb, this⟩), fun e => this (by rw [e]; exact hp)⟩
  · intro hl b hb
    have := k5 hl b hb
    exact ⟨.inr (.inr ⟨hb, this⟩), fun e => this (by rw [e]; exact hp)⟩
  · rintro b (rfl | ⟨_, hk⟩ | ⟨_, hk⟩)
    · rw [upd_same]; simp
    · cases hh : H5 b with
      | none => exact absurd hh hk
      | some k => show upd H5 p (.cs [v3, v5] 212) b ≠ none; rw [s6 b k hh]; simp
    · cases hh : H5 b with
      | none => exact absurd hh hk
      | some k => show upd H5 p (.cs [v3, v5] 212) b ≠ none; rw [s6 b k hh]; simp
  · rintro b (rfl | ⟨hb, _⟩ | ⟨hb, _⟩)
    · exact hpH
    · exact f3 b hb
    · exact n5 b hb

theorem c_now {tx tg : Int} {conv : Bool} (hq : Que S H q hs ws) (hb : hs.length ≤ 100000000) (hb2 : ws.length ≤ 100000000) (h : Q (.bool (nowQ hs ws tx tg conv)) H) : T PP 265 [ptr q, .int .i64 tx, .int .i64 tg, .bool conv] H Q := by
  apply T265; unfold sh265
  obtain ⟨vh, vw, a1, a2, a3, a4, a5, a6, a7⟩ := hq
  simp only [nilV_p, ev_some, fldA_p, ld1_cs a2, List.getElem?_cons_zero, List.getElem?_cons_succ, Nat.zero_add]
  intro K step
  have go : ∀ (v : Value) (m : List Wait), Slc H v m → m.length = (if conv then placeC ws else ws.length) → K [ptr q, .int .i64 tx, .int .i64 tg, v] H := by
    intro v m hv hm
    apply step
    simp only [hv.lenS, ev_some, i_eql, nilV_p, fldA_p, ld1_cs a2, List.getElem?_cons_zero, Nat.zero_add]
    unfold nowQ at h
    by_cases h0 : m.length = 0
    · rw [Br_t (by omega)]
      refine c_goes a3 (by omega) ?_
      rw [← hm, decide_eq_true h0, Bool.true_and] at h; exact h
    · rw [Br_f (by omega)]
      rw [← hm, decide_eq_false h0, Bool.false_and] at h; exact h
  cases conv with
  | true =>
    rw [Br_true]
    refine c_place a4 (by omega) ?_
    have hp := place_le ws true
    obtain ⟨v', e', s', _⟩ := a4.part (n := 4) rfl (lo := 0) (hi := place ws true) (Nat.zero_le _) hp (.inl ⟨rfl, rfl⟩) (.inr ⟨.i64, _, rfl, rfl⟩)
    rw [e', ev_some]
    refine go v' _ s' ?_
    simp only [List.drop_zero, List.length_take, if_true]
    rw [Nat.min_eq_left hp]; rfl
  | false =>
    rw [Br_false]
    exact go vw ws a4 rfl

theorem any_fix {α : Type} (p : α → Bool) (l : List α) : decide (0 ≤ fix p l) = l.any p := by
  have := fix_neg p l
  rw [Bool.eq_iff_iff, decide_eq_true_iff]
  cases h : l.any p with
  | true => simp only [iff_true]; rw [h] at this; simp at this; omega
  | false => simp only [Bool.false_eq_true, iff_false]; have := this.2 h; omega

theorem setH_len (l : List Hold) (tx m : Int) : (setH l tx m).length ≤ l.length + 1 := by
  unfold setH; split <;> simp
theorem setH_ne (l : List Hold) (tx m : Int) : setH l tx m ≠ [] := by
  unfold setH
  split
  · rename_i i hi
    obtain ⟨h1, _⟩ := List.findIdx?_eq_some_iff_getElem.1 hi
    intro e
    have := congrArg List.length e
    simp at this; subst this; simp at h1
  · simp
theorem insW_len (l : List Wait) (w : Wait) : (insW l w).length = l.length + 1 := by
  have := place_le l w.conv
  simp [insW]; omega

/-- One of the two is another one. -/
theorem Que.holds (hq : Que S H q hs ws) {vh vw : Value} (a2 : H q = some (.cs [vh, vw] 212)) {H1 : Heap} {v : Value} {l : List Hold} (o : Own H1 v l) (s : Sub H H1) (f : ∀ b ∈ blk v, H b = none) :
    Que (fun b => S b ∨ b ∈ blk v ∧ H1 b ≠ none) (upd H1 q (.cs [v, vw] 212)) q l ws := by
  obtain ⟨vh', vw', a1, a2', a3, a4, a5, a6, a7⟩ := hq
  rw [a2] at a2'; cases a2'
  have hqv : ∀ b ∈ blk v, b ≠ q := fun b hb e => by have := f b hb; rw [e, a2] at this; cases this
  refine ⟨v, vw, .inl a1, upd_same _ _ _, o.slc.keep fun _ b hb k hk => by rw [upd_ne (hqv b hb)]; exact hk, a4.keep fun hl b hb k hk => by rw [upd_ne (a6 hl b hb).2]; exact s b k hk, fun hl b hb => ⟨.inr ⟨hb, ?_⟩, hqv b hb⟩, fun hl b hb => ⟨.inl (a6 hl b hb).1, (a6 hl b hb).2⟩, fun b hb => ?_⟩
  · obtain ⟨k, hk⟩ := o.slc.known hl b hb
    rw [hk]; simp
  · by_cases e : b = q
    · subst e; rw [upd_same]; simp
    · rw [upd_ne e]
      rcases hb with hb | ⟨_, hb⟩
      · cases hh : H b with
        | none => exact absurd hh (a7 b hb)
        | some k => rw [s b k hh]; simp
      · exact hb
theorem Que.waits (hq : Que S H q hs ws) {vh vw : Value} (a2 : H q = some (.cs [vh, vw] 212)) {H1 : Heap} {v : Value} {l : List Wait} (o : Own H1 v l) (s : Sub H H1) (f : ∀ b ∈ blk v, H b = none) :
    Que (fun b => S b ∨ b ∈ blk v ∧ H1 b ≠ none) (upd H1 q (.cs [vh, v] 212)) q hs l := by
  obtain ⟨vh', vw', a1, a2', a3, a4, a5, a6, a7⟩ := hq
  rw [a2] at a2'; cases a2'
  have hqv : ∀ b ∈ blk v, b ≠ q := fun b hb e => by have := f b hb; rw [e, a2] at this; cases this
  refine ⟨vh, v, .inl a1, upd_same _ _ _, a3.keep fun hl b hb k hk => by rw [upd_ne (a5 hl b hb).2]; exact s b k hk, o.slc.keep fun _ b hb k hk => by rw [upd_ne (hqv b hb)]; exact hk, fun hl b hb => ⟨.inl (a5 hl b hb).1, (a5 hl b hb).2⟩, fun hl b hb => ⟨.inr ⟨hb, ?_⟩, hqv b hb⟩, fun b hb => ?_⟩
  · obtain ⟨k, hk⟩ := o.slc.known hl b hb
    rw [hk]; simp
  · by_cases e : b = q
    · subst e; rw [upd_same]; simp
    · rw [upd_ne e]
      rcases hb with hb | ⟨_, hb⟩
      · cases hh : H b with
        | none => exact absurd hh (a7 b hb)
        | some k => rw [s b k hh]; simp
      · exact hb

theorem c_qask {tx m flag : Int} (hq : Que S H q hs ws) (hb : hs.length ≤ 10000000) (hb2 : ws.length ≤ 10000000)
    (h : ∀ S' H', Que S' H' q (qAsk hs ws tx m flag).2.2.1 (qAsk hs ws tx m flag).2.2.2 → (∀ b k, H b = some k → b ≠ q → H' b = some k) → (∀ b, S' b → S b ∨ H b = none) →
      Q (.tuple #[.int .i64 (qAsk hs ws tx m flag).1, .int .i64 (qAsk hs ws tx m flag).2.1]) H') : T PP 156 [ptr q, .int .i64 tx, .int .i64 m, .int .i64 flag] H Q := by
  apply T156; unfold sh156
  have same : ∀ a e : Int, qAsk hs ws tx m flag = (a, e, hs, ws) → Q (.tuple #[.int .i64 a, .int .i64 e]) H := by
    intro a e he
    rw [he] at h
    exact h S H hq (fun b k hk _ => hk) (fun b hb => .inl hb)
  obtain ⟨vh, vw, a1, a2, a3, a4, a5, a6, a7⟩ := id hq
  simp only [eqP_nil, notB_f, ev_some, Br_false]
  refine c_check ?_
  simp only [i_neq, ev_some]
  by_cases hc' : chkR tx m flag ≠ 0
  · rw [Br_t hc']; exact same _ _ (by unfold qAsk; rw [if_pos hc'])
  have hc : chkR tx m flag = 0 := by simpa using hc'
  rw [Br_f (by simpa using hc)]
  simp only [nilV_p, ev_some, fldA_p, ld1_cs a2, List.getElem?_cons_zero, List.getElem?_cons_succ, Nat.zero_add]
  refine c_reqfind a4 (by omega) ?_
  simp only [i_geq, ev_some, any_fix]
  cases hany : ws.any (fun w => decide (w.tx = tx)) with
  | true =>
    rw [Br_true]; exact same _ _ (by unfold qAsk; rw [if_neg (by simpa using hc), if_pos hany])
  | false =>
  rw [Br_false]
  refine c_qmode hq (by omega) ?_
  refine c_target ?_
  have x0 : ∀ a b : Value, extrV 0 (.tuple #[a, b]) = some a := fun _ _ => rfl
  have x1 : ∀ a b : Value, extrV 1 (.tuple #[a, b]) = some b := fun _ _ => rfl
  simp only [x0, x1, ev_some, i_neq]
  intro K step
  have done : other (modeOf hs tx) m = false → modeOf hs tx ≠ 0 → K [ptr q, .int .i64 tx, .int .i64 flag, .int .i64 (target (modeOf hs tx) m), .bool (decide (modeOf hs tx ≠ 0)), .bool true] H := by
    intro h1 h2
    apply step; rw [Br_true]
    exact same _ _ (by unfold qAsk; rw [if_neg (by simpa using hc), if_neg (by simp [hany]), if_pos ⟨h2, h1⟩])
  have goOn : ¬ (modeOf hs tx ≠ 0 ∧ other (modeOf hs tx) m = false) → K [ptr q, .int .i64 tx, .int .i64 flag, .int .i64 (target (modeOf hs tx) m), .bool (decide (modeOf hs tx ≠ 0)), .bool false] H := by
    intro h1
    have e1 : qAsk hs ws tx m flag = if nowQ hs ws tx (target (modeOf hs tx) m) (decide (modeOf hs tx ≠ 0)) = true then (1, 0, if flag = 2 then hs else setH hs tx (target (modeOf hs tx) m), ws)
      else if flag = 1 then (0, 40, hs, ws) else (2, 0, hs, insW ws ⟨tx, target (modeOf hs tx) m, decide (modeOf hs tx ≠ 0), decide (flag = 2)⟩) := by
      conv => lhs; unfold qAsk
      rw [if_neg (by simpa using hc), if_neg (by simp [hany]), if_neg h1]
    apply step; rw [Br_false]
    refine c_now hq (by omega) (by omega) ?_
    refine Br_bools (fun hn => ?_) (fun hn => ?_)
    · rw [if_pos hn] at e1
      intro K2 step2
      simp only [i_neq, ev_some]
      by_cases hf : flag = 2
      · rw [Br_f (by simpa using hf)]
        apply step2
        rw [if_pos hf] at e1
        exact same _ _ e1
      · rw [Br_t hf]
        rw [if_neg hf] at e1
        simp only [nilV_p, ev_some, fldA_p, ld1_cs a2, List.getElem?_cons_zero, Nat.zero_add]
        refine c_grpset a3 (by omega) fun v H1 o s f => ?_
        rw [sto_cs (s q _ a2) v (by obtain ⟨_, _, rfl⟩ := o.slc.len; rfl) (by obtain ⟨_, _, rfl⟩ := o.slc.len; rfl) (by simp), ev_some]
        apply step2
        rw [e1] at h
        refine h _ _ (hq.holds a2 o s f) (fun b k hk hne => by rw [upd_ne hne]; exact s b k hk) ?_
        rintro b (hb | ⟨hb, _⟩)
        · exact .inl hb
        · exact .inr (f b hb)
    · rw [if_neg (by rw [hn]; simp)] at e1
      simp only [i_eql, ev_some]
      by_cases hf : flag = 1
      · rw [Br_t hf]
        rw [if_pos hf] at e1
        exact same _ _ e1
      · rw [Br_f hf]
        rw [if_neg hf] at e1
        simp only [nilV_p, ev_some, fldA_p, ld1_cs a2, List.getElem?_cons_zero, List.getElem?_cons_succ, Nat.zero_add]
        refine ev_iff.2 ⟨Enc.val (⟨tx, target (modeOf hs tx) m, decide (modeOf hs tx ≠ 0), decide (flag = 2)⟩ : Wait), rfl, ?_⟩
        refine c_reqinsert _ a4 (by omega) fun v H1 o s f => ?_
        rw [sto_cs (s q _ a2) v (by obtain ⟨_, _, rfl⟩ := o.slc.len; rfl) (by obtain ⟨_, _, rfl⟩ := o.slc.len; rfl) (by simp), ev_some]
        rw [e1] at h
        refine h _ _ (hq.waits a2 o s f) (fun b k hk hne => by rw [upd_ne hne]; exact s b k hk) ?_
        rintro b (hb | ⟨hb, _⟩)
        · exact .inl hb
        · exact .inr (f b hb)
  by_cases hm : modeOf hs tx = 0
  · rw [Br_f (by simpa using hm)]
    exact goOn (fun hh => hh.1 hm)
  · rw [Br_t hm]
    simp only [u_not, ev_some]
    cases ho : other (modeOf hs tx) m with
    | true => exact goOn (fun hh => by rw [ho] at hh; simp at hh)
    | false => exact done ho hm

theorem qAsk_len (hs : List Hold) (ws : List Wait) (tx m flag : Int) : (qAsk hs ws tx m flag).2.2.1.length ≤ hs.length + 1 ∧ (qAsk hs ws tx m flag).2.2.2.length ≤ ws.length + 1 := by
  have h1 := setH_len hs tx (target (modeOf hs tx) m)
  have h2 := insW_len ws ⟨tx, target (modeOf hs tx) m, decide (modeOf hs tx ≠ 0), decide (flag = 2)⟩
  unfold qAsk
  repeat' split
  all_goals constructor <;> dsimp only <;> omega

theorem c_qcost {tx m flag : Int} (hq : Que S H q hs ws) (hb : hs.length ≤ 10000000) (hb2 : ws.length ≤ 10000000)
    (h : Q (.tuple #[.int .i64 (qCost hs ws tx m flag).1, .int .i64 (qCost hs ws tx m flag).2]) H) : T PP 151 [ptr q, .int .i64 tx, .int .i64 m, .int .i64 flag] H Q := by
  refine T.pure (fun Q' hQ => ?_) h
  apply T151; unfold sh151
  refine c_qcopy hq (by omega) (by omega) fun q' S' H1 hq' s1 f1 => ?_
  have hq'S : S' q' := by obtain ⟨_, _, a1, _⟩ := hq'; exact a1
  refine c_qask hq' hb hb2 fun S2 H2 hq2 k2 f2 => ?_
  have s2 : Sub H H2 := fun b k hk => k2 b k (s1 b k hk) fun e => by subst e; have := f1 b hq'S; rw [hk] at this; cases this
  have hl := qAsk_len hs ws tx m flag
  have x0 : ∀ a b : Value, extrV 0 (.tuple #[a, b]) = some a := fun _ _ => rfl
  have x1 : ∀ a b : Value, extrV 1 (.tuple #[a, b]) = some b := fun _ _ => rfl
  simp only [x0, x1, ev_some, i_neq]
  unfold qCost at hQ
  dsimp only at hQ
  by_cases he : (qAsk hs ws tx m flag).2.1 = 0
  · rw [Br_f (by simpa using he)]
    rw [if_neg (by simpa using he)] at hQ
    refine c_qsize hq2 (by omega) (by omega) ?_
    refine c_qsize (hq.sub s2) (by omega) (by omega) ?_
    simp (disch := omega) only [i_sub, ev_some]
    exact hQ H2 s2
  · rw [Br_t he]
    rw [if_pos he] at hQ
    exact hQ H2 s2
end
end Go.Sl
namespace Go.Sl
open Go Go.Proofs

theorem uwrap (n : Nat) : IntKind.u64.wrap (n : Int) = ((n % 18446744073709551616 : Nat) : Int) := by simp [IntKind.wrap]; rfl
theorem u64_add (a b : Nat) : intV .add (.int .u64 a) (.int .u64 b) = some (.int .u64 (((a + b) % 18446744073709551616 : Nat) : Int)) := by
  unfold intV; dsimp only; rw [if_pos rfl, ← Int.natCast_add, uwrap]
theorem u64_mul (a b : Nat) : intV .mul (.int .u64 a) (.int .u64 b) = some (.int .u64 (((a * b) % 18446744073709551616 : Nat) : Int)) := by
  unfold intV; dsimp only; rw [if_pos rfl, ← Int.natCast_mul, uwrap]

def Path.n (p : Path) (i : Nat) : Int := match i with | 0 => p.a | 1 => p.b | 2 => p.c | _ => p.d
def okN (p : Path) (i : Nat) : Prop := 0 ≤ p.n i ∧ p.n i ≤ 999 ∧ ((i : Int) < p.depth ∨ p.n i = 0)
instance (p : Path) (i : Nat) : Decidable (okN p i) := by unfold okN; exact inferInstance
/-- Whether there can be such a node. -/
def pMay (p : Path) : Bool := decide ((1 ≤ p.depth ∧ p.depth ≤ 4) ∧ ∀ i : Nat, i < 4 → okN p i)
def pKeyN (p : Path) : Nat → Nat
  | 0 => 0
  | i + 1 => pKeyN p i * 1001 + (p.n i).toNat + 1
def pKey (p : Path) : Nat := if pMay p then pKeyN p p.depth.toNat else 0
/-- From number i on. -/
def lessN (p q : Path) : Nat → Nat → Bool
  | 0, _ => decide (p.depth < q.depth)
  | n + 1, i => if p.n i ≠ q.n i then decide (p.n i < q.n i) else lessN p q n (i + 1)
def pLess (p q : Path) : Bool := pMay p && pMay q && lessN p q (min p.depth q.depth).toNat 0

theorem pMay_iff {p : Path} : pMay p = true ↔ (1 ≤ p.depth ∧ p.depth ≤ 4) ∧ ∀ i : Nat, i < 4 → okN p i := by unfold pMay; exact decide_eq_true_iff
theorem pKeyN_lt {p : Path} (h : pMay p = true) : ∀ i, i ≤ 4 → pKeyN p i < 1001 ^ i
  | 0, _ => by simp [pKeyN]
  | i + 1, hi => by
    have ih := pKeyN_lt h i (by omega)
    obtain ⟨h1, h2, _⟩ := (pMay_iff.1 h).2 i (by omega)
    have : (p.n i).toNat ≤ 999 := by omega
    simp only [pKeyN, Nat.pow_succ]
    omega
theorem pKeyN_small {p : Path} (h : pMay p = true) {i : Nat} (hi : i ≤ 4) : pKeyN p i < 1004006004001 := by
  have := pKeyN_lt h i hi
  have : 1001 ^ i ≤ 1001 ^ 4 := Nat.pow_le_pow_right (by decide) hi
  have e : (1001 : Nat) ^ 4 = 1004006004001 := by decide
  omega

/-- What lies at a node's place. -/
def pCells (p : Path) : List Value := [.int .i64 p.a, .int .i64 p.b, .int .i64 p.c, .int .i64 p.d, .int .i64 p.depth]
theorem pCells_val (p : Path) : (Value.cells (Enc.val p)).toList = pCells p := rfl
theorem pCells_n (p : Path) {i : Nat} (hi : i < 4) : (pCells p)[i]? = some (.int .i64 (p.n i)) := by
  match i, hi with
  | 0, _ => rfl
  | 1, _ => rfl
  | 2, _ => rfl
  | 3, _ => rfl

section
variable {H : Heap} {Q : Value → Heap → Prop}
theorem ldn_path {H : Heap} {b off : Nat} {c : List Value} {e : TypeId} (p : Path) (hb : H b = some (.cs c e)) (hc : ∀ j, j < 5 → c[off + j]? = (pCells p)[j]?) : Sl.ldn 5 H (.pointer (some ⟨b, off, none⟩)) = some (Enc.val p) := by
  simp only [Sl.ldn, hb]
  rw [rdn_of (vs := pCells p) 5 off rfl fun j u hu => by
    have hj : j < 5 := (List.getElem?_eq_some_iff.1 hu).1
    simp only [Blk.rd]; rw [hc j hj]; exact hu]
  rfl
theorem ldn_path0 {H : Heap} {b : Nat} {e : TypeId} (p : Path) (hb : H b = some (.cs (pCells p) e)) : Sl.ldn 5 H (ptr b) = some (Enc.val p) := ldn_path p hb (fun j _ => by rw [Nat.zero_add])

theorem c_pmay {p : Path} (h : Q (.bool (pMay p)) H) : T PP 210 [Enc.val p] H Q := by
  refine T.pure (fun Q' hQ => ?_) h
  apply T210; unfold sh210
  rw [pCells_val]
  intro q hq
  have hs := Sub.upd_fresh (.cs (pCells p) 39) hq
  have h2 := upd_same H q (.cs (pCells p) 39)
  generalize upd H q (.cs (pCells p) 39) = H2 at *
  have hd : Sl.ld1 H2 (.pointer (some ⟨q, 0 + 4, none⟩)) = some (.int .i64 p.depth) := by rw [ld1_cs h2]; rfl
  have hn : Sl.ldn 4 H2 (.pointer (some ⟨q, 0 + 0, none⟩)) = some (.agg #[.int .i64 p.a, .int .i64 p.b, .int .i64 p.c, .int .i64 p.d]) := by
    simp [Sl.ldn, h2, Sl.rdn, Blk.rd, pCells]
  intro K step
  have bad : ¬ (1 ≤ p.depth ∧ p.depth ≤ 4) → K [ptr q, .bool true] H2 := fun hh => by
    apply step; rw [Br_true]
    have : pMay p = false := by rw [← Bool.not_eq_true, pMay_iff]; exact fun h => hh h.1
    rw [this] at hQ; exact hQ _ hs
  have good : (1 ≤ p.depth ∧ p.depth ≤ 4) → K [ptr q, .bool false] H2 := fun hh => by
    apply step; rw [Br_false]
    simp only [fldA_p, ev_some, hn]
    intro I stepI
    have main : ∀ (n i : Nat) (z : Int), 4 - i = n → z = i → i ≤ 4 → (∀ j, j < i → okN p j) → I [ptr q, .agg #[.int .i64 p.a, .int .i64 p.b, .int .i64 p.c, .int .i64 p.d], .int .i64 z] H2 := by
      intro n
      induction n using Nat.strongRecOn with
      | _ n ih =>
      intro i z hn' hz hi hpre
      apply stepI
      simp only [i_lss, ev_some]
      by_cases hlt : i < 4
      · rw [Br_t (by omega)]
        have hix : ixA 4 false 1 (.agg #[.int .i64 p.a, .int .i64 p.b, .int .i64 p.c, .int .i64 p.d]) (.int .i64 z) = some (.int .i64 (p.n i)) := by
          subst hz
          match i, hlt with
          | 0, _ => rfl
          | 1, _ => rfl
          | 2, _ => rfl
          | 3, _ => rfl
        rw [hix, ev_some]
        intro K2 step2
        have fails : ¬ okN p i → K2 [ptr q, .agg #[.int .i64 p.a, .int .i64 p.b, .int .i64 p.c, .int .i64 p.d], .int .i64 z, .bool true] H2 := fun hb => by
          apply step2; rw [Br_true]
          have : pMay p = false := by rw [← Bool.not_eq_true, pMay_iff]; exact fun h => hb (h.2 i hlt)
          rw [this] at hQ; exact hQ _ hs
        have goes_on : okN p i → K2 [ptr q, .agg #[.int .i64 p.a, .int .i64 p.b, .int .i64 p.c, .int .i64 p.d], .int .i64 z, .bool false] H2 := fun hb => by
          apply step2; rw [Br_false]
          simp (disch := omega) only [i_add, ev_some]
          refine ih _ (by omega) (i + 1) _ rfl (by omega) (by omega) fun j hj => ?_
          by_cases e : j = i
          · subst e; exact hb
          · exact hpre j (by omega)
        simp only [i_lss, ev_some]
        by_cases h1 : p.n i < 0
        · rw [Br_t h1]; exact fails (fun hb => by unfold okN at hb; omega)
        rw [Br_f h1]
        simp only [i_gtr, ev_some]
        by_cases h3 : 999 < p.n i
        · rw [Br_t h3]; exact fails (fun hb => by unfold okN at hb; omega)
        rw [Br_f h3]
        simp only [fldA_p, hd, ev_some, i_geq]
        by_cases h4 : p.depth ≤ z
        · rw [Br_t h4]
          simp only [i_neq, ev_some]
          by_cases h5 : p.n i = 0
          · rw [show decide (p.n i ≠ 0) = false by simp [h5]]; exact goes_on ⟨by omega, by omega, .inr h5⟩
          · rw [show decide (p.n i ≠ 0) = true by simp [h5]]; exact fails (fun hb => by unfold okN at hb; omega)
        · rw [Br_f h4]; exact goes_on ⟨by omega, by omega, .inl (by omega)⟩
      · rw [Br_f (by omega)]
        have : pMay p = true := pMay_iff.2 ⟨hh, fun j hj => hpre j (by omega)⟩
        rw [this] at hQ; exact hQ _ hs
    exact main _ 0 0 rfl rfl (by omega) (fun j hj => by omega)
  simp only [fldA_p, hd, ev_some, i_lss]
  by_cases h1 : p.depth < 1
  · rw [Br_t h1]; exact bad (by omega)
  · rw [Br_f h1]
    simp only [ev_some, i_gtr]
    by_cases h4 : 4 < p.depth
    · rw [show decide (4 < p.depth) = true by simpa using h4]; exact bad (by omega)
    · rw [show decide (4 < p.depth) = false by simpa using h4]; exact good (by omega)

theorem c_pkey {p : Path} (h : Q (.int .u64 (pKey p : Nat)) H) : T PP 155 [Enc.val p] H Q := by
  refine T.pure (fun Q' hQ => ?_) h
  apply T155; unfold sh155
  rw [pCells_val]
  intro q hq
  have hs := Sub.upd_fresh (.cs (pCells p) 39) hq
  have h2 := upd_same H q (.cs (pCells p) 39)
  generalize upd H q (.cs (pCells p) 39) = H2 at *
  rw [ldn_path0 p h2, ev_some]
  refine c_pmay ?_
  simp only [u_not, ev_some]
  unfold pKey at hQ
  cases hm : pMay p with
  | false => rw [hm] at hQ; simpa using hQ _ hs
  | true =>
    rw [hm, if_pos rfl] at hQ
    rw [show (!true) = false from rfl, Br_false]
    obtain ⟨⟨hd1, hd2⟩, hno⟩ := pMay_iff.1 hm
    have hd : Sl.ld1 H2 (.pointer (some ⟨q, 0 + 4, none⟩)) = some (.int .i64 p.depth) := by rw [ld1_cs h2]; rfl
    have hsl : slP 4 1 (.pointer (some ⟨q, 0 + 0, none⟩)) none (some (.int .i64 p.depth)) none = some (.slice (some ⟨q, 0, none⟩) p.depth.toNat 4) := by
      have hb : bnds 4 4 none (some (.int .i64 p.depth)) none = some (0, p.depth.toNat, 4) := by
        unfold bnds; simp [bnd, show 0 ≤ p.depth by omega, hd2]
      simp only [slP, hb]; simp [add_one]
    simp only [fldA_p, hd, hsl, ev_some, show lenS (.slice (some ⟨q, 0, none⟩) p.depth.toNat 4) = some (.int .i64 (p.depth.toNat : Int)) from rfl]
    intro I stepI
    have main : ∀ (n i : Nat) (z : Int), p.depth.toNat - i = n → z = i → i ≤ p.depth.toNat → I [.int .u64 (pKeyN p i : Nat), .slice (some ⟨q, 0, none⟩) p.depth.toNat 4, .int .i64 (p.depth.toNat : Int), .int .i64 z] H2 := by
      intro n
      induction n using Nat.strongRecOn with
      | _ n ih =>
      intro i z hn' hz hi
      apply stepI
      simp only [i_lss, ev_some]
      by_cases hlt : i < p.depth.toNat
      · rw [Br_t (by omega)]
        have hi4 : i < 4 := by omega
        have hix : ixS 1 (.slice (some ⟨q, 0, none⟩) p.depth.toNat 4) (.int .i64 z) = some (.pointer (some ⟨q, i, none⟩)) := by
          subst hz
          simp only [ixS]; rw [if_pos ⟨by omega, by omega⟩]; simp [add_one]
        have hl : Sl.ld1 H2 (.pointer (some ⟨q, i, none⟩)) = some (.int .i64 (p.n i)) := by rw [ld1_cs h2, pCells_n p hi4]
        obtain ⟨n1, n2, _⟩ := hno i hi4
        have hconv : convV .u64 (.int .i64 (p.n i)) = some (.int .u64 ((p.n i).toNat : Nat)) := by
          have := conv_u (p.n i).toNat (by omega) .i64
          rwa [show (((p.n i).toNat : Nat) : Int) = p.n i by omega] at this ⊢
        have hk := pKeyN_small hm (i := i) (by omega)
        have hk2 := pKeyN_small hm (i := i + 1) (by omega)
        rw [hix, ev_some, hl, ev_some, show (Value.int .u64 1001) = Value.int .u64 ((1001 : Nat) : Int) from rfl, show (Value.int .u64 1) = Value.int .u64 ((1 : Nat) : Int) from rfl, u64_mul, ev_some, hconv, ev_some, u64_add, ev_some, u64_add, ev_some]
        simp (disch := omega) only [i_add, ev_some]
        have := ih _ (by omega) (i + 1) (z + 1) rfl (by omega) (by omega)
        have e : (pKeyN p i * 1001 % 18446744073709551616 + (p.n i).toNat) % 18446744073709551616 + 1 = pKeyN p (i + 1) := by
          simp only [pKeyN] at hk2 ⊢; omega
        rw [e, Nat.mod_eq_of_lt (by omega)]; exact this
      · rw [Br_f (by omega)]
        rw [show p.depth.toNat = i by omega] at hQ
        exact hQ _ hs
    exact main _ 0 0 rfl rfl (by omega)

theorem c_pless {p r : Path} (h : Q (.bool (pLess p r)) H) : T PP 196 [Enc.val p, Enc.val r] H Q := by
  refine T.pure (fun Q' hQ => ?_) h
  apply T196; unfold sh196
  rw [pCells_val, pCells_val]
  intro a ha b hb
  have hab : a ≠ b := by intro e; subst e; rw [upd_same] at hb; cases hb
  have hs : Sub H (upd (upd H a (.cs (pCells p) 39)) b (.cs (pCells r) 39)) := (Sub.upd_fresh _ ha).trans (Sub.upd_fresh _ hb)
  have h1 : (upd (upd H a (.cs (pCells p) 39)) b (.cs (pCells r) 39)) a = some (.cs (pCells p) 39) := by rw [upd_ne hab, upd_same]
  have h2 : (upd (upd H a (.cs (pCells p) 39)) b (.cs (pCells r) 39)) b = some (.cs (pCells r) 39) := upd_same _ _ _
  generalize (upd (upd H a (.cs (pCells p) 39)) b (.cs (pCells r) 39)) = H2 at *
  intro K step
  have d1 : Sl.ld1 H2 (.pointer (some ⟨a, 0 + 4, none⟩)) = some (.int .i64 p.depth) := by rw [ld1_cs h1]; rfl
  have d2 : Sl.ld1 H2 (.pointer (some ⟨b, 0 + 4, none⟩)) = some (.int .i64 r.depth) := by rw [ld1_cs h2]; rfl
  have bad : (pMay p && pMay r) = false → K [ptr a, ptr b, .bool true] H2 := fun hh => by
    apply step; rw [Br_true]
    unfold pLess at hQ; rw [hh, Bool.false_and] at hQ; exact hQ _ hs
  have good : pMay p = true → pMay r = true → K [ptr a, ptr b, .bool false] H2 := fun hp hr => by
    apply step; rw [Br_false]
    unfold pLess at hQ; rw [hp, hr, Bool.true_and, Bool.true_and] at hQ
    obtain ⟨⟨p1, p2⟩, _⟩ := pMay_iff.1 hp
    obtain ⟨⟨r1, r2⟩, _⟩ := pMay_iff.1 hr
    have hmin : minV (.int .i64 p.depth) (.int .i64 r.depth) = some (.int .i64 (min p.depth r.depth)) := by
      simp only [minV]; congr 2
      by_cases h : r.depth < p.depth
      · rw [if_pos h]; omega
      · rw [if_neg h]; omega
    simp only [fldA_p, d1, d2, hmin, ev_some]
    intro I stepI
    have main : ∀ (n i : Nat) (z : Int), (min p.depth r.depth).toNat - i = n → z = i → i ≤ (min p.depth r.depth).toNat → (∀ H', Sub H H' → Q' (.bool (lessN p r n i)) H') → I [ptr a, ptr b, .int .i64 (min p.depth r.depth), .int .i64 z] H2 := by
      intro n
      induction n with
      | zero =>
        intro i z hn hz hi hq
        apply stepI
        simp only [i_lss, ev_some]
        rw [Br_f (by omega)]
        simp only [fldA_p, d1, d2, ev_some, i_lss]
        exact hq _ hs
      | succ n ih =>
        intro i z hn hz hi hq
        apply stepI
        simp only [i_lss, ev_some]
        rw [Br_t (by omega)]
        have hi4 : i < 4 := by omega
        have hix : ∀ x, ixP 4 1 (.pointer (some ⟨x, 0 + 0, none⟩)) (.int .i64 z) = some (.pointer (some ⟨x, i, none⟩)) := by
          intro x; subst hz
          simp only [ixP]; rw [if_pos ⟨by omega, by omega⟩]; simp [add_one]
        have l1 : Sl.ld1 H2 (.pointer (some ⟨a, i, none⟩)) = some (.int .i64 (p.n i)) := by rw [ld1_cs h1, pCells_n p hi4]
        have l2 : Sl.ld1 H2 (.pointer (some ⟨b, i, none⟩)) = some (.int .i64 (r.n i)) := by rw [ld1_cs h2, pCells_n r hi4]
        simp only [fldA_p, hix, l1, l2, ev_some, i_neq]
        unfold lessN at hq
        by_cases hne : p.n i ≠ r.n i
        · rw [Br_t hne]
          simp only [if_pos hne] at hq
          simp only [ev_some, i_lss]
          exact hq _ hs
        · rw [Br_f hne]
          simp only [if_neg hne] at hq
          simp (disch := omega) only [i_add, ev_some]
          exact ih (i + 1) _ (by omega) (by omega) (by omega) hq
    exact main _ 0 0 (by omega) rfl (by omega) hQ
  rw [ldn_path0 p h1, ev_some]
  refine c_pmay ?_
  simp only [u_not, ev_some]
  cases hp : pMay p with
  | false => rw [show (!false) = true from rfl, Br_true]; exact bad (by rw [hp]; rfl)
  | true =>
    rw [show (!true) = false from rfl, Br_false, ldn_path0 r h2, ev_some]
    refine c_pmay ?_
    simp only [u_not, ev_some]
    cases hr : pMay r with
    | false => exact bad (by rw [hr, Bool.and_false])
    | true => exact good hp hr
end
end Go.Sl
namespace Go.Sl
open Go Go.Proofs

structure Head where
  p : Path
  q : Nat
  deriving Inhabited, DecidableEq
instance : Enc Head where
  val e := .agg #[.int .i64 e.p.a, .int .i64 e.p.b, .int .i64 e.p.c, .int .i64 e.p.d, .int .i64 e.p.depth, ptr e.q]
  sz := 6
  ag := true
  size _ := rfl
  pos := by decide
  flat _ := rfl
  agg _ e := ⟨_, rfl⟩
  one h := by cases h
def zHead : Value := .agg #[.int .i64 0, .int .i64 0, .int .i64 0, .int .i64 0, .int .i64 0, .pointer none]
/-- A place: used, or the next free one behind it. -/
structure Place where
  x : Option Head
  nx : Int
  deriving Inhabited, DecidableEq
def hVal : Option Head → Value
  | some h => Enc.val h
  | none => zHead
instance : Enc Place where
  val e := match e.x with
    | some h => .agg #[.int .i64 h.p.a, .int .i64 h.p.b, .int .i64 h.p.c, .int .i64 h.p.d, .int .i64 h.p.depth, ptr h.q, .bool true, .int .i64 e.nx]
    | none => .agg #[.int .i64 0, .int .i64 0, .int .i64 0, .int .i64 0, .int .i64 0, .pointer none, .bool false, .int .i64 e.nx]
  sz := 8
  ag := true
  size e := by cases e.x <;> rfl
  pos := by decide
  flat e := by cases e.x <;> rfl
  agg _ e := by cases e.x <;> exact ⟨_, rfl⟩
  one h := by cases h

/-- The free places, one behind the other. -/
def Chain (ps : List Place) : List Nat → Int → Prop
  | [], f => f = ps.length
  | i :: r, f => f = i ∧ ∃ nx, ps[i]? = some ⟨none, nx⟩ ∧ Chain ps r nx

/-- An arena: its places, the free ones. -/
def Arn (S : Nat → Prop) (H : Heap) (a : Nat) (pl : List (Option Head)) (fr : List Nat) : Prop :=
  ∃ v f ps, S a ∧ H a = some (.cs [v, .int .i64 f, .int .i64 ((pl.length : Int) - fr.length)] 246) ∧ Own H v ps ∧ ps.map (·.x) = pl ∧ Chain ps fr f ∧ fr.Nodup ∧
    (∀ b ∈ blk v, S b ∧ b ≠ a) ∧ (∀ b, S b → H b ≠ none) ∧ pl.length ≤ 4096 ∧ fr.length ≤ pl.length

theorem Chain.keep {ps : List Place} {i : Nat} {y : Place} : ∀ {r : List Nat} {f : Int}, Chain ps r f → i ∉ r → Chain (ps.set i y) r f
  | [], f, h, _ => by simpa [Chain] using h
  | j :: r, f, h, hn => by
    obtain ⟨rfl, nx, h1, h2⟩ := h
    simp only [List.mem_cons, not_or] at hn
    exact ⟨rfl, nx, by rw [List.getElem?_set_ne hn.1]; exact h1, h2.keep hn.2⟩

theorem Arn.keep {S : Nat → Prop} {H H' : Heap} {a : Nat} {pl : List (Option Head)} {fr : List Nat} (h : Arn S H a pl fr) (s : ∀ b k, S b → H b = some k → H' b = some k) : Arn S H' a pl fr := by
  obtain ⟨v, f, ps, a1, a2, a3, a4, a5, a6, a7, a8, a9⟩ := h
  refine ⟨v, f, ps, a1, s a _ a1 a2, ?_, a4, a5, a6, a7, fun b hb => ?_, a9⟩
  · rcases a3 with h | ⟨b, off, cap, c, e, e1, e2, e3, e4⟩
    · exact .inl h
    · exact .inr ⟨b, off, cap, c, e, e1, e2, s b _ (a7 b (by rw [e1]; simp [blk])).1 e3, e4⟩
  · cases hh : H b with
    | none => exact absurd hh (a8 b hb)
    | some k => rw [s b k hb hh]; simp

theorem minmax (n : Int) (m : Int) (_h : 0 ≤ m) : ∃ k : Nat, (k : Int) = min (max n 0) m ∧ (k : Int) ≤ m := by
  refine ⟨(min (max n 0) m).toNat, ?_, ?_⟩ <;> omega

section
variable {H : Heap} {Q : Value → Heap → Prop} {S : Nat → Prop} {a : Nat} {pl : List (Option Head)} {fr : List Nat}

theorem max_i (a b : Int) : maxV (.int .i64 a) (.int .i64 b) = some (.int .i64 (max a b)) := by
  simp only [maxV]; congr 2
  by_cases h : b > a
  · rw [if_pos h]; omega
  · rw [if_neg h]; omega
theorem min_i (a b : Int) : minV (.int .i64 a) (.int .i64 b) = some (.int .i64 (min a b)) := by
  simp only [minV]; congr 2
  by_cases h : b < a
  · rw [if_pos h]; omega
  · rw [if_neg h]; omega

theorem zRow_enc {α : Type} [Enc α] (n : Nat) (x : α) : zRow n (Enc.val x).cells.toList = enc (List.replicate n x) := by
  induction n with
  | zero => rfl
  | succ n ih => rw [List.replicate_succ, enc_cons, ← ih]; rfl

theorem chain_range (ps : List Place) (n : Nat) (hn : ps.length = n) (h : ∀ i, i < n → ps[i]? = some ⟨none, (i : Int) + 1⟩) : ∀ (m i : Nat), i + m = n → Chain ps (List.range' i m) i := by
  intro m
  induction m with
  | zero => intro i hi; simp only [List.range', Chain]; omega
  | succ m ih =>
    intro i hi
    refine ⟨rfl, (i : Int) + 1, h i (by omega), ?_⟩
    have := ih (i + 1) (by omega)
    exact this

theorem c_anew {n : Int} (h : ∀ a S' H' (k : Nat), (k : Int) = min (max n 0) 4096 → Arn S' H' a (List.replicate k none) (List.range k) → Sub H H' → (∀ b, S' b → H b = none) → Q (ptr a) H') : T PP 92 [.int .i64 n] H Q := by
  apply T92; unfold sh92
  obtain ⟨k, hk, hk2⟩ := minmax n 4096 (by decide)
  rw [max_i, ev_some, min_i, ev_some, ← hk]
  refine ⟨⟨by omega, by omega, by omega, by omega⟩, fun b hb => ?_⟩
  rw [show ((k : Int)).toNat = k by omega]
  have hz : zRow k [.int .i64 0, .int .i64 0, .int .i64 0, .int .i64 0, .int .i64 0, .pointer none, .bool false, .int .i64 0] = enc (List.replicate k (⟨none, 0⟩ : Place)) := zRow_enc k (⟨none, 0⟩ : Place)
  rw [hz]
  have o1 : Own (upd H b (.cs (enc (List.replicate k (⟨none, 0⟩ : Place))) 248)) (.slice (some ⟨b, 0, none⟩) k k) (List.replicate k (⟨none, 0⟩ : Place)) := by
    have := own_new (H := H) (b := b) (e := 248) (List.replicate k (⟨none, 0⟩ : Place))
    simpa using this
  have s1 := Sub.upd_fresh (.cs (enc (List.replicate k (⟨none, 0⟩ : Place))) 248) hb
  have kb := upd_same H b (.cs (enc (List.replicate k (⟨none, 0⟩ : Place))) 248)
  generalize upd H b (.cs (enc (List.replicate k (⟨none, 0⟩ : Place))) 248) = H1 at *
  refine ev_iff.2 ⟨.agg #[.slice (some ⟨b, 0, none⟩) k k, .int .i64 0, .int .i64 0], rfl, fun a ha => ?_⟩
  have hab : a ≠ b := fun e => by subst e; rw [kb] at ha; cases ha
  have haH : H a = none := by
    cases hh : H a with
    | none => rfl
    | some k => rw [s1 a k hh] at ha; cases ha
  have s2 := Sub.upd_fresh (.cs [.slice (some ⟨b, 0, none⟩) k k, .int .i64 0, .int .i64 0] 246) ha
  have h2 := upd_same H1 a (.cs [.slice (some ⟨b, 0, none⟩) k k, .int .i64 0, .int .i64 0] 246)
  show ev (nilV (ptr a)) _
  simp only [Value.cells] at *
  generalize upd H1 a (.cs [.slice (some ⟨b, 0, none⟩) k k, .int .i64 0, .int .i64 0] 246) = H2 at *
  simp only [nilV_p, fldA_p, Nat.zero_add, ld1_cs h2, List.getElem?_cons_zero, ev_some, show lenS (.slice (some ⟨b, 0, none⟩) k k) = some (.int .i64 (k : Int)) from rfl]
  intro I stepI
  have main : ∀ (m i : Nat) (z : Int) (ps : List Place) (H' : Heap), k - i = m → z = i → i ≤ k → ps.length = k → (∀ j, j < i → ps[j]? = some ⟨none, (j : Int) + 1⟩) → (∀ j, i ≤ j → j < k → ps[j]? = some ⟨none, 0⟩) →
      Own H' (.slice (some ⟨b, 0, none⟩) k k) ps → H' a = some (.cs [.slice (some ⟨b, 0, none⟩) k k, .int .i64 0, .int .i64 0] 246) → H' b ≠ none → Sub H H' → I [ptr a, .int .i64 (k : Int), .int .i64 z] H' := by
    intro m
    induction m using Nat.strongRecOn with
    | _ m ih =>
    intro i z ps H' hm hz hi hl hlo hhi o ha' hb' hs
    apply stepI
    simp only [i_lss, ev_some]
    by_cases hlt : i < k
    · rw [Br_t (by omega)]
      have e0 : z.toNat = i := by omega
      simp (disch := omega) only [nilV_p, fldA_p, Nat.zero_add, ld1_cs ha', List.getElem?_cons_zero, ev_some, i_add, o.slc.ixi (n := 8) rfl, e0, o.slc.fldi (n := 8) rfl (i := i) (by omega) 7]
      refine o.stp (n := 8) rfl (hhi i (Nat.le_refl _) hlt) (⟨none, z + 1⟩ : Place) (m := 1) rfl rfl (by decide) rfl fun H3 o3 c3 => ?_
      refine ih _ (by omega) (i + 1) _ (ps.set i ⟨none, z + 1⟩) H3 rfl (by omega) (by omega) (by simpa using hl) (fun j hj => ?_) (fun j h1 h2 => ?_) o3 (c3 a _ ha' (by simpa [blk] using hab)) ?_ (hs.chg c3 fun b' hb'' => ?_)
      · by_cases e : j = i
        · subst e; rw [List.getElem?_set_self (by omega), hz]
        · rw [List.getElem?_set_ne (Ne.symm e)]; exact hlo j (by omega)
      · rw [List.getElem?_set_ne (by omega)]; exact hhi j (by omega) h2
      · rcases o3 with ⟨e3, _⟩ | ⟨b', off, cap, c, e', e1, _, e3, _⟩
        · have := congrArg List.length e3; rw [List.length_set, List.length_nil] at this; omega
        · cases e1; rw [e3]; simp
      · simp [blk] at hb''; subst hb''; exact hb
    · rw [Br_f (by omega)]
      have hik : i = k := by omega
      subst hik
      refine h a (fun x => x = a ∨ x = b) H' i hk ⟨_, 0, ps, .inl rfl, ?_, o, ?_, ?_, List.nodup_range, ?_, ?_, ?_, ?_⟩ hs ?_
      · rw [ha', List.length_replicate, List.length_range]; simp
      · apply List.ext_getElem?
        intro j
        rw [List.getElem?_map]
        by_cases hj : j < i
        · rw [hlo j hj]; simp [hj]
        · rw [List.getElem?_eq_none (by omega)]; simp [hj]
      · have := chain_range ps i hl hlo i 0 (by omega)
        rw [List.range_eq_range']; exact this
      · intro b' hb''; simp [blk] at hb''; subst hb''; exact ⟨.inr rfl, Ne.symm hab⟩
      · rintro x (rfl | rfl)
        · rw [ha']; simp
        · exact hb'
      · simp; omega
      · simp
      · rintro x (rfl | rfl)
        · exact haH
        · exact hb
  refine main _ 0 0 _ H2 rfl rfl (Nat.zero_le _) List.length_replicate (fun j hj => by omega) (fun j _ hj => by simp [hj]) (o1.sub s2) h2 ?_ (s1.trans s2)
  rw [s2 b _ kb]; simp

theorem c_aleft (ha : Arn S H a pl fr) (h : Q (.int .i64 (fr.length : Int)) H) : T PP 152 [ptr a] H Q := by
  apply T152; unfold sh152
  obtain ⟨v, f, ps, a1, a2, a3, a4, a5, a6, a7, a8, a9, a10⟩ := ha
  have hl : ps.length = pl.length := by rw [← a4, List.length_map]
  simp (disch := omega) only [eqP_nil, notB_f, ev_some, Br_false, nilV_p, fldA_p, Nat.zero_add, ld1_cs a2, List.getElem?_cons_zero, List.getElem?_cons_succ, a3.slc.lenS, i_sub, hl]
  rw [show ((pl.length : Int) - ((pl.length : Int) - fr.length)) = fr.length by omega]; exact h

theorem c_ahas (ha : Arn S H a pl fr) {i : Int} (h : Q (.bool (decide (0 ≤ i) && ((pl[i.toNat]?).getD none).isSome)) H) : T PP 354 [ptr a, .int .i64 i] H Q := by
  apply T354; unfold sh354
  obtain ⟨v, f, ps, a1, a2, a3, a4, a5, a6, a7, a8, a9, a10⟩ := ha
  have hl : ps.length = pl.length := by rw [← a4, List.length_map]
  simp only [eqP_nil, notB_t, ev_some, Bool.not_false, Br_true, i_geq]
  by_cases h0 : 0 ≤ i
  · rw [Br_t h0]
    simp only [nilV_p, fldA_p, Nat.zero_add, ld1_cs a2, List.getElem?_cons_zero, ev_some, a3.slc.lenS, i_lss]
    by_cases h1 : i < (ps.length : Int)
    · rw [Br_t h1]
      obtain ⟨x, hx⟩ : ∃ x, ps[i.toNat]? = some x := ⟨ps[i.toNat]'(by omega), List.getElem?_eq_getElem (by omega)⟩
      have hu : (Enc.val x).cells[6]? = some (.bool x.x.isSome) := by
        obtain ⟨o, nx⟩ := x
        cases o <;> rfl
      simp (disch := omega) only [a3.slc.ixi (n := 8) rfl, ev_some, a3.slc.fldi (n := 8) rfl (i := i.toNat) (by omega) 6, a3.slc.ldfi (n := 8) rfl hx hu]
      rw [← a4, List.getElem?_map, hx, decide_eq_true h0] at h
      simpa using h
    · rw [Br_f h1]
      rw [List.getElem?_eq_none (by omega)] at h; simpa using h
  · rw [Br_f h0]
    rw [decide_eq_false h0] at h; simpa using h

def aGet (pl : List (Option Head)) (i : Int) : Option Head := if 0 ≤ i then (pl[i.toNat]?).getD none else none
theorem aGet_has (pl : List (Option Head)) (i : Int) : (decide (0 ≤ i) && ((pl[i.toNat]?).getD none).isSome) = (aGet pl i).isSome := by
  unfold aGet
  by_cases h : 0 ≤ i
  · simp [h]
  · simp [h]

theorem c_aget (ha : Arn S H a pl fr) {i : Int} (h : Q (.tuple #[hVal (aGet pl i), .bool (aGet pl i).isSome]) H) : T PP 257 [ptr a, .int .i64 i] H Q := by
  refine T.pure (fun Q' hQ => ?_) h
  apply T257; unfold sh257
  intro p hp
  have s1 := Sub.upd_fresh (.cs [.int .i64 0, .int .i64 0, .int .i64 0, .int .i64 0, .int .i64 0, .pointer none] 138) hp
  have h1 := upd_same H p (.cs [.int .i64 0, .int .i64 0, .int .i64 0, .int .i64 0, .int .i64 0, .pointer none] 138)
  generalize upd H p (.cs [.int .i64 0, .int .i64 0, .int .i64 0, .int .i64 0, .int .i64 0, .pointer none] 138) = H1 at *
  have ha1 := ha.keep fun b k _ hk => s1 b k hk
  refine c_ahas ha1 ?_
  rw [aGet_has]
  simp only [u_not, ev_some]
  have stp : ∀ (H2 : Heap) (x : Option Head), Sub H H2 → H2 p = some (.cs [.int .i64 0, .int .i64 0, .int .i64 0, .int .i64 0, .int .i64 0, .pointer none] 138) →
      ∃ H3, Sl.sto 6 H2 (ptr p) (hVal x) = some H3 ∧ Sub H H3 ∧ Sl.ldn 6 H3 (ptr p) = some (hVal x) := by
    intro H2 x s2 h2
    have e1 : Sl.sto 6 H2 (ptr p) (hVal x) = some (upd H2 p (.cs (hVal x).cells.toList 138)) := by
      cases x <;> simp [Sl.sto, h2, hVal, zHead, Enc.val, Value.cells, Sl.flat, Value.oneCell', over]
    refine ⟨_, e1, s2.chg (Chg_upd _) (by simpa using hp), ?_⟩
    cases x <;> simp [Sl.ldn, upd_same, Sl.rdn, Blk.rd, hVal, zHead, Enc.val, Value.cells]
  cases hg : aGet pl i with
  | none =>
    rw [hg] at hQ
    simp only [Option.isSome_none, Bool.not_false, Br_true]
    intro r hr
    have s2 := Sub.upd_fresh (.cs [.int .i64 0, .int .i64 0, .int .i64 0, .int .i64 0, .int .i64 0, .pointer none] 138) hr
    have h2 := upd_same H1 r (.cs [.int .i64 0, .int .i64 0, .int .i64 0, .int .i64 0, .int .i64 0, .pointer none] 138)
    have h3 := s2 p _ h1
    generalize upd H1 r (.cs [.int .i64 0, .int .i64 0, .int .i64 0, .int .i64 0, .int .i64 0, .pointer none] 138) = H2 at *
    have hz : Sl.ldn 6 H2 (ptr r) = some (hVal none) := by simp [Sl.ldn, h2, Sl.rdn, Blk.rd, hVal, zHead]
    rw [hz, ev_some]
    obtain ⟨H3, e1, e2, e3⟩ := stp H2 none (s1.trans s2) h3
    rw [e1, ev_some, e3, ev_some]
    exact hQ H3 e2
  | some x =>
    rw [hg] at hQ
    simp only [Option.isSome_some, Bool.not_true, Br_false]
    obtain ⟨v, f, ps, a1, a2, a3, a4, a5, a6, a7, a8, a9, a10⟩ := ha1
    unfold aGet at hg
    split at hg
    · rename_i h0
      obtain ⟨y, hy, hyx⟩ : ∃ y, ps[i.toNat]? = some y ∧ y.x = some x := by
        rw [← a4, List.getElem?_map] at hg
        cases hh : ps[i.toNat]? with
        | none => rw [hh] at hg; cases hg
        | some y => rw [hh] at hg; exact ⟨y, rfl, by simpa using hg⟩
      have hlt := (List.getElem?_eq_some_iff.1 hy).1
      have hl : Sl.ldn 6 H1 (elf v 8 i.toNat 0) = some (hVal (some x)) := by
        obtain ⟨o, nx⟩ := y
        simp only at hyx; subst hyx
        refine a3.slc.ldp (n := 8) rfl hy (off := 0) (m := 6) rfl (fun j hj => ?_) (by decide)
        match j, hj with
        | 0, _ => rfl
        | 1, _ => rfl
        | 2, _ => rfl
        | 3, _ => rfl
        | 4, _ => rfl
        | 5, _ => rfl
      simp (disch := omega) only [nilV_p, fldA_p, Nat.zero_add, ld1_cs a2, List.getElem?_cons_zero, ev_some, a3.slc.ixi (n := 8) rfl, a3.slc.fldi (n := 8) rfl hlt 0, hl]
      obtain ⟨H3, e1, e2, e3⟩ := stp H1 (some x) s1 h1
      rw [e1, ev_some, e3, ev_some]
      exact hQ H3 e2
    · cases hg

theorem c_atake (ha : Arn S H a pl fr) (x : Head) (h0 : fr = [] → ∀ H', Sub H H' → Q (.tuple #[.int .i64 0, .bool false]) H')
    (h : ∀ i r H', fr = i :: r → Arn S H' a (pl.set i (some x)) r → pl[i]? = some none → (∀ b k, H b = some k → ¬ S b → H' b = some k) → Q (.tuple #[.int .i64 (i : Int), .bool true]) H') : T PP 153 [ptr a, Enc.val x] H Q := by
  apply T153; unfold sh153
  intro p hp
  have s1 := Sub.upd_fresh (.cs (Enc.val x).cells.toList 138) hp
  have h1 : upd H p (.cs (Enc.val x).cells.toList 138) p = some (.cs (Enc.val x).cells.toList 138) := upd_same _ _ _
  generalize upd H p (.cs (Enc.val x).cells.toList 138) = H1 at *
  have ha1 := ha.keep fun b k _ hk => s1 b k hk
  refine c_aleft ha1 ?_
  simp only [i_eql, ev_some]
  cases fr with
  | nil => rw [Br_t (by simp)]; exact h0 rfl H1 s1
  | cons i r =>
    rw [Br_f (by simp; omega)]
    obtain ⟨v, f, ps, a1, a2, a3, a4, a5, a6, a7, a8, a9, a10⟩ := ha1
    obtain ⟨rfl, nx, hi, hch⟩ := a5
    obtain ⟨hir, hnd⟩ := List.nodup_cons.1 a6
    have hl : ps.length = pl.length := by rw [← a4, List.length_map]
    have hlt := (List.getElem?_eq_some_iff.1 hi).1
    have hnone : pl[i]? = some none := by rw [← a4, List.getElem?_map, hi]; rfl
    have hpa : p ≠ a := fun e => by
      have := ha; obtain ⟨_, _, _, b1, b2, _⟩ := this
      subst e; rw [hp] at b2; cases b2
    have hpv : p ∉ blk v := fun hb => by
      have := ha; obtain ⟨v', f', ps', b1, b2, b3, b4, b5, b6, b7, b8, _⟩ := this
      have e := s1 a _ b2; rw [a2] at e; cases e
      exact b8 p (b7 p hb).1 hp
    have l0 : ∀ j, Sl.ld1 H1 (.pointer (some ⟨a, j, none⟩)) = ([v, .int .i64 (i : Int), .int .i64 ((pl.length : Int) - (i :: r).length)] : List Value)[j]? := fun j => ld1_cs a2
    simp (disch := omega) only [nilV_p, fldA_p, Nat.zero_add, l0, List.getElem?_cons_zero, List.getElem?_cons_succ, ev_some, a3.slc.ixi (n := 8) rfl, Int.toNat_natCast, a3.slc.fldi (n := 8) rfl hlt 7, a3.slc.ldfi (n := 8) rfl hi (off := 7) (u := .int .i64 nx) rfl]
    rw [sto_cs a2 _ rfl rfl (by simp), ev_some]
    have e2 := upd_same H1 a (.cs (([v, .int .i64 (i : Int), .int .i64 ((pl.length : Int) - (i :: r).length)] : List Value).set 1 (.int .i64 nx)) 246)
    have c2 : Chg [a] H1 _ := Chg_upd (H := H1) (b := a) (.cs (([v, .int .i64 (i : Int), .int .i64 ((pl.length : Int) - (i :: r).length)] : List Value).set 1 (.int .i64 nx)) 246)
    generalize upd H1 a (.cs (([v, .int .i64 (i : Int), .int .i64 ((pl.length : Int) - (i :: r).length)] : List Value).set 1 (.int .i64 nx)) 246) = H2 at *
    have o2 : Own H2 v ps := a3.chg c2 fun b hb => by simpa using (a7 b hb).2
    have p2 := c2 p _ h1 (by simpa using hpa)
    have l6 : Sl.ldn 6 H2 (ptr p) = some (Enc.val x) := by simp [Sl.ldn, p2, Sl.rdn, Blk.rd, Enc.val, Value.cells]
    have bl : bldV [.int .i64 0, .int .i64 0, .int .i64 0, .int .i64 0, .int .i64 0, .pointer none, .bool false, .int .i64 0] [(0, 6, Enc.val x), (6, 1, .bool true)] = some (Enc.val (⟨some x, 0⟩ : Place)) := rfl
    simp (disch := omega) only [ld1_cs e2, List.set_cons_zero, List.set_cons_succ, List.getElem?_cons_zero, ev_some, l6, bl, o2.slc.ixi (n := 8) rfl, Int.toNat_natCast]
    refine o2.stl (n := 8) rfl hlt (⟨some x, 0⟩ : Place) fun H3 o3 c3 => ?_
    have e3 := c3 a _ e2 fun hb => (a7 a hb).2 rfl
    simp (disch := omega) only [ld1_cs e3, List.set_cons_zero, List.set_cons_succ, List.getElem?_cons_zero, List.getElem?_cons_succ, ev_some]
    have hlen : (i :: r).length = r.length + 1 := rfl
    rw [i_add (by simp only [hlen] at a10 ⊢; omega), ev_some, sto_cs e3 _ rfl rfl (by simp), ev_some]
    refine h i r _ rfl ⟨v, nx, ps.set i ⟨some x, 0⟩, a1, upd_same _ _ _ |>.trans ?_, ?_, ?_, hch.keep hir, hnd, a7, fun b hb => ?_, by simpa using a9, ?_⟩ hnone fun b k hk hnS => ?_
    · simp only [List.set_cons_zero, List.set_cons_succ, List.length_set, hlen]; rw [show ((pl.length : Int) - ((r.length + 1 : Nat) : Int) + 1) = (pl.length : Int) - r.length by omega]
    · exact o3.chg (Chg_upd _) fun b hb => by simpa using (a7 b hb).2
    · rw [← a4, List.map_set]
    · by_cases eb : b = a
      · subst eb; rw [upd_same]; simp
      · rw [upd_ne eb]
        by_cases hbv : b ∈ blk v
        · rcases o3 with ⟨e0, _⟩ | ⟨b', off, cap, c, e', e1, _, e5, _⟩
          · have := congrArg List.length e0; rw [List.length_set, List.length_nil] at this; omega
          · rw [e1] at hbv; simp [blk] at hbv; subst hbv; rw [e5]; simp
        · cases hh : H1 b with
          | none => exact absurd hh (a8 b hb)
          | some k => rw [c3 b k (c2 b k hh (by simpa using eb)) hbv]; simp
    · have h5 := a10; rw [List.length_cons] at h5; rw [List.length_set]; omega
    · have na : b ≠ a := fun e => hnS (by rw [e]; exact a1)
      rw [upd_ne na]
      exact c3 b k (c2 b k (s1 b k hk) (by simpa using na)) fun hb => hnS (a7 b hb).1
end
end Go.Sl
