/- Proved here: slices that read as lists, append, copy, clear and insert over them, for every program. -/
import Derived.Test.YtjneoighgbggcaaGreatA1
import Derived.Sort.AssemblyPlain
import Derived.Lib.Overlaps
namespace Go.Sl
open Go

/-- How elements lie in memory. -/
class Enc (α : Type) where
  val : α → Value
  sz : Nat
  ag : Bool
  size : ∀ x, (val x).cells.size = sz
  pos : 0 < sz
  flat : ∀ x, Sl.flat (val x).cells.toList = true
  agg : ag = true → ∀ x, ∃ cs, val x = .agg cs
  one : ag = false → ∀ x, (val x).cells = #[val x]

def enc {α : Type} [Enc α] (l : List α) : List Value := l.flatMap fun x => (Enc.val x).cells.toList

theorem enc_length {α : Type} [Enc α] (l : List α) : (enc l).length = l.length * Enc.sz α := by
  induction l with
  | nil => simp [enc]
  | cons x l ih =>
    simp only [enc, List.flatMap_cons, List.length_append, Array.length_toList, Enc.size, List.length_cons]
    have := ih; simp only [enc] at this; rw [this, Nat.succ_mul, Nat.add_comm]
theorem enc_append {α : Type} [Enc α] (l m : List α) : enc (l ++ m) = enc l ++ enc m := by simp [enc]
@[simp] theorem enc_nil {α : Type} [Enc α] : enc ([] : List α) = [] := rfl
theorem enc_cons {α : Type} [Enc α] (x : α) (l : List α) : enc (x :: l) = (Enc.val x).cells.toList ++ enc l := rfl
theorem enc_one {α : Type} [Enc α] (x : α) : enc [x] = (Enc.val x).cells.toList := by simp [enc]
theorem enc_flat {α : Type} [Enc α] (l : List α) : Sl.flat (enc l) = true := by
  induction l with
  | nil => rfl
  | cons x l ih =>
    rw [enc_cons]
    have := Enc.flat x
    simp only [Sl.flat, List.all_append, Bool.and_eq_true] at this ih ⊢
    exact ⟨this, ih⟩
theorem enc_get {α : Type} [Enc α] {l : List α} {i : Nat} {x : α} (h : l[i]? = some x) (j : Nat) (hj : j < Enc.sz α) : (enc l)[i * Enc.sz α + j]? = (Enc.val x).cells[j]? := by
  induction l generalizing i with
  | nil => simp at h
  | cons y l ih =>
    rw [enc_cons]
    cases i with
    | zero =>
      simp at h; subst h
      rw [List.getElem?_append_left (by simp [Enc.size, hj])]
      simp
    | succ i =>
      simp at h
      rw [List.getElem?_append_right (by simp [Enc.size, Nat.succ_mul]; omega)]
      have : (i + 1) * Enc.sz α + j - (Enc.val y).cells.toList.length = i * Enc.sz α + j := by
        simp [Enc.size, Nat.succ_mul]; omega
      rw [this]; exact ih h

def blk : Value → List Nat
  | .slice (some a) _ _ => [a.block]
  | .pointer (some a) => [a.block]
  | .map (some b) => [b]
  | _ => []

/-- It reads as this list. -/
def Slc {α : Type} [Enc α] (H : Heap) (v : Value) (l : List α) : Prop :=
  (l = [] ∧ ∃ a c, v = .slice a 0 c) ∨
  ∃ b off cap k, v = .slice (some ⟨b, off, none⟩) l.length cap ∧ l.length ≤ cap ∧ H b = some k ∧ ∀ j u, (enc l)[j]? = some u → k.rd (off + j) = some u

/-- It reads as this list, and nobody else has what lies behind it: it may be written and appended to. -/
def Own {α : Type} [Enc α] (H : Heap) (v : Value) (l : List α) : Prop :=
  (l = [] ∧ ∃ a, v = .slice a 0 0) ∨
  ∃ b off cap c e, v = .slice (some ⟨b, off, none⟩) l.length cap ∧ l.length ≤ cap ∧ H b = some (.cs c e) ∧ off + cap * Enc.sz α ≤ c.length ∧ (c.drop off).take (l.length * Enc.sz α) = enc l

/-- All but these blocks is as it was. -/
def Chg (bs : List Nat) (H H' : Heap) : Prop := ∀ b k, H b = some k → b ∉ bs → H' b = some k
theorem Chg.of_sub {H H' : Heap} (bs : List Nat) (h : Sub H H') : Chg bs H H' := fun b k hb _ => h b k hb
theorem Chg.trans {bs : List Nat} {A B C : Heap} (h : Chg bs A B) (k : Chg bs B C) : Chg bs A C := fun b x hb hn => k b x (h b x hb hn) hn
theorem Chg.sub {H H' : Heap} (h : Chg [] H H') : Sub H H' := fun b k hb => h b k hb (by simp)
theorem Chg.mono {bs bs' : List Nat} {H H' : Heap} (h : Chg bs H H') (s : ∀ b ∈ bs, b ∈ bs') : Chg bs' H H' := fun b k hb hn => h b k hb fun hm => hn (s b hm)
/-- What is changed was not there at the begin. -/
theorem Sub.chg {bs : List Nat} {A B C : Heap} (s : Sub A B) (h : Chg bs B C) (hn : ∀ b ∈ bs, A b = none) : Sub A C := fun b k hb => h b k (s b k hb) fun hm => by rw [hn b hm] at hb; cases hb
theorem Chg_upd {H : Heap} {b : Nat} (k : Blk) : Chg [b] H (upd H b k) := fun c x hc hn => by rw [upd_ne (by simpa using hn)]; exact hc

section
variable {α : Type} [Enc α] {H H' : Heap} {v : Value} {l : List α}

theorem Own.slc (h : Own H v l) : Slc H v l := by
  rcases h with ⟨rfl, a, rfl⟩ | ⟨b, off, cap, c, e, rfl, h1, h2, h3, h4⟩
  · exact .inl ⟨rfl, a, 0, rfl⟩
  · refine .inr ⟨b, off, cap, _, rfl, h1, h2, fun j u hu => ?_⟩
    rw [← h4, List.getElem?_take] at hu
    split at hu
    · simpa [Blk.rd] using hu
    · cases hu
theorem Slc.sub (h : Slc H v l) (s : Sub H H') : Slc H' v l := h.imp id fun ⟨b, off, cap, k, a1, a2, a3, a4⟩ => ⟨b, off, cap, k, a1, a2, s b k a3, a4⟩
theorem Own.sub (h : Own H v l) (s : Sub H H') : Own H' v l := h.imp id fun ⟨b, off, cap, c, e, a1, a2, a3, a4⟩ => ⟨b, off, cap, c, e, a1, a2, s b _ a3, a4⟩
theorem Slc.chg (h : Slc H v l) {bs : List Nat} (s : Chg bs H H') (hn : ∀ b ∈ blk v, b ∉ bs) : Slc H' v l :=
  h.imp id fun ⟨b, off, cap, k, a1, a2, a3, a4⟩ => ⟨b, off, cap, k, a1, a2, s b k a3 (hn b (by rw [a1]; simp [blk])), a4⟩
theorem Own.chg (h : Own H v l) {bs : List Nat} (s : Chg bs H H') (hn : ∀ b ∈ blk v, b ∉ bs) : Own H' v l :=
  h.imp id fun ⟨b, off, cap, c, e, a1, a2, a3, a4⟩ => ⟨b, off, cap, c, e, a1, a2, s b _ a3 (hn b (by rw [a1]; simp [blk])), a4⟩
theorem Own.nil (a : Option Addr) : Own H (.slice a 0 0) ([] : List α) := .inl ⟨rfl, a, rfl⟩
theorem Slc.len (h : Slc H v l) : ∃ a cap, v = .slice a l.length cap := by
  rcases h with ⟨rfl, a, c, rfl⟩ | ⟨b, off, cap, k, rfl, _⟩
  · exact ⟨a, c, rfl⟩
  · exact ⟨_, cap, rfl⟩
theorem Slc.lenS (h : Slc H v l) : lenS v = some (.int .i64 l.length) := by obtain ⟨a, c, rfl⟩ := h.len; rfl
/-- The block is known wherever the list is not empty. -/
theorem Slc.known (h : Slc H v l) (hl : l ≠ []) : ∀ b ∈ blk v, ∃ k, H b = some k := by
  rcases h with ⟨rfl, _⟩ | ⟨b, off, cap, k, rfl, _, hk, _⟩
  · exact absurd rfl hl
  · intro b' hb'; simp [blk] at hb'; subst hb'; exact ⟨k, hk⟩

/-- Where the i-th element lies. -/
def elt (v : Value) (n i : Nat) : Value := match v with
  | .slice (some a) _ _ => .pointer (some (a.add (i * n)))
  | _ => undef
def elf (v : Value) (n i off : Nat) : Value := match v with
  | .slice (some a) _ _ => .pointer (some ((a.add (i * n)).add off))
  | _ => undef

theorem Slc.ix (h : Slc H v l) {i : Nat} {x : α} (hx : l[i]? = some x) (k : IntKind) : ixS (Enc.sz α) v (.int k i) = some (elt v (Enc.sz α) i) := by
  have hlt : i < l.length := (List.getElem?_eq_some_iff.1 hx).1
  rcases h with ⟨rfl, _⟩ | ⟨b, off, cap, kk, rfl, _, hk, _⟩
  · simp at hlt
  · simp only [ixS, elt]
    rw [if_pos ⟨by omega, by omega⟩]; simp
theorem Slc.ix' (h : Slc H v l) {i : Int} (h0 : 0 ≤ i) (h1 : i < l.length) (k : IntKind) : ixS (Enc.sz α) v (.int k i) = some (elt v (Enc.sz α) i.toNat) := by
  obtain ⟨n, rfl⟩ := Int.eq_ofNat_of_zero_le h0
  have hlt : n < l.length := by omega
  rw [h.ix (x := l[n]) (by simp [hlt])]; simp
theorem ixS_none {H : Heap} {v : Value} {l : List α} (h : Slc H v l) {i : Int} (hi : ¬ (0 ≤ i ∧ i < l.length)) (k : IntKind) (n : Nat) : ixS n v (.int k i) = none := by
  obtain ⟨a, c, rfl⟩ := h.len
  cases a <;> simp [ixS]
  intro h0; simp at hi; have := hi h0; omega

theorem add_add (b off i j : Nat) : ((⟨b, off, none⟩ : Addr).add i).add j = ⟨b, off + i + j, none⟩ := by
  unfold Addr.add; by_cases h1 : i = 0 <;> by_cases h2 : j = 0 <;> simp_all
theorem add_one (b off i : Nat) : (⟨b, off, none⟩ : Addr).add i = ⟨b, off + i, none⟩ := by unfold Addr.add; split <;> simp_all

theorem rdn_of {k : Blk} : ∀ (n off : Nat) (vs : List Value), vs.length = n → (∀ j u, vs[j]? = some u → k.rd (off + j) = some u) → rdn k off n = some vs
  | 0, off, vs, hl, _ => by rw [List.eq_nil_of_length_eq_zero hl]; rfl
  | n + 1, off, vs, hl, h => by
    cases vs with
    | nil => simp at hl
    | cons v vs =>
      have h0 := h 0 v (by simp)
      have ih := rdn_of (k := k) n (off + 1) vs (by simpa using hl) fun j u hu => by
        have := h (j + 1) u (by simpa using hu); rwa [show off + (j + 1) = off + 1 + j from by omega] at this
      simp only [rdn]
      rw [show k.rd off = some v from by simpa using h0, ih]

theorem Slc.ldn (h : Slc H v l) {i : Nat} {x : α} (hx : l[i]? = some x) (hag : Enc.ag α = true) : ldn (Enc.sz α) H (elt v (Enc.sz α) i) = some (Enc.val x) := by
  have hlt : i < l.length := (List.getElem?_eq_some_iff.1 hx).1
  rcases h with ⟨rfl, _⟩ | ⟨b, off, cap, kk, rfl, _, hk, hr⟩
  · simp at hlt
  · simp only [elt, add_one, Sl.ldn, hk]
    obtain ⟨cs, hcs⟩ := Enc.agg hag x
    have hc : (Enc.val x).cells = cs := by rw [hcs]; rfl
    have hsz := Enc.size x
    rw [rdn_of (vs := cs.toList) (Enc.sz α) (off + i * Enc.sz α) (by rw [← hc]; simpa using hsz) fun j u hu => by
      have hj : j < Enc.sz α := by
        have := (List.getElem?_eq_some_iff.1 hu).1
        rw [← hc] at this; simpa [hsz] using this
      have := enc_get hx j hj
      rw [hc] at this
      have h2 := hr _ u (by rw [this]; simpa using hu)
      rwa [show off + (i * Enc.sz α + j) = off + i * Enc.sz α + j from by omega] at h2]
    rw [hcs]
theorem Slc.ld1 (h : Slc H v l) {i : Nat} {x : α} (hx : l[i]? = some x) (hag : Enc.ag α = false) : ld1 H (elt v (Enc.sz α) i) = some (Enc.val x) := by
  have hlt : i < l.length := (List.getElem?_eq_some_iff.1 hx).1
  rcases h with ⟨rfl, _⟩ | ⟨b, off, cap, kk, rfl, _, hk, hr⟩
  · simp at hlt
  · simp only [elt, add_one, Sl.ld1, hk]
    have hc := Enc.one hag x
    have := enc_get hx 0 Enc.pos
    rw [hc] at this
    have h2 := hr _ (Enc.val x) (by rw [this]; rfl)
    simpa using h2
/-- A field of an element. -/
theorem elt_fld {v : Value} {n i off : Nat} {b o len cap : Nat} (h : v = .slice (some ⟨b, o, none⟩) len cap) : fldA off (elt v n i) = some (elf v n i off) := by subst h; rfl
theorem Slc.fld (h : Slc H v l) {i : Nat} {x : α} (hx : l[i]? = some x) (off : Nat) : fldA off (elt v (Enc.sz α) i) = some (elf v (Enc.sz α) i off) := by
  have hlt : i < l.length := (List.getElem?_eq_some_iff.1 hx).1
  rcases h with ⟨rfl, _⟩ | ⟨b, o, cap, kk, rfl, _, hk, hr⟩
  · simp at hlt
  · rfl
theorem Slc.ldf (h : Slc H v l) {i : Nat} {x : α} (hx : l[i]? = some x) {off : Nat} {u : Value} (hu : (Enc.val x).cells[off]? = some u) : Sl.ld1 H (elf v (Enc.sz α) i off) = some u := by
  have hlt : i < l.length := (List.getElem?_eq_some_iff.1 hx).1
  rcases h with ⟨rfl, _⟩ | ⟨b, o, cap, kk, rfl, _, hk, hr⟩
  · simp at hlt
  · simp only [elf, add_add, Sl.ld1, hk]
    have hoff : off < Enc.sz α := by have := (Array.getElem?_eq_some_iff.1 hu).1; rwa [Enc.size] at this
    have := enc_get hx off hoff
    have h2 := hr _ u (by rw [this]; exact hu)
    rwa [show o + (i * Enc.sz α + off) = o + i * Enc.sz α + off from by omega] at h2
end

/-! ### append -/
section
variable {P : Program} {α : Type} [Enc α] {H : Heap}

theorem fits (n b : Nat) (hn : n ≤ 1000000000) (hb : b ≤ 1000) : n * b ≤ 140737488355328 := by
  calc n * b ≤ 1000000000 * 1000 := Nat.mul_le_mul hn hb
    _ ≤ 140737488355328 := by decide

theorem over_take {c vs ls : List Value} {off n : Nat} (h : (c.drop off).take n = ls) (hl : ls.length = n) (hfit : off + n + vs.length ≤ c.length) : ((over c (off + n) vs).drop off).take (n + vs.length) = ls ++ vs := by
  have hdrop : (over c (off + n) vs).drop off = ls ++ (vs ++ c.drop (off + n + vs.length)) := by
    unfold over
    rw [List.append_assoc, List.drop_append_of_le_length (by simp; omega), List.drop_take, show off + n - off = n from by omega, h]
  rw [hdrop, ← List.append_assoc, List.take_left' (by simp [hl])]

def stAt (a : Option Addr) (n : Nat) (vs : List Value) : Sem Unit := match a with | some a => storeCells (a.add n) vs | none => pure ()

/-- append of a list to what may be appended to. -/
theorem app_own {t e : TypeId} {n bytes : Nat} {z : List Value} (ht : P.underlying t = some (.slice e)) (hn : szT P e = some n) (hb : bytT P e = some bytes) (hz : zeT P e = some z) (hzl : z.length = n) (hsz : n = Enc.sz α) (hby : bytes ≤ 1000)
    {s x : Value} {l ys : List α} (hs : Own H s l) (hx : Slc H x ys) (hbound : l.length + ys.length ≤ 1000000000) {K : Value → Heap → Prop}
    (h : ∀ v' H', Own H' v' (l ++ ys) → Chg (blk s) H H' → (∀ b ∈ blk v', b ∈ blk s ∨ H b = none) → K v' H') : appW P t t s x H K := by
  subst hsz
  intro w F hS hF hD
  obtain ⟨i, hi, hisz⟩ := szT_some hn
  have hib : i.bytes = bytes := by
    unfold bytT at hb; rw [hi] at hb; simpa using hb
  obtain ⟨zv, hzv, hzc⟩ : ∃ zv, i.zero = some zv ∧ zv.cells.toList = z := by
    unfold zeT at hz; rw [hi] at hz
    cases hzz : i.zero with
    | none => simp [hzz] at hz
    | some zv => simp [hzz] at hz; exact ⟨zv, rfl, hz⟩
  have hzs : zv.cells.size = Enc.sz α := by rw [← Array.length_toList, hzc]; exact hzl
  obtain ⟨ax, cx, rfl⟩ := hx.len
  -- the cells to be laid down
  have hfirst : (Builtin.firstCells (Enc.sz α) ys.length (.slice ax ys.length cx)).run P w = .ok (enc ys).toArray w := by
    rcases hx with ⟨rfl, _⟩ | ⟨b, off, cap, k, e1, _, hk, hr⟩
    · cases ax <;> simp [Builtin.firstCells, loadCells, loadCellsFrom]
    · cases e1
      have := run_loadCells_list (P := P) (w := w) ⟨b, off, none⟩ (enc ys) fun j u hu => by
        rw [add_one]; exact rd_cell (hS b k hk).1 (hr j u hu)
      rw [enc_length] at this
      simpa [Builtin.firstCells] using this
  have hflat := flat_mem (enc_flat ys)
  have hlen : (enc ys).length = ys.length * Enc.sz α := enc_length ys
  -- in place
  have inplace : ∀ (a : Option Addr) (cap : Nat), s = .slice a l.length cap → l.length + ys.length ≤ cap →
      ∃ v w' H', (Builtin.append_ #[t, t] 0 #[s, .slice ax ys.length cx]).run P w = .ok v w' ∧ Sat w' H' ∧ Sat w' F ∧ Dis H' F ∧ K v H' := by
    intro a cap hsv hroom
    have hrun : ∀ (w' : World), (stAt a (l.length * Enc.sz α) (enc ys)).run P w = .ok () w' →
        (Builtin.append_ #[t, t] 0 #[s, .slice ax ys.length cx]).run P w = .ok (.slice a (l.length + ys.length) cap) w' := by
      intro w' hst
      subst hsv
      cases a <;> simp only [Builtin.append_, List.getElem?_toArray, List.getElem?_cons_zero, List.getElem?_cons_succ, Sem.run_bind, run_underlying ht, Result.andThen_ok, run_size hn, Sem.run_pure, Bool.false_eq_true, if_false, Builtin.lenOf, hroom, if_true, Bool.not_false, hfirst, stAt] at hst ⊢ <;> simp_all
    rcases hs with ⟨rfl, a', rfl⟩ | ⟨b, off, cap', c, e', rfl, h1, h2, h3, h4⟩
    · cases hsv
      have hy0 : ys.length = 0 := by have := hroom; simp only [List.length_nil] at this; omega
      have hy : ys = [] := List.eq_nil_of_length_eq_zero hy0
      subst hy
      refine ⟨_, w, H, hrun w ?_, hS, hF, hD, h _ H (.inl ⟨rfl, a, by simp⟩) (Chg.of_sub _ (Sub.refl H)) fun b hb => .inl hb⟩
      cases a <;> simp [stAt, storeCells]
    · cases hsv
      have hfit : off + l.length * Enc.sz α + (enc ys).length ≤ c.length := by
        rw [hlen]
        have : (l.length + ys.length) * Enc.sz α ≤ cap * Enc.sz α := Nat.mul_le_mul_right _ hroom
        rw [Nat.add_mul] at this; omega
      have hst := run_storeCells_at (P := P) b (off + l.length * Enc.sz α) e' (enc ys) 0 c.toArray w (hS b _ h2).1 (by simpa using hfit) hflat
      have hFb : F b = none := (hD b).resolve_left (by rw [h2]; simp)
      refine ⟨_, _, upd H b (.cs (over c (off + l.length * Enc.sz α) (enc ys)) e'), hrun _ (by simp only [stAt]; rw [add_one]; exact hst), ?_, setRow_frame hF hFb, dis_upd hD hFb, h _ _ (.inr ⟨b, off, cap, _, e', by simp, by simpa using hroom, upd_same _ _ _, ?_, ?_⟩) (Chg_upd _) fun b' hb' => .inl hb'⟩
      · have := setRow_sat (c' := over c (off + l.length * Enc.sz α) (enc ys)) hS h2
        simpa [over] using this
      · rw [over_length (by omega)]; exact h3
      · have := over_take (vs := enc ys) h4 (by rw [enc_length]) hfit
        rw [List.length_append, Nat.add_mul, ← hlen, enc_append]
        exact this
  -- anew
  have anew : ∀ (a : Option Addr) (cap : Nat), s = .slice a l.length cap → ¬ l.length + ys.length ≤ cap →
      ∃ v w' H', (Builtin.append_ #[t, t] 0 #[s, .slice ax ys.length cx]).run P w = .ok v w' ∧ Sat w' H' ∧ Sat w' F ∧ Dis H' F ∧ K v H' := by
    intro a cap hsv hroom
    let newCap := (Question.appendCap (l.length + ys.length) cap e).cut (w.tape w.drawn (.appendCap (l.length + ys.length) cap e))
    have hge : l.length + ys.length ≤ newCap := by simp only [newCap, Question.cut]; omega
    have hgrow := growslice_fits (need := l.length + ys.length) (old := cap) (bytes := i.bytes) (by omega) (fits _ _ hbound (by rw [hib]; exact hby))
    have hold : (Builtin.firstCells (Enc.sz α) l.length s).run P { w with drawn := w.drawn + 1 } = .ok (enc l).toArray { w with drawn := w.drawn + 1 } := by
      have hS' : Sat { w with drawn := w.drawn + 1 } H := hS
      rcases hs with ⟨rfl, a', rfl⟩ | ⟨b, off, cap', c, e', rfl, h1, h2, h3, h4⟩
      · cases a' <;> simp [Builtin.firstCells, loadCells, loadCellsFrom]
      · have hr := (Own.slc (α := α) (.inr ⟨b, off, cap', c, e', rfl, h1, h2, h3, h4⟩) : Slc H _ l)
        have := run_loadCells_list (P := P) (w := { w with drawn := w.drawn + 1 }) ⟨b, off, none⟩ (enc l) fun j u hu => by
          rw [add_one]
          refine rd_cell (k := .cs c e') (hS' b _ h2).1 ?_
          rw [← h4, List.getElem?_take] at hu
          split at hu
          · simpa [Blk.rd] using hu
          · cases hu
        rw [enc_length] at this
        simpa [Builtin.firstCells] using this
    have hfirst' : (Builtin.firstCells (Enc.sz α) ys.length (.slice ax ys.length cx)).run P { w with drawn := w.drawn + 1 } = .ok (enc ys).toArray { w with drawn := w.drawn + 1 } := by
      rcases hx with ⟨rfl, _⟩ | ⟨b, off, cap, k, e1, _, hk, hr⟩
      · cases ax <;> simp [Builtin.firstCells, loadCells, loadCellsFrom]
      · cases e1
        have hS' : Sat { w with drawn := w.drawn + 1 } H := hS
        have := run_loadCells_list (P := P) (w := { w with drawn := w.drawn + 1 }) ⟨b, off, none⟩ (enc ys) fun j u hu => by
          rw [add_one]; exact rd_cell (hS' b k hk).1 (hr j u hu)
        rw [enc_length] at this
        simpa [Builtin.firstCells] using this
    let rest := Builtin.zeroCells zv.cells (newCap - (l.length + ys.length))
    have hrest : rest.size = (newCap - (l.length + ys.length)) * Enc.sz α := by simp only [rest, size_zeroCells, hzs]
    let row : List Value := enc l ++ enc ys ++ rest.toList
    have hinfo : ∀ w, (typeInfo e).run P w = .ok i w := fun w => by simp only [typeInfo, Sem.run_bind, run_program, Result.andThen_ok, hi, Sem.run_pure]
    have hzero : ∀ w, (zeroValue e).run P w = .ok zv w := fun w => by simp only [zeroValue, typeInfo, Sem.run_bind, run_program, Result.andThen_ok, hi, hzv, Sem.run_pure]
    have hrun : (Builtin.append_ #[t, t] 0 #[s, .slice ax ys.length cx]).run P w = .ok (.slice (some ⟨w.heap.size, 0, none⟩) (l.length + ys.length) newCap) { w with drawn := w.drawn + 1, heap := w.heap.push (Blk.cs row e).obj } := by
      have g1 : ¬ (((l.length + ys.length : Nat) : Int) > IntKind.i64.max ∧ (false = true ∨ i.bytes = 0)) := by
        intro hh
        have : IntKind.i64.max = 9223372036854775807 := by decide
        rw [this] at hh; omega
      have g2 : ¬ (Builtin.nextslicecap (l.length + ys.length) cap * i.bytes > 2 ^ 48) := by
        have : (2 : Nat) ^ 48 = 281474976710656 := by decide
        omega
      subst hsv
      simp only [Builtin.append_, List.getElem?_toArray, List.getElem?_cons_zero, List.getElem?_cons_succ, Sem.run_bind, run_underlying ht, Result.andThen_ok, run_size hn, Sem.run_pure, Bool.false_eq_true, if_false, Builtin.lenOf, hroom, hinfo, Bool.not_false, if_true]
      rw [if_neg (by simpa using g1)]
      simp only [Sem.run_bind, hinfo, Result.andThen_ok]
      rw [if_neg g2]
      have hch : (choose (.appendCap (l.length + ys.length) cap e)).run P w = .ok newCap { w with drawn := w.drawn + 1 } := by
        simp only [run_choose, Question.forced, Bool.false_eq_true, if_false]; rfl
      simp only [Sem.run_bind, Sem.run_pure, Result.andThen_ok, hch, hinfo, run_askRoom, hold, hfirst', hzero]
      have hrow : (enc l).toArray ++ (enc ys).toArray ++ Builtin.zeroCells zv.cells (newCap - (l.length + ys.length)) = row.toArray := by
        apply Array.toList_inj.1; simp [row, rest]
      rw [hrow, newRow_run]
      simp only [Result.andThen_ok]
    have hS1 : Sat { w with drawn := w.drawn + 1 } H := hS
    have hF1 : Sat { w with drawn := w.drawn + 1 } F := hF
    obtain ⟨n1, n2, n3⟩ := new_ok hS1 hF1 hD (.cs row e) w.heap.size rfl
    have hfr : H w.heap.size = none := hS.fresh
    refine ⟨_, _, upd H w.heap.size (.cs row e), hrun, n1, n2, n3, h _ _ (.inr ⟨w.heap.size, 0, newCap, row, e, by simp, by simpa using hge, upd_same _ _ _, ?_, ?_⟩) (Chg.of_sub _ (Sub.upd_fresh _ hfr)) fun b hb => ?_⟩
    · have hrest' : rest.toList.length = (newCap - (l.length + ys.length)) * Enc.sz α := by simpa using hrest
      simp only [row, List.length_append, enc_length, hrest', Nat.zero_add]
      rw [← Nat.add_mul, ← Nat.add_mul]
      apply Nat.mul_le_mul_right; omega
    · simp only [List.drop_zero, row, List.length_append]
      rw [← enc_append, List.take_left' (by rw [enc_length, List.length_append])]
    · right; simp [blk] at hb; subst hb; exact hfr
  obtain ⟨a, cap, hsv⟩ := hs.slc.len
  by_cases hroom : l.length + ys.length ≤ cap
  · exact inplace a cap hsv hroom
  · exact anew a cap hsv hroom
end
end Go.Sl
namespace Go.Sl
open Go

@[congr] theorem ev_congr {β : Type} {o o' : Option β} {K : β → Prop} (h : o = o') : ev o K = ev o' K := by rw [h]
@[congr] theorem Br_congr {x y : Value} {A B : Prop} (h : x = y) : Br x A B = Br y A B := by rw [h]
@[congr] theorem T_congr {P : Program} {f : FuncId} {a a' : List Value} {H : Heap} {Q : Value → Heap → Prop} (h : a = a') : T P f a H Q = T P f a' H Q := by rw [h]

@[simp] theorem Br_true (A B : Prop) : Br (.bool true) A B = A := by simp [Br]
@[simp] theorem Br_false (A B : Prop) : Br (.bool false) A B = B := by simp [Br]
theorem Br_t {p : Prop} [Decidable p] (h : p) (A B : Prop) : Br (.bool (decide p)) A B = A := by simp [Br, h]
theorem Br_f {p : Prop} [Decidable p] (h : ¬ p) (A B : Prop) : Br (.bool (decide p)) A B = B := by simp [Br, h]
/-- Both ways. -/
theorem Br_ways {p : Prop} [Decidable p] {A B : Prop} (ha : p → A) (hb : ¬ p → B) : Br (.bool (decide p)) A B := by
  by_cases h : p
  · rw [Br_t h]; exact ha h
  · rw [Br_f h]; exact hb h
theorem Br_bools {c : Bool} {A B : Prop} (ha : c = true → A) (hb : c = false → B) : Br (.bool c) A B := by rw [Br_bool]; exact ⟨ha, hb⟩

theorem wrap64 {n : Int} (h : -9223372036854775808 ≤ n ∧ n ≤ 9223372036854775807) : IntKind.i64.wrap n = n := by
  have := IntWalk.i64_in n (by omega)
  exact this
theorem i_add {a b : Int} (h : -9223372036854775808 ≤ a + b ∧ a + b ≤ 9223372036854775807) : intV .add (.int .i64 a) (.int .i64 b) = some (.int .i64 (a + b)) := by simp [intV, wrap64 h]
theorem i_sub {a b : Int} (h : -9223372036854775808 ≤ a - b ∧ a - b ≤ 9223372036854775807) : intV .sub (.int .i64 a) (.int .i64 b) = some (.int .i64 (a - b)) := by simp [intV, wrap64 h]
theorem i_mul {a b : Int} (h : -9223372036854775808 ≤ a * b ∧ a * b ≤ 9223372036854775807) : intV .mul (.int .i64 a) (.int .i64 b) = some (.int .i64 (a * b)) := by simp [intV, wrap64 h]
theorem i_lss (k : IntKind) (a b : Int) : intV .lss (.int k a) (.int k b) = some (.bool (decide (a < b))) := by simp [intV]
theorem i_leq (k : IntKind) (a b : Int) : intV .leq (.int k a) (.int k b) = some (.bool (decide (a ≤ b))) := by simp [intV]
theorem i_gtr (k : IntKind) (a b : Int) : intV .gtr (.int k a) (.int k b) = some (.bool (decide (b < a))) := by simp [intV]
theorem i_geq (k : IntKind) (a b : Int) : intV .geq (.int k a) (.int k b) = some (.bool (decide (b ≤ a))) := by simp [intV]
theorem i_eql (k : IntKind) (a b : Int) : intV .eql (.int k a) (.int k b) = some (.bool (decide (a = b))) := by simp [intV]; rfl
theorem i_neq (k : IntKind) (a b : Int) : intV .neq (.int k a) (.int k b) = some (.bool (decide (a ≠ b))) := by simp [intV]; rfl
@[simp] theorem u_not (c : Bool) : unV .not (.bool c) = some (.bool (!c)) := rfl
theorem not_dec (p : Prop) [Decidable p] : (!decide p) = decide (¬ p) := by simp
theorem i_quo {a b : Int} (h : 0 ≤ a ∧ a ≤ 9223372036854775807 ∧ 0 < b) : intV .quo (.int .i64 a) (.int .i64 b) = some (.int .i64 (a / b)) := by
  have hb : b ≠ 0 := by omega
  have e : a.tdiv b = a / b := by rw [Int.tdiv_eq_ediv_of_nonneg h.1]
  have h1 : 0 ≤ a / b := Int.ediv_nonneg h.1 (by omega)
  have h2 : a / b ≤ a := Int.ediv_le_self b h.1
  have hw : IntKind.i64.wrap (a / b) = a / b := wrap64 (by omega)
  unfold intV
  dsimp only
  rw [if_pos rfl, if_neg hb, e, hw]

/-! ### Rows that may be written -/
section
variable {α : Type} [Enc α] {H H' : Heap} {v : Value}

theorem over_get {c vs : List Value} {off : Nat} (h : off + vs.length ≤ c.length) (j : Nat) : (over c off vs)[j]? = if j < off then c[j]? else if j < off + vs.length then vs[j - off]? else c[j]? := by
  unfold over
  by_cases h1 : j < off
  · rw [if_pos h1, List.append_assoc, List.getElem?_append_left (by simp; omega), List.getElem?_take, if_pos h1]
  · rw [if_neg h1]
    by_cases h2 : j < off + vs.length
    · rw [if_pos h2, List.getElem?_append_left (by simp; omega), List.getElem?_append_right (by simp; omega)]
      congr 1; simp; omega
    · rw [if_neg h2, List.getElem?_append_right (by simp; omega), List.getElem?_drop]
      congr 1; simp; omega

theorem enc_set {l : List α} {i : Nat} {x : α} (hi : i < l.length) : enc (l.set i x) = over (enc l) (i * Enc.sz α) (Enc.val x).cells.toList := by
  induction l generalizing i with
  | nil => simp at hi
  | cons y l ih =>
    cases i with
    | zero =>
      have e : (Enc.val x).cells.toList.length = (Enc.val y).cells.toList.length := by rw [Array.length_toList, Array.length_toList, Enc.size, Enc.size]
      rw [List.set_cons_zero, enc_cons, enc_cons]
      unfold over
      rw [Nat.zero_mul, List.take_zero, Nat.zero_add, List.nil_append, e, List.drop_left]
    | succ i =>
      have hi' : i < l.length := by simpa using hi
      rw [List.set_cons_succ, enc_cons, enc_cons, ih hi']
      unfold over
      have e : (i + 1) * Enc.sz α = (Enc.val y).cells.toList.length + i * Enc.sz α := by simp [Enc.size, Nat.succ_mul]; omega
      rw [e, List.take_length_add_append, Nat.add_assoc, List.drop_length_add_append]
      simp

/-- A store to an element. -/
theorem Own.sto {l : List α} (h : Own H v l) {i : Nat} (hi : i < l.length) (x : α) : ∃ H', sto (Enc.sz α) H (elt v (Enc.sz α) i) (Enc.val x) = some H' ∧ Own H' v (l.set i x) ∧ Chg (blk v) H H' := by
  rcases h with ⟨rfl, _⟩ | ⟨b, off, cap, c, e, rfl, h1, h2, h3, h4⟩
  · simp at hi
  · have hmul : i * Enc.sz α + Enc.sz α ≤ l.length * Enc.sz α := by rw [← Nat.succ_mul]; exact Nat.mul_le_mul_right _ hi
    have hmul2 : l.length * Enc.sz α ≤ cap * Enc.sz α := Nat.mul_le_mul_right _ h1
    have hsz : (Enc.val x).cells.toList.length = Enc.sz α := by simp [Enc.size]
    have hfit : off + i * Enc.sz α + (Enc.val x).cells.toList.length ≤ c.length := by omega
    refine ⟨upd H b (.cs (over c (off + i * Enc.sz α) (Enc.val x).cells.toList) e), ?_, .inr ⟨b, off, cap, _, e, by simp, by simpa using h1, upd_same _ _ _, ?_, ?_⟩, Chg_upd _⟩
    · simp only [elt, add_one, Sl.sto, h2]
      rw [if_pos]
      exact ⟨Enc.size x, by rw [Array.length_toList, Enc.size] at hfit; exact hfit, Enc.flat x⟩
    · rw [over_length hfit]; exact h3
    · rw [List.length_set, enc_set hi, ← h4]
      apply List.ext_getElem?
      intro j
      rw [over_get (by rw [List.length_take, List.length_drop]; omega)]
      simp only [List.getElem?_take, List.getElem?_drop]
      by_cases hj : j < l.length * Enc.sz α
      · rw [if_pos hj, over_get hfit]
        by_cases a1 : j < i * Enc.sz α
        · rw [if_pos a1, if_pos (by omega), if_pos hj]
        · rw [if_neg a1, if_neg (by omega)]
          by_cases a2 : j < i * Enc.sz α + (Enc.val x).cells.toList.length
          · rw [if_pos a2, if_pos (by omega)]; congr 1; omega
          · rw [if_neg a2, if_neg (by omega), if_pos hj]
      · rw [if_neg hj, if_neg (by omega), if_neg (by omega), if_neg hj]

variable [Inhabited α]
/-- An array in memory. -/
def Arr (H : Heap) (v : Value) (d : Array α) : Prop := Own H v d.toList

variable {d : Array α}
theorem Arr.ix (h : Arr H v d) {n : Nat} (hn : Enc.sz α = n) {i : Int} (hi : 0 ≤ i ∧ i < d.size) : ixS n v (.int .i64 i) = some (elt v n i.toNat) := by
  have _ := (default : α)
  subst hn; exact (Own.slc h).ix' hi.1 (by simpa using hi.2) .i64
theorem Arr.get (_h : Arr H v d) {i : Nat} (hi : i < d.size) : d.toList[i]? = some d[i]! := by simp [hi]
theorem Arr.ldn (h : Arr H v d) {n : Nat} (hn : Enc.sz α = n) (hag : Enc.ag α = true) {i : Nat} (hi : i < d.size) : Sl.ldn n H (elt v n i) = some (Enc.val d[i]!) := by
  subst hn; exact (Own.slc h).ldn (h.get hi) hag
theorem Arr.ld1 (h : Arr H v d) {n : Nat} (hn : Enc.sz α = n) (hag : Enc.ag α = false) {i : Nat} (hi : i < d.size) : Sl.ld1 H (elt v n i) = some (Enc.val d[i]!) := by
  subst hn; exact (Own.slc h).ld1 (h.get hi) hag
theorem Arr.sto (h : Arr H v d) {n : Nat} (hn : Enc.sz α = n) {i : Nat} (hi : i < d.size) (x : α) {K : Heap → Prop} (k : ∀ H', Arr H' v (d.setIfInBounds i x) → Chg (blk v) H H' → K H') : ev (Sl.sto n H (elt v n i) (Enc.val x)) K := by
  have _ := (default : α)
  subst hn
  obtain ⟨H', e, o, c⟩ := Own.sto h (i := i) (by simpa using hi) x
  rw [e]
  exact k H' (by unfold Arr; simpa using o) c
/-- A swap's two stores. -/
theorem Arr.swp (h : Arr H v d) {n : Nat} (hn : Enc.sz α = n) {i j : Nat} (hi : i < d.size) (hj : j < d.size) {K : Heap → Prop} (k : ∀ H', Arr H' v (Go.Sort.swp d i j) → Chg (blk v) H H' → K H') :
    ev (Sl.sto n H (elt v n i) (Enc.val d[j]!)) fun H1 => ev (Sl.sto n H1 (elt v n j) (Enc.val d[i]!)) K :=
  h.sto hn hi _ fun H1 a1 c1 => a1.sto hn (by simpa using hj) _ fun H2 a2 c2 => k H2 a2 (c1.trans c2)
theorem Arr.chg (h : Arr H v d) {bs : List Nat} (s : Chg bs H H') (hn : ∀ b ∈ blk v, b ∉ bs) : Arr H' v d := have _ := (default : α); Own.chg h s hn
end
end Go.Sl
namespace Go.Sl
open Go

section
variable {α : Type} [Enc α] {H H' : Heap} {v : Value} {l : List α}

theorem bnd_int {y : Nat} {k : IntKind} {i : Int} (h : 0 ≤ i ∧ i ≤ y) : bnd y (.int k i) = some i.toNat := by simp only [bnd]; rw [if_pos h]

theorem bnds_none {len cap lo hi : Nat} {vlo vhi : Option Value} (hlo : vlo = none ∧ lo = 0 ∨ ∃ k z, vlo = some (.int k z) ∧ z = (lo : Int)) (hhi : vhi = none ∧ hi = len ∨ ∃ k z, vhi = some (.int k z) ∧ z = (hi : Int))
    (h1 : lo ≤ hi) (h2 : hi ≤ len) (hc : len ≤ cap) : bnds len cap vlo vhi none = some (lo, hi, cap) := by
  have h3 : hi ≤ cap := by omega
  rcases hlo with ⟨rfl, rfl⟩ | ⟨k, z, rfl, rfl⟩ <;> rcases hhi with ⟨rfl, rfl⟩ | ⟨k', z', rfl, rfl⟩ <;> unfold bnds <;> simp [bnd, h1, h3]
theorem bnds_3 {len cap k : Nat} {kd : IntKind} {z : Int} (hz : z = (k : Int)) (h : k ≤ cap) : bnds len cap none (some (.int kd z)) (some (.int kd z)) = some (0, k, k) := by
  subst hz; unfold bnds; simp [bnd, h]

theorem enc_take (l : List α) (k : Nat) : enc (l.take k) = (enc l).take (k * Enc.sz α) := by
  induction l generalizing k with
  | nil => simp
  | cons x l ih =>
    cases k with
    | zero => simp
    | succ k =>
      rw [List.take_succ_cons, enc_cons, enc_cons, ih]
      rw [show (k + 1) * Enc.sz α = (Enc.val x).cells.toList.length + k * Enc.sz α by simp [Enc.size, Nat.succ_mul]; omega]
      rw [List.take_length_add_append]
theorem enc_drop (l : List α) (k : Nat) : enc (l.drop k) = (enc l).drop (k * Enc.sz α) := by
  induction l generalizing k with
  | nil => simp
  | cons x l ih =>
    cases k with
    | zero => simp
    | succ k =>
      rw [List.drop_succ_cons, enc_cons, ih]
      rw [show (k + 1) * Enc.sz α = (Enc.val x).cells.toList.length + k * Enc.sz α by simp [Enc.size, Nat.succ_mul]; omega]
      rw [List.drop_length_add_append]

/-- A part that is read. -/
theorem Slc.part (h : Slc H v l) {n : Nat} (hn : Enc.sz α = n) {lo hi : Nat} (h1 : lo ≤ hi) (h2 : hi ≤ l.length) {vlo vhi : Option Value}
    (hlo : vlo = none ∧ lo = 0 ∨ ∃ k z, vlo = some (.int k z) ∧ z = (lo : Int)) (hhi : vhi = none ∧ hi = l.length ∨ ∃ k z, vhi = some (.int k z) ∧ z = (hi : Int)) :
    ∃ v', slV n v vlo vhi none = some v' ∧ Slc H v' ((l.take hi).drop lo) ∧ ∀ b ∈ blk v', b ∈ blk v := by
  subst hn
  have hb : ∀ len cap, len = l.length → len ≤ cap → bnds len cap vlo vhi none = some (lo, hi, cap) := by
    intro len cap hl hc
    subst hl
    exact bnds_none hlo hhi h1 h2 hc
  rcases h with ⟨rfl, a, c, rfl⟩ | ⟨b, off, cap, kk, rfl, hc, hk, hr⟩
  · have hlo0 : lo = 0 := by simp at h2; omega
    have hhi0 : hi = 0 := by simp at h2; omega
    refine ⟨.slice (if c = lo then a else a.map (·.add (lo * Enc.sz α))) (hi - lo) (c - lo), ?_, ?_, ?_⟩
    · simp only [slV]; rw [hb 0 c rfl (Nat.zero_le _)]
    · left; subst hlo0 hhi0; exact ⟨by simp, _, _, rfl⟩
    · subst hlo0
      intro b hb'
      cases a with
      | none => split at hb' <;> simp [blk] at hb'
      | some a =>
        obtain ⟨b0, o0, p0⟩ := a
        split at hb' <;> simpa [blk, Addr.add] using hb'
  · refine ⟨.slice (if cap = lo then some ⟨b, off, none⟩ else (some (⟨b, off, none⟩ : Addr)).map (·.add (lo * Enc.sz α))) (hi - lo) (cap - lo), ?_, ?_, ?_⟩
    · simp only [slV]; rw [hb _ cap rfl hc]
    · have hlen : ((l.take hi).drop lo).length = hi - lo := by simp; omega
      by_cases he : cap = lo
      · left
        have : ((l.take hi).drop lo) = [] := by apply List.eq_nil_of_length_eq_zero; rw [hlen]; omega
        refine ⟨this, some ⟨b, off, none⟩, cap - lo, ?_⟩
        rw [if_pos he, show hi - lo = 0 by omega]
      · right
        refine ⟨b, off + lo * Enc.sz α, cap - lo, kk, ?_, by omega, hk, fun j u hu => ?_⟩
        · rw [if_neg he, hlen]; simp only [Option.map_some, add_one]
        · rw [enc_drop, enc_take, List.getElem?_drop, List.getElem?_take] at hu
          split at hu
          · have := hr _ u hu
            rwa [show off + lo * Enc.sz α + j = off + (lo * Enc.sz α + j) by omega]
          · cases hu
    · intro b' hb'
      split at hb'
      · exact hb'
      · simpa only [blk, Option.map_some, add_one] using hb'

/-- The first ones of what may be written; still to be written and appended to. -/
theorem Own.take (h : Own H v l) {n : Nat} {k : Nat} (hk : k ≤ l.length) {z : Int} (hz : z = (k : Int)) (kd : IntKind) : ∃ v', slV n v none (some (.int kd z)) none = some v' ∧ Own H v' (l.take k) ∧ blk v' = blk v := by
  have hb : ∀ len cap, len = l.length → len ≤ cap → bnds len cap none (some (.int kd z)) none = some (0, k, cap) := by
    intro len cap hl hc
    exact bnds_none (.inl ⟨rfl, rfl⟩) (.inr ⟨_, _, rfl, hz⟩) (Nat.zero_le _) (by omega) hc
  rcases h with ⟨rfl, a, rfl⟩ | ⟨b, off, cap, c, e, rfl, h1, h2, h3, h4⟩
  · have : k = 0 := by simpa using hk
    subst this
    refine ⟨.slice a 0 0, ?_, .inl ⟨by simp, a, rfl⟩, rfl⟩
    simp only [slV]; rw [hb 0 0 rfl (Nat.le_refl _)]; simp
  · refine ⟨.slice (some ⟨b, off, none⟩) k cap, ?_, .inr ⟨b, off, cap, c, e, by simp [Nat.min_eq_left hk], by simp; omega, h2, h3, ?_⟩, rfl⟩
    · simp only [slV]; rw [hb _ cap rfl h1]
      by_cases he : cap = 0
      · simp [he]
      · simp [add_one]
    · rw [enc_take, ← h4, List.length_take, List.take_take]
      congr 1
      rw [Nat.min_eq_left hk, Nat.min_eq_left (Nat.mul_le_mul_right _ hk)]

/-- .. and so that an append must lay it anew. -/
theorem Own.take3 (h : Own H v l) {n : Nat} {k : Nat} (hk : k ≤ l.length) {z : Int} (hz : z = (k : Int)) (kd : IntKind) : ∃ v', slV n v none (some (.int kd z)) (some (.int kd z)) = some v' ∧ Own H v' (l.take k) ∧ blk v' = blk v := by
  have hb : ∀ len cap, len = l.length → len ≤ cap → bnds len cap none (some (.int kd z)) (some (.int kd z)) = some (0, k, k) := by
    intro len cap hl hc
    exact bnds_3 hz (by omega)
  rcases h with ⟨rfl, a, rfl⟩ | ⟨b, off, cap, c, e, rfl, h1, h2, h3, h4⟩
  · have : k = 0 := by simpa using hk
    subst this
    refine ⟨.slice a 0 0, ?_, .inl ⟨by simp, a, rfl⟩, rfl⟩
    simp only [slV]; rw [hb 0 0 rfl (Nat.le_refl _)]; simp
  · refine ⟨.slice (some ⟨b, off, none⟩) k k, ?_, .inr ⟨b, off, k, c, e, by simp [Nat.min_eq_left hk], by simp; omega, h2, ?_, ?_⟩, rfl⟩
    · simp only [slV]; rw [hb _ cap rfl h1]
      by_cases he : k = 0
      · simp [he]
      · simp [add_one]
    · have : k * Enc.sz α ≤ cap * Enc.sz α := Nat.mul_le_mul_right _ (by omega)
      omega
    · rw [enc_take, ← h4, List.length_take, List.take_take]
      congr 1
      rw [Nat.min_eq_left hk, Nat.min_eq_left (Nat.mul_le_mul_right _ hk)]
end

theorem zc_list (z : Array Value) (n : Nat) : ∀ j, (Builtin.zeroCells z n).toList[j]? = if j < n * z.size then some z[j % z.size]! else none := by
  intro j
  simp only [Builtin.zeroCells, Array.toList_map, Array.toList_range, List.getElem?_map]
  by_cases h : j < n * z.size
  · rw [if_pos h, List.getElem?_range h]; rfl
  · rw [if_neg h, List.getElem?_eq_none (by simp; omega)]; rfl

section
variable {P : Program} {α : Type} [Enc α] {H : Heap} {v : Value} {l : List α}
/-- 'clear(s[k:])', 's[:k]'. -/
theorem Own.cut (h : Own H v l) {t e : TypeId} {n : Nat} {z : List Value} (ht : P.underlying t = some (.slice e)) (hz : zeT P e = some z) (hzl : z.length = n) (hzf : flat z = true) (hsz : n = Enc.sz α)
    {k : Nat} (hk : k ≤ l.length) {y : Int} (hy : y = (k : Int)) {K : Value → Heap → Prop} (kk : ∀ v' H', Own H' v' (l.take k) → Chg (blk v) H H' → blk v' = blk v → K v' H') :
    ev (slV n v (some (.int .i64 y)) none none) fun u => clrW P t u H fun _ H1 => ev (slV n v none (some (.int .i64 y)) none) fun v' => K v' H1 := by
  obtain ⟨zv, hzv, hzc⟩ : ∃ zv, (∀ w, (zeroValue e).run P w = .ok zv w) ∧ zv.cells.toList = z := by
    unfold zeT at hz
    cases hi : P.info? e with
    | none => rw [hi] at hz; simp at hz
    | some i =>
      rw [hi] at hz
      cases hzz : i.zero with
      | none => simp [hzz] at hz
      | some zv =>
        simp [hzz] at hz
        refine ⟨zv, fun w => ?_, hz⟩
        simp only [zeroValue, typeInfo, Sem.run_bind, run_program, Result.andThen_ok, hi, hzz, Sem.run_pure]
  have hzs : zv.cells.size = n := by rw [← Array.length_toList, hzc]; exact hzl
  rcases h with ⟨rfl, a, rfl⟩ | ⟨b, off, cap, c, e', rfl, h1, h2, h3, h4⟩
  · have hk0 : k = 0 := by simpa using hk
    subst hk0
    have e1 : slV n (.slice a 0 0) (some (.int .i64 y)) none none = some (.slice a 0 0) := by
      simp only [slV]; rw [bnds_none (lo := 0) (hi := 0) (.inr ⟨_, _, rfl, hy⟩) (.inl ⟨rfl, rfl⟩) (Nat.le_refl _) (Nat.le_refl _) (Nat.le_refl _)]; simp
    rw [e1, ev_some]
    intro w F hS hF hD
    refine ⟨.tuple #[], w, H, ?_, hS, hF, hD, ?_⟩
    · cases a <;> simp [Builtin.clear_, run_underlying ht]
    · obtain ⟨v', e2, o, eb⟩ := Own.take (l := ([] : List α)) (H := H) (v := .slice a 0 0) (.inl ⟨rfl, a, rfl⟩) (n := n) (k := 0) (by simp) hy .i64
      simp only [e2, ev_some]
      exact kk _ _ o (Chg.of_sub _ (Sub.refl H)) eb
  · have e1 : slV n (.slice (some ⟨b, off, none⟩) l.length cap) (some (.int .i64 y)) none none = some (.slice (some (if cap = k then ⟨b, off, none⟩ else ⟨b, off + k * n, none⟩)) (l.length - k) (cap - k)) := by
      have : bnds l.length cap (some (.int .i64 y)) none none = some (k, l.length, cap) := bnds_none (.inr ⟨_, _, rfl, hy⟩) (.inl ⟨rfl, rfl⟩) hk (Nat.le_refl _) h1
      simp only [slV]; rw [this]; dsimp only
      split <;> simp [add_one]
    rw [e1, ev_some]
    obtain ⟨v', e2, o, eb⟩ := Own.take (l := l) (H := H) (v := .slice (some ⟨b, off, none⟩) l.length cap) (.inr ⟨b, off, cap, c, e', rfl, h1, h2, h3, h4⟩) (n := n) (k := k) hk hy .i64
    rw [e2]
    intro w F hS hF hD
    by_cases hk2 : l.length - k = 0
    · refine ⟨.tuple #[], w, H, ?_, hS, hF, hD, ?_⟩
      · simp [Builtin.clear_, run_underlying ht, hk2]
      · exact kk _ _ o (Chg.of_sub _ (Sub.refl H)) eb
    · have hck : cap ≠ k := by omega
      have hlc : l.length * Enc.sz α ≤ cap * Enc.sz α := Nat.mul_le_mul_right _ h1
      have hkl : k * n + (l.length - k) * n = l.length * n := by rw [← Nat.add_mul]; congr 1; omega
      let zs := (Builtin.zeroCells zv.cells (l.length - k)).toList
      have hzlen : zs.length = (l.length - k) * n := by simp [zs, size_zeroCells, hzs]
      have hzflat : ∀ x ∈ zs, x.oneCell' = true := by
        intro x hx
        obtain ⟨j, hj⟩ := List.getElem?_of_mem hx
        rw [zc_list] at hj
        split at hj
        · rename_i hjl
          have hpos : 0 < zv.cells.size := by
            rcases Nat.eq_zero_or_pos zv.cells.size with h0 | h0
            · rw [h0] at hjl; simp at hjl
            · exact h0
          have hjm : j % zv.cells.size < zv.cells.size := Nat.mod_lt _ hpos
          have hm : zv.cells[j % zv.cells.size]! ∈ z := by
            rw [← hzc]; simp [hjm]
          have := List.all_eq_true.1 hzf _ hm
          cases hj; exact this
        · cases hj
      subst hsz
      have hfit : off + k * Enc.sz α + zs.length ≤ c.length := by rw [hzlen]; omega
      have hst := run_storeCells_at (P := P) b (off + k * Enc.sz α) e' zs 0 c.toArray w (hS b _ h2).1 (by simpa using hfit) hzflat
      have hFb : F b = none := (hD b).resolve_left (by rw [h2]; simp)
      refine ⟨.tuple #[], _, upd H b (.cs (over c (off + k * Enc.sz α) zs) e'), ?_, setRow_sat hS h2, setRow_frame hF hFb, dis_upd hD hFb, ?_⟩
      · rw [if_neg hck]
        obtain ⟨m, hm⟩ : ∃ m, l.length - k = m + 1 := ⟨l.length - k - 1, by omega⟩
        simp only [Builtin.clear_, List.getElem?_toArray, List.getElem?_cons_zero, Sem.run_bind, run_underlying ht, Result.andThen_ok, hm]
        have hst' : (storeCells ⟨b, off + k * Enc.sz α, none⟩ (Builtin.zeroCells zv.cells (m + 1)).toList).run P w = .ok () (w.setRow b (over c (off + k * Enc.sz α) zs).toArray) := by
          have : zs = (Builtin.zeroCells zv.cells (m + 1)).toList := by simp only [zs, hm]
          rw [← this]
          simpa [over] using hst
        simp only [hzv, Result.andThen_ok, hst', Sem.run_pure]
      · refine kk _ _ ?_ (Chg_upd _) eb
        rcases o with ⟨o1, o2⟩ | ⟨b1, off1, cap1, c1, e1', o1, o2, o3, o4, o5⟩
        · exact .inl ⟨o1, o2⟩
        · rw [o1] at eb
          simp only [blk, List.cons.injEq, and_true] at eb
          subst eb
          rw [h2] at o3; cases o3
          have : off1 = off ∧ cap1 = cap := by
            have : bnds l.length cap none (some (.int .i64 y)) none = some (0, k, cap) := bnds_none (.inl ⟨rfl, rfl⟩) (.inr ⟨_, _, rfl, hy⟩) (Nat.zero_le _) hk h1
            simp only [slV] at e2; rw [this] at e2
            rw [o1] at e2
            by_cases hc0 : cap = 0
            · omega
            · simp [add_one, hc0] at e2; omega
          obtain ⟨rfl, rfl⟩ := this
          refine .inr ⟨b1, off1, cap1, _, _, o1, o2, upd_same _ _ _, by rw [over_length hfit]; exact o4, ?_⟩
          rw [← o5]
          apply List.ext_getElem?
          intro j
          simp only [List.getElem?_take, List.getElem?_drop]
          split
          · rename_i hj
            rw [over_get hfit, if_pos]
            have : (l.take k).length * Enc.sz α ≤ k * Enc.sz α := Nat.mul_le_mul_right _ (by simp; omega)
            omega
          · rfl
end
end Go.Sl
namespace Go.Sl
open Go

section
variable {α : Type} [Enc α] {H H' : Heap} {v : Value} {l : List α}

/-- A store to a part of an element. -/
theorem Own.stp (h : Own H v l) {n : Nat} (hn : Enc.sz α = n) {i : Nat} {x : α} (hx : l[i]? = some x) (y : α) {off m : Nat} {u : Value} (hm : u.cells.size = m) (hf : flat u.cells.toList = true) (hoff : off + m ≤ n)
    (hy : (Enc.val y).cells.toList = over (Enc.val x).cells.toList off u.cells.toList) {K : Heap → Prop} (k : ∀ H', Own H' v (l.set i y) → Chg (blk v) H H' → K H') : ev (Sl.sto m H (elf v n i off) u) K := by
  subst hn
  have hi : i < l.length := (List.getElem?_eq_some_iff.1 hx).1
  rcases h with ⟨rfl, _⟩ | ⟨b, o, cap, c, e, rfl, h1, h2, h3, h4⟩
  · simp at hi
  · have hmul : i * Enc.sz α + Enc.sz α ≤ l.length * Enc.sz α := by rw [← Nat.succ_mul]; exact Nat.mul_le_mul_right _ hi
    have hmul2 : l.length * Enc.sz α ≤ cap * Enc.sz α := Nat.mul_le_mul_right _ h1
    have hlen : u.cells.toList.length = m := by simpa using hm
    have hxs : (Enc.val x).cells.toList.length = Enc.sz α := by simp [Enc.size]
    have hfit : o + i * Enc.sz α + off + u.cells.toList.length ≤ c.length := by omega
    have e0 : Sl.sto m H (elf (.slice (some ⟨b, o, none⟩) l.length cap) (Enc.sz α) i off) u = some (upd H b (.cs (over c (o + i * Enc.sz α + off) u.cells.toList) e)) := by
      simp only [elf, add_add, Sl.sto, h2]
      rw [if_pos]
      exact ⟨hm, by rw [hlen] at hfit; exact hfit, hf⟩
    rw [e0, ev_some]
    refine k _ (.inr ⟨b, o, cap, _, e, by simp, by simpa using h1, upd_same _ _ _, ?_, ?_⟩) (Chg_upd _)
    · rw [over_length hfit]; exact h3
    · rw [List.length_set, enc_set hi, ← h4]
      apply List.ext_getElem?
      intro j
      have hyl : (Enc.val y).cells.toList.length = Enc.sz α := by simp [Enc.size]
      rw [over_get (by rw [List.length_take, List.length_drop]; omega)]
      simp only [List.getElem?_take, List.getElem?_drop]
      by_cases hj : j < l.length * Enc.sz α
      · rw [if_pos hj, over_get hfit]
        by_cases a1 : j < i * Enc.sz α
        · rw [if_pos a1, if_pos (by omega), if_pos hj]
        · rw [if_neg a1]
          by_cases a2 : j < i * Enc.sz α + (Enc.val y).cells.toList.length
          · rw [if_pos a2, hy, over_get (by omega)]
            have hc : c[o + j]? = (Enc.val x).cells.toList[j - i * Enc.sz α]? := by
              have h5 : (enc l)[j]? = c[o + j]? := by rw [← h4, List.getElem?_take, if_pos hj, List.getElem?_drop]
              have h6 := enc_get hx (j - i * Enc.sz α) (by omega)
              rw [show i * Enc.sz α + (j - i * Enc.sz α) = j by omega, h5] at h6
              rw [h6]; simp
            by_cases a3 : j < i * Enc.sz α + off
            · rw [if_pos (show o + j < o + i * Enc.sz α + off by omega), if_pos (show j - i * Enc.sz α < off by omega)]; exact hc
            · rw [if_neg (show ¬ o + j < o + i * Enc.sz α + off by omega), if_neg (show ¬ j - i * Enc.sz α < off by omega)]
              by_cases a4 : j < i * Enc.sz α + off + u.cells.toList.length
              · rw [if_pos (show o + j < o + i * Enc.sz α + off + u.cells.toList.length by omega), if_pos (show j - i * Enc.sz α < off + u.cells.toList.length by omega)]; congr 1; omega
              · rw [if_neg (show ¬ o + j < o + i * Enc.sz α + off + u.cells.toList.length by omega), if_neg (show ¬ j - i * Enc.sz α < off + u.cells.toList.length by omega)]; exact hc
          · rw [if_neg a2, if_neg (by omega), if_neg (by omega), if_pos hj]
      · rw [if_neg hj, if_neg (by omega), if_neg (by omega), if_neg hj]
/-- A part of an element that is read as a whole. -/
theorem Slc.ldp (h : Slc H v l) {n : Nat} (hn : Enc.sz α = n) {i : Nat} {x : α} (hx : l[i]? = some x) {off m : Nat} {cs : Array Value} (hm : cs.size = m) (hc : ∀ j, j < m → (Enc.val x).cells[off + j]? = cs[j]?) (hoff : off + m ≤ n) :
    Sl.ldn m H (elf v n i off) = some (.agg cs) := by
  subst hn
  have hlt : i < l.length := (List.getElem?_eq_some_iff.1 hx).1
  rcases h with ⟨rfl, _⟩ | ⟨b, o, cap, kk, rfl, _, hk, hr⟩
  · simp at hlt
  · simp only [elf, add_add, Sl.ldn, hk]
    rw [rdn_of (vs := cs.toList) m (o + i * Enc.sz α + off) (by simpa using hm) fun j u hu => by
      have hj : j < m := by
        have := (List.getElem?_eq_some_iff.1 hu).1
        simpa [hm] using this
      have h1 := enc_get hx (off + j) (by omega)
      rw [hc j hj] at h1
      have h2 := hr _ u (by rw [h1]; simpa using hu)
      rwa [show o + (i * Enc.sz α + (off + j)) = o + i * Enc.sz α + off + j from by omega] at h2]
theorem Slc.fldi (h : Slc H v l) {n : Nat} (hn : Enc.sz α = n) {i : Nat} (hi : i < l.length) (off : Nat) : fldA off (elt v n i) = some (elf v n i off) := by
  subst hn; exact h.fld (x := l[i]) (by simp [hi]) off
theorem Slc.ldfi (h : Slc H v l) {n : Nat} (hn : Enc.sz α = n) {i : Nat} {x : α} (hx : l[i]? = some x) {off : Nat} {u : Value} (hu : (Enc.val x).cells[off]? = some u) : Sl.ld1 H (elf v n i off) = some u := by
  subst hn; exact h.ldf hx hu

/-- A cell of a block is written. -/
theorem sto_cs {b off : Nat} {c : List Value} {e : TypeId} (h : H b = some (.cs c e)) (u : Value) (hu : u.cells = #[u]) (hf : u.oneCell' = true) (ho : off < c.length) : Sl.sto 1 H (.pointer (some ⟨b, off, none⟩)) u = some (upd H b (.cs (c.set off u) e)) := by
  simp only [Sl.sto, h, hu]
  rw [if_pos ⟨rfl, ho, by simpa [flat] using hf⟩]
  congr 3
  simp only [over, List.length_cons, List.length_nil]
  rw [List.set_eq_take_append_cons_drop, if_pos ho]; simp
end
end Go.Sl
namespace Go.Sl
open Go

theorem over_comm {c us vs : List Value} {a b : Nat} (h1 : b + vs.length ≤ a) (h2 : a + us.length ≤ c.length) : over (over c a us) b vs = over (over c b vs) a us := by
  apply List.ext_getElem?
  intro j
  rw [over_get (by rw [over_length h2]; omega), over_get h2, over_get (by rw [over_length (by omega)]; exact h2), over_get (by omega)]
  by_cases c1 : j < b
  · simp [c1, show j < a by omega]
  · by_cases c2 : j < b + vs.length
    · simp [c1, c2, show j < a by omega]
    · by_cases c3 : j < a
      · simp [c1, c2, c3]
      · simp [c1, c2, c3]

section
variable {P : Program} {H : Heap} {K : Value → Heap → Prop}

/-- A part of a slice with some room. -/
theorem slV_raw {n b off len cap lo hi : Nat} {vlo vhi : Option Value} (hlo : vlo = none ∧ lo = 0 ∨ ∃ k z, vlo = some (.int k z) ∧ z = (lo : Int)) (hhi : vhi = none ∧ hi = len ∨ ∃ k z, vhi = some (.int k z) ∧ z = (hi : Int)) (h1 : lo ≤ hi) (h2 : hi ≤ cap) (h3 : lo < cap) :
    slV n (.slice (some ⟨b, off, none⟩) len cap) vlo vhi none = some (.slice (some ⟨b, off + lo * n, none⟩) (hi - lo) (cap - lo)) := by
  have hb : bnds len cap vlo vhi none = some (lo, hi, cap) := by
    rcases hlo with ⟨rfl, rfl⟩ | ⟨k, z, rfl, rfl⟩ <;> rcases hhi with ⟨rfl, rfl⟩ | ⟨k', z', rfl, rfl⟩ <;> unfold bnds <;> simp [bnd, h1, h2]
  simp only [slV, hb]
  rw [if_neg (by omega)]
  simp [add_one]

/-- 'copy' in cells. -/
theorem cpy_raw {t e : TypeId} {n : Nat} (ht : P.underlying t = some (.slice e)) (hn : szT P e = some n) {b o dl dc b2 o2 sl sc m : Nat} {c : List Value} {e' : TypeId} {k2 : Blk} {us : List Value}
    (hb : H b = some (.cs c e')) (hb2 : H b2 = some k2) (hm : Nat.min sl dl = m) (hl : us.length = m * n) (hr : ∀ j u, us[j]? = some u → k2.rd (o2 + j) = some u) (hfit : o + us.length ≤ c.length) (hf : flat us = true)
    (hk : K (.int .i64 m) (upd H b (.cs (over c o us) e'))) : cpyW P t t (.slice (some ⟨b, o, none⟩) dl dc) (.slice (some ⟨b2, o2, none⟩) sl sc) H K := by
  intro w F hS hF hD
  have hFb : F b = none := (hD b).resolve_left (by rw [hb]; simp)
  have hst := run_storeCells_at (P := P) b o e' us 0 c.toArray w (hS b _ hb).1 (by simpa using hfit) (flat_mem hf)
  have hld := run_loadCells_list (P := P) (w := w) ⟨b2, o2, none⟩ us fun j u hu => by
    rw [add_one]; exact rd_cell (hS b2 _ hb2).1 (hr j u hu)
  rw [hl] at hld
  refine ⟨_, _, _, ?_, setRow_sat (c' := over c o us) hS hb, setRow_frame hF hFb, dis_upd hD hFb, hk⟩
  have hst' : (storeCells ⟨b, o, none⟩ us).run P w = .ok () (w.setRow b (over c o us).toArray) := by simpa [over] using hst
  simp only [Builtin.copy_, List.getElem?_toArray, List.getElem?_cons_zero, List.getElem?_cons_succ, Sem.run_bind, run_underlying ht, Result.andThen_ok, Builtin.lenOf, Sem.run_pure, run_size hn, Builtin.firstCells, hm, hld, hst', goInt]

/-- 'append(s, make([]T, m)...)' where that doesn't fit. -/
theorem app_make {α : Type} [Enc α] {t t3 e : TypeId} {n bytes : Nat} {z : List Value} (ht : P.underlying t = some (.slice e)) (ht3 : P.underlying t3 = some (.int .i64)) (hn : szT P e = some n) (hb : bytT P e = some bytes) (hz : zeT P e = some z) (hzl : z.length = n) (hsz : n = Enc.sz α) (hby : bytes ≤ 1000) (_hzf : flat z = true)
    {l : List α} {b off cap : Nat} {zi : Int} {m : Nat} (hs : Slc H (.slice (some ⟨b, off, none⟩) l.length cap) l) (hzi : zi = (m : Int)) (hgt : cap < l.length + m) (hbound : l.length + m ≤ 1000000000)
    (h : ∀ b' cap' rest, H b' = none → l.length + m ≤ cap' → rest.length = (cap' - l.length) * n → K (.slice (some ⟨b', 0, none⟩) (l.length + m) cap') (upd H b' (.cs (enc l ++ rest) e))) : appW P t t3 (.slice (some ⟨b, off, none⟩) l.length cap) (.int .i64 zi) H K := by
  subst hsz hzi
  intro w F hS hF hD
  obtain ⟨i, hi, hisz⟩ := szT_some hn
  have hib : i.bytes = bytes := by
    unfold bytT at hb; rw [hi] at hb; simpa using hb
  obtain ⟨zv, hzv, hzc⟩ : ∃ zv, i.zero = some zv ∧ zv.cells.toList = z := by
    unfold zeT at hz; rw [hi] at hz
    cases hzz : i.zero with
    | none => simp [hzz] at hz
    | some zv => simp [hzz] at hz; exact ⟨zv, rfl, hz⟩
  have hzs : zv.cells.size = Enc.sz α := by rw [← Array.length_toList, hzc]; exact hzl
  have hpos : 0 < Enc.sz α := Enc.pos
  let newCap := (Question.appendCap (l.length + m) cap e).cut (w.tape w.drawn (.appendCap (l.length + m) cap e))
  have hge : l.length + m ≤ newCap := by simp only [newCap, Question.cut]; omega
  have hgrow := growslice_fits (need := l.length + m) (old := cap) (bytes := i.bytes) (by omega) (fits _ _ hbound (by rw [hib]; exact hby))
  have hold : (Builtin.firstCells (Enc.sz α) l.length (.slice (some ⟨b, off, none⟩) l.length cap)).run P { w with drawn := w.drawn + 1 } = .ok (enc l).toArray { w with drawn := w.drawn + 1 } := by
    have hS' : Sat { w with drawn := w.drawn + 1 } H := hS
    rcases hs with ⟨rfl, _⟩ | ⟨b0, off0, cap0, k, e1, _, hk, hr⟩
    · simp [Builtin.firstCells, loadCells, loadCellsFrom]
    · cases e1
      have := run_loadCells_list (P := P) (w := { w with drawn := w.drawn + 1 }) ⟨b, off, none⟩ (enc l) fun j u hu => by
        rw [add_one]; exact rd_cell (hS' b _ hk).1 (hr j u hu)
      rw [enc_length] at this
      simpa [Builtin.firstCells] using this
  let rest1 := Builtin.zeroCells zv.cells m
  let rest2 := Builtin.zeroCells zv.cells (newCap - (l.length + m))
  have hinfo : ∀ w, (typeInfo e).run P w = .ok i w := fun w => by simp only [typeInfo, Sem.run_bind, run_program, Result.andThen_ok, hi, Sem.run_pure]
  have hzero : ∀ w, (zeroValue e).run P w = .ok zv w := fun w => by simp only [zeroValue, typeInfo, Sem.run_bind, run_program, Result.andThen_ok, hi, hzv, Sem.run_pure]
  have hw : IntKind.i64.wrap (m : Int) = m := IntWalk.i64_in _ (by omega)
  have hm0 : m * Enc.sz α ≠ 0 ∨ m = 0 := by
    rcases Nat.eq_zero_or_pos m with h0 | h0
    · exact .inr h0
    · exact .inl (Nat.mul_ne_zero (by omega) (by omega))
  have hmb : ¬ ((m : Int) * i.bytes > 2 ^ 48) := by
    have : (2 : Int) ^ 48 = 281474976710656 := by decide
    have h2 := fits m i.bytes (by omega) (by rw [hib]; exact hby)
    have h3 := Int.ofNat_le.2 h2
    rw [Int.natCast_mul] at h3
    omega
  have hrun : (Builtin.append_ #[t, t3] 0 #[.slice (some ⟨b, off, none⟩) l.length cap, .int .i64 (m : Int)]).run P w = .ok (.slice (some ⟨w.heap.size, 0, none⟩) (l.length + m) newCap) { w with drawn := w.drawn + 1, heap := w.heap.push (Blk.cs (enc l ++ (rest1.toList ++ rest2.toList)) e).obj } := by
    have g1 : ¬ (((l.length + m : Nat) : Int) > IntKind.i64.max ∧ (true = true ∨ i.bytes = 0)) := by
      intro hh
      have : IntKind.i64.max = 9223372036854775807 := by decide
      rw [this] at hh; omega
    have g2 : ¬ (Builtin.nextslicecap (l.length + m) cap * i.bytes > 2 ^ 48) := by
      have : (2 : Nat) ^ 48 = 281474976710656 := by decide
      omega
    have hneg : ¬ ((m : Int) < 0) := by omega
    have hroom : ¬ (l.length + m ≤ cap) := by omega
    simp only [Builtin.append_, List.getElem?_toArray, List.getElem?_cons_zero, List.getElem?_cons_succ, Sem.run_bind, run_underlying ht, run_underlying ht3, Result.andThen_ok, run_size hn, Sem.run_pure, if_true, asInt, asIntOf, hw, Int.toNat_natCast]
    rw [if_neg hneg]
    simp only [Sem.run_bind, Result.andThen_ok, hinfo]
    rw [if_neg hmb]
    simp only [Sem.run_bind, Sem.run_pure, Result.andThen_ok]
    rw [if_neg hroom]
    simp only [Sem.run_bind, hinfo, Result.andThen_ok]
    rw [if_neg (by simpa using g1)]
    simp only [Sem.run_bind, hinfo, Result.andThen_ok]
    rw [if_neg g2]
    have hch : (choose (.appendCap (l.length + m) cap e)).run P w = .ok newCap { w with drawn := w.drawn + 1 } := by
      simp only [run_choose, Question.forced, Bool.false_eq_true, if_false]; rfl
    have happ : ∀ w, ((if (!true) = true then Builtin.firstCells (Enc.sz α) m (.int .i64 (m : Int)) else if m * Enc.sz α = 0 then pure #[] else do pure (Builtin.zeroCells (← zeroValue e).cells m)) : Sem (Array Value)).run P w = .ok rest1 w := by
      intro w
      simp only [Bool.not_true, Bool.false_eq_true, if_false]
      split
      · rename_i h0
        have : m = 0 := by rcases hm0 with h | h; exact absurd h0 h; exact h
        subst this
        simp [rest1, Builtin.zeroCells]
      · simp only [Sem.run_bind, hzero, Result.andThen_ok, Sem.run_pure]; rfl
    simp only [Bool.not_true, Bool.false_eq_true, if_false] at happ
    simp only [Sem.run_bind, Sem.run_pure, Result.andThen_ok, hch, hinfo, run_askRoom, hold, hzero, Bool.not_true, Bool.false_eq_true, if_false, happ]
    have hrow : (enc l).toArray ++ rest1 ++ Builtin.zeroCells zv.cells (newCap - (l.length + m)) = (enc l ++ (rest1.toList ++ rest2.toList)).toArray := by
      apply Array.toList_inj.1; simp [rest2]
    rw [hrow, newRow_run]
    simp only [Result.andThen_ok]
  have hS1 : Sat { w with drawn := w.drawn + 1 } H := hS
  have hF1 : Sat { w with drawn := w.drawn + 1 } F := hF
  obtain ⟨n1, n2, n3⟩ := new_ok hS1 hF1 hD (.cs (enc l ++ (rest1.toList ++ rest2.toList)) e) w.heap.size rfl
  refine ⟨_, _, _, hrun, n1, n2, n3, h _ _ _ hS.fresh hge ?_⟩
  simp only [List.length_append, Array.length_toList, rest1, rest2, size_zeroCells, hzs]
  rw [← Nat.add_mul]; congr 1; omega

/-- slices.overlaps: two blocks. -/
theorem over_self {f : FuncId} {fn : Func} {tS tR e : TypeId} {n : Nat} (hf : P.funcs[f]? = some fn) (hname : (fn.name == "runtime.NumGoroutine") = false) (hbd : fn.body.isNone = true) (hnx : Extern.findNext fn = none)
    (he : Extern.find fn = some (Extern.SlicesOverlaps.overlaps #[tS, tS] #[tR])) (ht : P.underlying tS = some (.slice e)) (hn : szT P e = some n) {a oa la ca b ob lb cb : Nat} {c1 c2 : List Value} {e1 e2 : TypeId} (h1 : H a = some (.cs c1 e1)) (h2 : H b = some (.cs c2 e2)) (hne : a ≠ b) (hc : c2 ≠ [])
    {Q : Value → Heap → Prop} (hq : Q (.bool false) H) : T P f [.slice (some ⟨a, oa, none⟩) la ca, .slice (some ⟨b, ob, none⟩) lb cb] H Q := by
  refine .inr fun w F hS hF hD => ⟨.bool false, w, H, ?_, hS, hF, hD, hq⟩
  rw [run_callFunc_extern hf hname hbd hnx he]
  have s1 := (hS a _ h1).1
  have s2 := (hS b _ h2).1
  rw [show ([Value.slice (some ⟨a, oa, none⟩) la ca, .slice (some ⟨b, ob, none⟩) lb cb] : List Value).toArray = #[.slice (some ⟨a, oa, none⟩) la ca, .slice (some ⟨b, ob, none⟩) lb cb] from rfl]
  have key := Lib.run_overlaps_apart (P := P) w tS tR e ht n (fun w => run_size hn w) ⟨a, oa, none⟩ ⟨b, ob, none⟩ la ca lb cb hne e1 e2 c1.length c2.length
    (by simp only [World.shape?, s1]; simp [Blk.obj]) (by simp only [World.shape?, s2]; simp [Blk.obj]) (by simpa using hc)
    (by simp only [World.frozen?, s1]; simp [Blk.obj]) (by simp only [World.frozen?, s1]; simp [Blk.obj])
  rw [key]
  rfl
end
end Go.Sl
