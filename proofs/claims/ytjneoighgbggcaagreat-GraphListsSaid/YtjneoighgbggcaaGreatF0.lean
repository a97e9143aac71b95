/- Proved here: from a walk to the form that the statement asks. -/
import Derived.Test.YtjneoighgbggcaaGreatA2
import Derived.ProofKit
import Derived.HandedShaped
import Derived.Below
import Derived.ChangeOld
import Derived.OpenShut
import Derived.Test.YtjneoighgbggcaaGreatRows
import Derived.Test.YtjneoighgbggcaaGreatD1
import Derived.ChangeSame
import Derived.ChangeArms
import Derived.Carry
import Derived.WideShapes
import Derived.JoinedOf
namespace Go.Sl
open Go Go.RowKit

/-- All that is there, and the outside. -/
def ofW (w : World) : Heap := fun b => (w.heap[b]?).map fun o => .gh o w
theorem sat_ofW (w : World) : Sat w (ofW w) := fun b k hb => by
  unfold ofW at hb
  cases h : w.heap[b]? with
  | none => rw [h] at hb; cases hb
  | some o =>
    rw [h] at hb
    simp only [Option.map_some, Option.some.injEq] at hb
    subst hb
    exact ⟨rfl, fun o' w0 e => by cases e; exact ⟨rfl, rfl, rfl⟩⟩
theorem cell_ofW {w : World} {b off : Nat} {v : Value} (h : w.cell? ⟨b, off, none⟩ = some v) : ∃ k, ofW w b = some k ∧ k.rd off = some v := by
  unfold World.cell? at h
  simp only at h
  cases hb : w.heap[b]? with
  | none => rw [hb] at h; cases h
  | some o =>
    rw [hb] at h
    cases o with
    | cells c t fr => exact ⟨.gh (.cells c t fr) w, by simp [ofW, hb], by simpa [Blk.rd] using h⟩
    | _ => simp at h

theorem below_of {w w' : World} (h0 : 0 < w.heap.size) {H' : Heap} (s : Sub (ofW w) H') (h : Sat w' H') : Below w.heap.size w w' := by
  have each : ∀ k, k < w.heap.size → ofW w k = some (.gh w.heap[k]! w) := fun k hk => by simp [ofW, hk]
  have z := (h 0 _ (s 0 _ (each 0 h0))).2 _ _ rfl
  have blk : ∀ k, k < w.heap.size → w'.heap[k]? = w.heap[k]? := fun k hk => by
    have := (h k _ (s k _ (each k hk))).1
    rw [this]; simp [Blk.obj, hk]
  refine ⟨z.1, z.2.2, z.2.1, ?_, blk⟩
  have := blk (w.heap.size - 1) (by omega)
  rw [Array.getElem?_eq_getElem (by omega : w.heap.size - 1 < w.heap.size)] at this
  have := (Array.getElem?_eq_some_iff.1 this).1
  omega

/-- The end of a walk: true, and all that was there is there. -/
theorem calls_of_T {P : Program} {f : FuncId} {args : List Value} {W : World} (h0 : 0 < W.heap.size) (hen : Enters P f)
    (h : T P f args (ofW W) fun v H' => v = .bool true ∧ Sub (ofW W) H') : Calls P f args.toArray W fun e W' => e = .returned (.bool true) ∧ Below W.heap.size W W' := by
  have h2 := h.resolve_right fun hh => by
    obtain ⟨v, w', H', hr, _⟩ := hh W emp (sat_ofW W) (fun _ _ h => by cases h) (fun _ => .inr rfl)
    rw [hen] at hr; cases hr
  have := h2.2 W emp (sat_ofW W) (fun _ _ h => by cases h) (fun _ => .inr rfl)
  refine (callsIn_wide.1 this).mono fun e W' ⟨v, H', he, hs, _, _, hv, hsub⟩ => ?_
  subst he; subst hv
  exact ⟨rfl, below_of h0 hsub hs⟩

section
variable {α : Type} [Enc α] {H : Type} {enc : TypeId × Value → H} {P : Program} {w : World} {base : Nat} {spare : Nat → Bool} {held : Bool}
theorem open_slc {t e : TypeId} {a : Option Addr} {len cap : Nat} {d : DataW H} {p : List MemPlace} (ht : P.underlying t = some (.slice e)) (hc : P.cellsOf e = Enc.sz α)
    (dec : ∀ fuel cs x, DataW.trod enc P w base spare held fuel e cs = some x → ∃ y : α, cs = (Enc.val y).cells.toList)
    (h : DataW.Trod enc P w base spare held t (.slice a len cap) d p) : ∃ l : List α, Slc (ofW w) (.slice a len cap) l := by
  obtain ⟨fuel, hf⟩ := h
  rcases DataW.trod_slice ht hf with ⟨h0, _⟩ | ⟨a', len', cap', elems, rest, n, _, h1, _, hb, hl, hm, hlen, hel, _, _⟩
  · simp [Value.cells] at h0
    obtain ⟨rfl, rfl, rfl⟩ := h0
    exact ⟨[], .inl ⟨rfl, none, 0, rfl⟩⟩
  · simp [Value.cells] at h1
    obtain ⟨rfl, rfl, rfl⟩ := h1
    have each : ∀ i, i < len → ∃ (y : α), ∀ j, j < Enc.sz α → w.cell? ((a'.add (i * Enc.sz α)).add j) = (Enc.val y).cells[j]? := by
      intro i hi
      have h2 := hel i hi
      have h3 : elems[i]? = some elems[i] := by simp [hlen, hi]
      rw [h3, hc] at h2
      cases hcs : w.cells? base (a'.add (i * Enc.sz α)) (Enc.sz α) with
      | none => rw [hcs] at h2; cases h2
      | some cs =>
        rw [hcs] at h2
        obtain ⟨y, rfl⟩ := dec _ _ _ h2
        refine ⟨y, fun j hj => ?_⟩
        have := (World.cells?_some hcs).2.2 j hj
        rw [this]; simp
    cases len with
    | zero => exact ⟨[], .inl ⟨rfl, _, _, rfl⟩⟩
    | succ len =>
      obtain ⟨b, off, spot⟩ := a'
      have hspot : spot = none := by
        obtain ⟨y, hy⟩ := each 0 (by omega)
        have := hy 0 Enc.pos
        simp only [Nat.zero_mul, Addr.add, if_true] at this
        have hsz := Enc.size (α := α) y
        rw [Array.getElem?_eq_getElem (by rw [hsz]; exact Enc.pos)] at this
        unfold World.cell? at this
        simp only at this
        split at this
        · split at this
          · cases this
          · rename_i hs; simpa using hs
        · cases this
      subst hspot
      have ex : ∃ l : List α, l.length = len + 1 ∧ ∀ i y, l[i]? = some y → ∀ j, j < Enc.sz α → w.cell? ⟨b, off + i * Enc.sz α + j, none⟩ = (Enc.val y).cells[j]? := by
        have : ∀ m, m ≤ len + 1 → ∃ l : List α, l.length = m ∧ ∀ i y, l[i]? = some y → ∀ j, j < Enc.sz α → w.cell? ⟨b, off + i * Enc.sz α + j, none⟩ = (Enc.val y).cells[j]? := by
          intro m
          induction m with
          | zero => intro _; exact ⟨[], rfl, fun i y h => by simp at h⟩
          | succ m ih =>
            intro hm
            obtain ⟨l, hl, hy⟩ := ih (by omega)
            obtain ⟨y, hyy⟩ := each m (by omega)
            refine ⟨l ++ [y], by simp [hl], fun i z hz j hj => ?_⟩
            rw [List.getElem?_append] at hz
            split at hz
            · exact hy i z hz j hj
            · rename_i hlt
              have him : i = m := by
                have := (List.getElem?_eq_some_iff.1 hz).1
                simp at this; omega
              subst him
              rw [hl] at hz; simp at hz; subst hz
              have := hyy j hj
              rwa [add_add] at this
        exact this (len + 1) (Nat.le_refl _)
      obtain ⟨l, hl, hy⟩ := ex
      have hk : ∃ k, ofW w b = some k := by
        obtain ⟨y, hyy⟩ : ∃ y, l[0]? = some y := ⟨l[0]'(by omega), List.getElem?_eq_getElem (by omega)⟩
        have h1 := hy 0 y hyy 0 Enc.pos
        rw [Array.getElem?_eq_getElem (by rw [Enc.size]; exact Enc.pos)] at h1
        obtain ⟨k, hk, _⟩ := cell_ofW h1
        exact ⟨k, hk⟩
      obtain ⟨k, hk⟩ := hk
      refine ⟨l, .inr ⟨b, off, cap, k, by rw [hl], by omega, hk, fun j u hu => ?_⟩⟩
      have hjl : j < l.length * Enc.sz α := by have := (List.getElem?_eq_some_iff.1 hu).1; rwa [enc_length] at this
      have hi : j / Enc.sz α < l.length := by rw [Nat.div_lt_iff_lt_mul Enc.pos]; exact hjl
      obtain ⟨y, hyy⟩ : ∃ y, l[j / Enc.sz α]? = some y := ⟨l[j / Enc.sz α]'hi, List.getElem?_eq_getElem hi⟩
      have hr : j % Enc.sz α < Enc.sz α := Nat.mod_lt _ Enc.pos
      have h1 := hy _ y hyy _ hr
      have h2 := enc_get hyy _ hr
      have h3 : j / Enc.sz α * Enc.sz α + j % Enc.sz α = j := by rw [Nat.mul_comm]; exact Nat.div_add_mod j _
      rw [h3, hu] at h2
      rw [← h2] at h1
      obtain ⟨k', hk', hrd⟩ := cell_ofW h1
      rw [hk] at hk'; cases hk'
      rwa [show off + j = off + j / Enc.sz α * Enc.sz α + j % Enc.sz α by omega]
end
end Go.Sl
namespace Go.Sl
open Go Go.Proofs Go.Proofs.YtjneoighgbggcaaGreat Go.RowKit Go.ChangeShapes Go.WideShapes Go.ChangeAt

theorem c27 : PP.cellsOf 27 = 2 := by kernel_rfl
theorem c3 : PP.cellsOf 3 = 1 := by kernel_rfl
theorem len2 : ∀ {cs : List Value}, cs.length = 2 → ∃ a b, cs = [a, b]
  | [a, b], _ => ⟨a, b, rfl⟩
theorem own0 : ownKnob PP.godebug = none := by kernel_rfl
theorem laid0 : laidOutB PP = true := by kernel_rfl

section
variable {H : Type} {enc : TypeId × Value → H} {w : World} {base : Nat} {spare : Nat → Bool} {held : Bool}
theorem dec27 {fuel : Nat} {cs : List Value} {x : DataW H × List MemPlace} (h : DataW.trod enc PP w base spare held fuel 27 cs = some x) : ∃ y : Edge, cs = (Enc.val y).cells.toList := by
  obtain ⟨y0, y1, n, _, hl, h0, h1⟩ := ChangeShapes.trod_struct2 u27 h
  obtain ⟨m0, e0, _⟩ := DataW.trod_int u3 h0
  obtain ⟨m1, e1, _⟩ := DataW.trod_int u3 h1
  rw [c27] at hl
  dsimp only at e0 e1
  rw [c3] at e0 e1
  obtain ⟨a, b, rfl⟩ : ∃ a b, cs = [a, b] := len2 hl
  have e0' : [a] = [Value.int .i64 m0] := e0
  have e1' : [b] = [Value.int .i64 m1] := e1
  cases e0'; cases e1'
  exact ⟨⟨m0, m1⟩, rfl⟩
end

theorem heap_pos {W : World} (h : W.ShapedOpen PP) : 0 < W.heap.size := by
  have hg : PP.globals.size < (begin PP (fun _ _ => 0) default).world.heap.size := of_decide_eq_true (by kernel_rfl)
  obtain ⟨o, _, ho, _⟩ := h.2 PP.globals.size (Nat.le_refl _) hg
  have := (Array.getElem?_eq_some_iff.1 ho).1
  omega

set_option maxRecDepth 100000 in
theorem graphLists_lifted (haw : ∀ (H : Heap) (Q : Value → Heap → Prop), (∀ H', Sub H H' → Q (.bool true) H') → T PP 12 [] H Q) (os : Os) (started : os.Started) (H : Type) (enc : TypeId × Value → H) :
    ReturnsInHanded {} Tryz.checked os 3 .any (Rows.graphListsSpec.pre6 enc Tryz.prog Tryz.f3 Rows.graphListsRow.domain false) (Rows.graphListsSpec.post enc Tryz.prog Tryz.f3 false true false false) := by
  refine returnsInHanded_of_change_shaped (C := Tryz.checked) own0 started (by kernel_rfl) Tryz.func3
    (ChangeSpec.witness6 (enc := enc) (C := Tryz.checked) false ⟨#[], #[.slice none 0 0, .int .i64 0], []⟩ 8 (by kernel_rfl) (by kernel_rfl) (by kernel_rfl) (by kernel_rfl)) ?_
  intro W base args ds gs before hval0 hW hcnd hsz0 hshape0 _
  have hshape : W.ShapedOpen PP := hshape0
  have hval : ∀ (j : Nat) t v, Tryz.f3.params[j]? = some t → args[j]? = some v → Value.okWide Tryz.prog W .any base t v := hval0
  have hW' := hW
  obtain ⟨p, q, hA0, hV, rfl, hfz, hnd⟩ := hW
  have hA : DataW.TrodAll enc Tryz.prog W 0 (fun _ => true) true Tryz.f3.params.toList args.toList ds p := hA0
  have hpar : Tryz.f3.params = #[22, 3] := by kernel_rfl
  rw [hpar] at hA hval
  obtain ⟨v0, vs0, d0, ds0, p0, q0, hargs, rfl, rfl, h0, r0⟩ := trodAll_cons hA
  obtain ⟨v1, vs1, d1, ds1, p1, q1, rfl, rfl, rfl, h1, r1⟩ := trodAll_cons r0
  obtain ⟨rfl, rfl, rfl⟩ := trodAll_nil r1
  obtain rfl : args = #[v0, v1] := by cases args; simp_all
  obtain ⟨rfl, rfl⟩ := trodVars_none hV
  obtain ⟨a0, len0, cap0, rfl⟩ := okWide_slice u22 (hval 0 22 v0 rfl rfl)
  obtain ⟨a1, rfl, rfl, rfl, w1⟩ := open_int u3 (hval 1 3 v1 rfl rfl) h1
  have k0 := h0
  have lt0 : ∀ x ∈ p0, x.block < W.heap.size := by obtain ⟨m, hm⟩ := k0; exact DataW.trod_lt m _ _ _ hm
  obtain ⟨l, hl⟩ := open_slc (α := Edge) u22 c27 (fun _ _ _ h => dec27 h) h0
  refine (calls_of_T (heap_pos hshape) (bodied_enters (by kernel_rfl)) (c_graphlists hl haw fun H' hs => ⟨rfl, hs⟩)).mono fun e W' ⟨he, bel⟩ => ?_
  subst he
  exact ⟨_, rfl, _, _, _, [], _, [], hW', trodAll_mk1 (shut_bool (by kernel_rfl : PP.underlying 4 = some .bool) _), (trodAll_cons_mk (Below.trod laid0 (by kernel_rfl) (of_decide_eq_true (by kernel_rfl)) k0 bel lt0) (trodAll_cons_mk (shut_int u3 w1) trodAll_mk0)), rfl, bel.frame _, fun h => by cases h⟩

end Go.Sl
