/- Proved here: who waits for whom at one node, and the table's nodes in their order. -/
import Derived.Test.YtjneoighgbggcaaGreatE4
import Derived.Test.YtjneoighgbggcaaGreatD1
import Derived.Test.YtjneoighgbggcaaGreatC4
namespace Go.Sl
open Go Go.Proofs Go.Sort

def byHold (hs : List Hold) (w : Wait) : List Edge := (hs.filter fun h => decide (h.tx ≠ w.tx) && !cmpt (md h.mode) (md w.mode)).map fun h => ⟨w.tx, h.tx⟩
def byWait (pre : List Wait) (w : Wait) : List Edge := (pre.filter fun o => decide (o.tx ≠ w.tx)).map fun o => ⟨w.tx, o.tx⟩
def ofGo (hs : List Hold) : List Wait → List Wait → List Edge
  | _, [] => []
  | pre, w :: r => byHold hs w ++ byWait pre w ++ ofGo hs (pre ++ [w]) r
def ofE (hs : List Hold) (ws : List Wait) : List Edge := ofGo hs [] ws

theorem byHold_len (hs : List Hold) (w : Wait) : (byHold hs w).length ≤ hs.length := by unfold byHold; rw [List.length_map]; exact List.length_filter_le _ _
theorem byWait_len (ws : List Wait) (w : Wait) : (byWait ws w).length ≤ ws.length := by unfold byWait; rw [List.length_map]; exact List.length_filter_le _ _

/-- All but these blocks. -/
def sans (H : Heap) (bs : List Nat) : Heap := fun b => if b ∈ bs then none else H b
theorem sans_sub (H : Heap) (bs : List Nat) : Sub (sans H bs) H := fun b k h => by
  unfold sans at h; split at h
  · cases h
  · exact h
theorem sans_none {H : Heap} {bs : List Nat} {b : Nat} (h : b ∈ bs) : sans H bs b = none := by unfold sans; rw [if_pos h]
theorem sans_keep {H : Heap} {bs : List Nat} {b : Nat} {k : Blk} (h : H b = some k) (hn : b ∉ bs) : sans H bs b = some k := by unfold sans; rw [if_neg hn]; exact h

section
variable {H : Heap} {Q : Value → Heap → Prop}
theorem bd_edge (a b : Int) : bldL (zRow 1 [.int .i64 0, .int .i64 0]) [(0, 2, Enc.val (⟨a, b⟩ : Edge))] = some (enc [(⟨a, b⟩ : Edge)]) := rfl

/-- One edge more to what is being gathered. -/
theorem edge_app {B : Heap} {vo : Value} {o : List Edge} {a b : Int} (ho : Own H vo o) (hb : o.length ≤ 100000000) (hs : Sub B H) (hn : ∀ b ∈ blk vo, B b = none)
    (h : ∀ v' H', Own H' v' (o ++ [⟨a, b⟩]) → Sub B H' → (∀ b ∈ blk v', B b = none ∧ ∃ k, H' b = some k) → Q v' H') :
    nsW 27 1 1 (enc [(⟨a, b⟩ : Edge)]) H fun v76 H77 => appW PP 22 22 vo v76 H77 fun v78 H79 => Q v78 H79 := by
  intro q hq
  have s1 := Sub.upd_fresh (.cs (enc [(⟨a, b⟩ : Edge)]) 27) hq
  refine appE (ho.sub s1) (own_new [(⟨a, b⟩ : Edge)]).slc (by simp; omega) fun v' H' o' c' f' => ?_
  refine h v' H' o' ((hs.trans s1).chg c' hn) fun b' hb' => ⟨?_, o'.slc.known (by simp) b' hb'⟩
  rcases f' b' hb' with f | f
  · exact hn b' f
  · cases hh : B b' with
    | none => rfl
    | some k => rw [(hs.trans s1) b' k hh] at f; cases f

theorem filt_snoc {α β : Type} (p : α → Bool) (g : α → β) (l : List α) (x : α) : ((l ++ [x]).filter p).map g = (l.filter p).map g ++ if p x then [g x] else [] := by
  rw [List.filter_append, List.map_append]; congr 1
  cases h : p x <;> simp [h]

theorem c_gof {S : Nat → Prop} {q : Nat} {hs : List Hold} {ws : List Wait} (hq : Que S H q hs ws) (hb1 : hs.length ≤ 2000) (hb2 : ws.length ≤ 2000)
    (h : ∀ v' H', Own H' v' (canon lessE (ofE hs ws)) → Sub H H' → (∀ b ∈ blk v', H b = none) → Q v' H') : T PP 118 [ptr q] H Q := by
  apply T118; unfold sh118
  refine c_waits hq (by omega) fun v2 H3 o2 s2 f2 => ?_
  have w2 := o2.slc
  have hq3 := hq.sub s2
  simp only [w2.lenS, ev_some]
  intro I step
  have main : ∀ (n i : Nat) (z : Int) (o : List Edge) (vo : Value) (H1 : Heap), ws.length - i = n → z = i → i ≤ ws.length → o.length ≤ i * 4000 → Own H1 vo o → Sub H3 H1 → (∀ b ∈ blk vo, H3 b = none ∧ ∃ k, H1 b = some k) → o ++ ofGo hs (ws.take i) (ws.drop i) = ofE hs ws →
      I [ptr q, vo, v2, v2, .int .i64 (ws.length : Int), .int .i64 z] H1 := by
    intro n
    induction n using Nat.strongRecOn with
    | _ n ih =>
    intro i z o vo H1 hn hz hi hol ho s3 hk hfin
    apply step
    simp only [i_lss, ev_some]
    by_cases hlt : i < ws.length
    · rw [Br_t (by omega)]
      obtain ⟨w, hw⟩ : ∃ w, ws[i]? = some w := ⟨ws[i], List.getElem?_eq_getElem hlt⟩
      have e0 : z.toNat = i := by omega
      have hdrop : ws.drop i = w :: ws.drop (i + 1) := by
        rw [List.drop_eq_getElem_cons hlt]
        rw [List.getElem?_eq_getElem hlt] at hw; rw [Option.some.inj hw]
      have htake : ws.take (i + 1) = ws.take i ++ [w] := by rw [List.take_add_one, hw]; rfl
      simp (disch := omega) only [(w2.sub s3).ixi (n := 4) rfl, ev_some, e0, (w2.sub s3).rdn (n := 4) rfl rfl hw]
      intro p hp
      have st : Sl.sto 4 (upd H1 p (.cs [(.int .i64 0), (.int .i64 0), (.bool false), (.bool false)] 48)) (.pointer (some ⟨p, 0, none⟩)) (Enc.val w) = some (upd H1 p (.cs [.int .i64 w.tx, .int .i64 w.mode, .bool w.conv, .bool w.inst] 48)) := by
        simp [Sl.sto, upd_same, Value.cells, Sl.flat, Value.oneCell', over, Enc.val]
      rw [st, ev_some]
      have s4 := Sub.upd_fresh (.cs [.int .i64 w.tx, .int .i64 w.mode, .bool w.conv, .bool w.inst] 48) hp
      have p4 := upd_same H1 p (.cs [.int .i64 w.tx, .int .i64 w.mode, .bool w.conv, .bool w.inst] 48)
      generalize upd H1 p (.cs [.int .i64 w.tx, .int .i64 w.mode, .bool w.conv, .bool w.inst] 48) = H4 at *
      refine c_holds (hq3.sub (s3.trans s4)) (by omega) fun v19 H5 o5 s5 f5 => ?_
      -- all but what is being gathered
      have hpo : p ∉ blk vo := fun hb => by obtain ⟨_, k, hk'⟩ := hk p hb; rw [hk'] at hp; cases hp
      have sB : Sub H3 (sans H5 (blk vo)) := fun b k hb => sans_keep (s5 b k (s4 b k (s3 b k hb))) fun hb' => by have := (hk b hb').1; rw [hb] at this; cases this
      have pB : sans H5 (blk vo) p = some (.cs [.int .i64 w.tx, .int .i64 w.mode, .bool w.conv, .bool w.inst] 48) := sans_keep (s5 p _ p4) hpo
      have vB : Slc (sans H5 (blk vo)) v19 hs := o5.slc.keep fun _ b hb k hk' => sans_keep hk' fun hb' => by
        obtain ⟨_, k', hk2⟩ := hk b hb'
        have := f5 b hb; rw [s4 b k' hk2] at this; cases this
      have wB : Slc (sans H5 (blk vo)) v2 ws := w2.sub sB
      have nB : ∀ b ∈ blk vo, sans H5 (blk vo) b = none ∧ ∃ k, H5 b = some k := fun b hb => ⟨sans_none hb, (hk b hb).2.imp fun k hk' => s5 b k (s4 b k hk')⟩
      have oB : Own H5 vo o := (ho.sub s4).sub s5
      have s5B := sans_sub H5 (blk vo)
      generalize sans H5 (blk vo) = B at *
      simp only [o5.slc.lenS, ev_some]
      intro I22 step22
      have fld : ∀ (H6 : Heap), Sub B H6 → Sl.ld1 H6 (.pointer (some ⟨p, 0 + 0, none⟩)) = some (.int .i64 w.tx) ∧ Sl.ld1 H6 (.pointer (some ⟨p, 0 + 1, none⟩)) = some (.int .i64 w.mode) := fun H6 s => by
        constructor <;> rw [ld1_cs (s p _ pB)] <;> rfl
      have inner : ∀ (m j : Nat) (y : Int) (o6 : List Edge) (vo6 : Value) (H6 : Heap), hs.length - j = m → y = j → j ≤ hs.length → o6 = o ++ byHold (hs.take j) w → Own H6 vo6 o6 → Sub B H6 → (∀ b ∈ blk vo6, B b = none ∧ ∃ k, H6 b = some k) →
          I22 [ptr q, vo6, v2, .int .i64 z, ptr p, v2, .int .i64 (ws.length : Int), .int .i64 z, v19, .int .i64 (hs.length : Int), .int .i64 y] H6 := by
        intro m
        induction m using Nat.strongRecOn with
        | _ m jh =>
        intro j y o6 vo6 H6 hm hy hj ho6 own6 s6 k6
        have hl6 : o6.length ≤ o.length + 2000 := by
          rw [ho6, List.length_append]; have := byHold_len (hs.take j) w; rw [List.length_take] at this; omega
        apply step22
        simp only [i_lss, ev_some]
        by_cases hjl : j < hs.length
        · rw [Br_t (by omega)]
          intro K36 step36
          obtain ⟨g, hg⟩ : ∃ g, hs[j]? = some g := ⟨hs[j], List.getElem?_eq_getElem hjl⟩
          have e1 : y.toNat = j := by omega
          have htk : hs.take (j + 1) = hs.take j ++ [g] := by rw [List.take_add_one, hg]; rfl
          have hby : byHold (hs.take (j + 1)) w = byHold (hs.take j) w ++ if (decide (g.tx ≠ w.tx) && !cmpt (md g.mode) (md w.mode)) then [⟨w.tx, g.tx⟩] else [] := by
            unfold byHold; rw [htk, filt_snoc]
          have next : ∀ (vo7 : Value) (H7 : Heap), Own H7 vo7 (o ++ byHold (hs.take (j + 1)) w) → Sub B H7 → (∀ b ∈ blk vo7, B b = none ∧ ∃ k, H7 b = some k) →
              K36 [ptr q, vo7, v2, .int .i64 z, ptr p, v2, .int .i64 (ws.length : Int), .int .i64 z, v19, .int .i64 (hs.length : Int), .int .i64 y] H7 := by
            intro vo7 H7 a b c
            apply step36
            simp (disch := omega) only [i_add, ev_some]
            exact jh _ (by omega) (j + 1) _ _ vo7 H7 rfl (by omega) (by omega) rfl a b c
          simp (disch := omega) only [(vB.sub s6).ixi (n := 2) rfl, ev_some, e1, (vB.sub s6).rdn (n := 2) rfl rfl hg]
          intro r hr
          have st2 : Sl.sto 2 (upd H6 r (.cs [(.int .i64 0), (.int .i64 0)] 121)) (.pointer (some ⟨r, 0, none⟩)) (Enc.val g) = some (upd H6 r (.cs [.int .i64 g.tx, .int .i64 g.mode] 121)) := by
            simp [Sl.sto, upd_same, Value.cells, Sl.flat, Value.oneCell', over, Enc.val]
          rw [st2, ev_some]
          have s7 := Sub.upd_fresh (.cs [.int .i64 g.tx, .int .i64 g.mode] 121) hr
          have r7 := upd_same H6 r (.cs [.int .i64 g.tx, .int .i64 g.mode] 121)
          generalize upd H6 r (.cs [.int .i64 g.tx, .int .i64 g.mode] 121) = H7 at *
          have k7 : ∀ b ∈ blk vo6, B b = none ∧ ∃ k, H7 b = some k := fun b hb => ⟨(k6 b hb).1, (k6 b hb).2.imp fun k hk' => s7 b k hk'⟩
          obtain ⟨w0, w1⟩ := fld H7 (s6.trans s7)
          have r0 : Sl.ld1 H7 (.pointer (some ⟨r, 0 + 0, none⟩)) = some (.int .i64 g.tx) := by rw [ld1_cs r7]; rfl
          have r1 : Sl.ld1 H7 (.pointer (some ⟨r, 0 + 1, none⟩)) = some (.int .i64 g.mode) := by rw [ld1_cs r7]; rfl
          intro K55 step55
          have yes : (decide (g.tx ≠ w.tx) && !cmpt (md g.mode) (md w.mode)) = true → K55 [ptr q, vo6, v2, .int .i64 z, ptr p, ptr r, v2, .int .i64 (ws.length : Int), .int .i64 z, v19, .int .i64 (hs.length : Int), .int .i64 y, .bool true] H7 := by
            intro hc
            apply step55
            rw [Br_true]
            simp only [fldA_p, w0, r0, ev_some]
            refine ev_iff.2 ⟨Enc.val (⟨w.tx, g.tx⟩ : Edge), rfl, ?_⟩
            rw [bd_edge, ev_some]
            refine edge_app (B := B) (own6.sub s7) (by omega) (s6.trans s7) (fun b hb => (k6 b hb).1) fun v' H' a b c => next v' H' ?_ b c
            rw [hby, hc, if_pos rfl, ← List.append_assoc, ← ho6]; exact a
          have no : (decide (g.tx ≠ w.tx) && !cmpt (md g.mode) (md w.mode)) = false → K55 [ptr q, vo6, v2, .int .i64 z, ptr p, ptr r, v2, .int .i64 (ws.length : Int), .int .i64 z, v19, .int .i64 (hs.length : Int), .int .i64 y, .bool false] H7 := by
            intro hc
            apply step55
            rw [Br_false]
            refine next vo6 H7 ?_ (s6.trans s7) k7
            rw [hby, hc, if_neg (by simp), List.append_nil, ← ho6]; exact own6.sub s7
          simp only [fldA_p, w0, r0, ev_some, i_neq]
          by_cases htx : g.tx ≠ w.tx
          · rw [Br_t htx]
            simp only [w1, r1, ev_some]
            refine c_compat ?_
            simp only [u_not, ev_some]
            cases hcm : cmpt (md g.mode) (md w.mode) with
            | true => exact no (by rw [hcm]; simp)
            | false => exact yes (by rw [hcm]; simpa using htx)
          · rw [Br_f htx]
            exact no (by rw [decide_eq_false htx]; rfl)
        · rw [Br_f (by omega)]
          have hjall : hs.take j = hs := List.take_of_length_le (by omega)
          rw [hjall] at ho6
          obtain ⟨v92, e92, r92, _⟩ := (wB.sub s6).part (n := 4) rfl (lo := 0) (hi := i) (Nat.zero_le _) hi (.inl ⟨rfl, rfl⟩) (.inr ⟨.i64, z, rfl, hz⟩)
          rw [List.drop_zero] at r92
          have hlp : (ws.take i).length = i := by rw [List.length_take, Nat.min_eq_left hi]
          rw [e92, ev_some, r92.lenS, ev_some, hlp]
          obtain ⟨v92', e92', rB, _⟩ := wB.part (n := 4) rfl (lo := 0) (hi := i) (Nat.zero_le _) hi (.inl ⟨rfl, rfl⟩) (.inr ⟨.i64, z, rfl, hz⟩)
          rw [e92] at e92'; cases e92'
          rw [List.drop_zero] at rB
          intro I94 step94
          have second : ∀ (m2 j2 : Nat) (y2 : Int) (o8 : List Edge) (vo8 : Value) (H8 : Heap), i - j2 = m2 → y2 = j2 → j2 ≤ i → o8 = o6 ++ byWait ((ws.take i).take j2) w → Own H8 vo8 o8 → Sub B H8 → (∀ b ∈ blk vo8, B b = none ∧ ∃ k, H8 b = some k) →
              I94 [ptr q, vo8, v2, ptr p, v2, .int .i64 (ws.length : Int), .int .i64 z, v92, .int .i64 (i : Int), .int .i64 y2] H8 := by
            intro m2
            induction m2 using Nat.strongRecOn with
            | _ m2 kh =>
            intro j2 y2 o8 vo8 H8 hm2 hy2 hj2 ho8 own8 s8 k8
            have hl8 : o8.length ≤ o6.length + 2000 := by
              rw [ho8, List.length_append]; have := byWait_len ((ws.take i).take j2) w; rw [List.length_take] at this; omega
            apply step94
            simp only [i_lss, ev_some]
            by_cases hj2l : j2 < i
            · rw [Br_t (by omega)]
              intro K107 step107
              obtain ⟨g, hg⟩ : ∃ g, (ws.take i)[j2]? = some g := ⟨(ws.take i)[j2]'(by omega), List.getElem?_eq_getElem (by omega)⟩
              have e2 : y2.toNat = j2 := by omega
              have htk : (ws.take i).take (j2 + 1) = (ws.take i).take j2 ++ [g] := by rw [List.take_add_one, hg]; rfl
              have hby : byWait ((ws.take i).take (j2 + 1)) w = byWait ((ws.take i).take j2) w ++ if decide (g.tx ≠ w.tx) then [⟨w.tx, g.tx⟩] else [] := by
                unfold byWait; rw [htk, filt_snoc]
              have next : ∀ (vo9 : Value) (H9 : Heap), Own H9 vo9 (o6 ++ byWait ((ws.take i).take (j2 + 1)) w) → Sub B H9 → (∀ b ∈ blk vo9, B b = none ∧ ∃ k, H9 b = some k) →
                  K107 [ptr q, vo9, v2, ptr p, v2, .int .i64 (ws.length : Int), .int .i64 z, v92, .int .i64 (i : Int), .int .i64 y2] H9 := by
                intro vo9 H9 a b c
                apply step107
                simp (disch := omega) only [i_add, ev_some]
                exact kh _ (by omega) (j2 + 1) _ _ vo9 H9 rfl (by omega) (by omega) rfl a b c
              simp (disch := omega) only [(rB.sub s8).ixi (n := 4) rfl, ev_some, e2, (rB.sub s8).rdn (n := 4) rfl rfl hg]
              intro r hr
              have st2 : Sl.sto 4 (upd H8 r (.cs [(.int .i64 0), (.int .i64 0), (.bool false), (.bool false)] 48)) (.pointer (some ⟨r, 0, none⟩)) (Enc.val g) = some (upd H8 r (.cs [.int .i64 g.tx, .int .i64 g.mode, .bool g.conv, .bool g.inst] 48)) := by
                simp [Sl.sto, upd_same, Value.cells, Sl.flat, Value.oneCell', over, Enc.val]
              rw [st2, ev_some]
              have s9 := Sub.upd_fresh (.cs [.int .i64 g.tx, .int .i64 g.mode, .bool g.conv, .bool g.inst] 48) hr
              have r9 := upd_same H8 r (.cs [.int .i64 g.tx, .int .i64 g.mode, .bool g.conv, .bool g.inst] 48)
              generalize upd H8 r (.cs [.int .i64 g.tx, .int .i64 g.mode, .bool g.conv, .bool g.inst] 48) = H9 at *
              have k9 : ∀ b ∈ blk vo8, B b = none ∧ ∃ k, H9 b = some k := fun b hb => ⟨(k8 b hb).1, (k8 b hb).2.imp fun k hk' => s9 b k hk'⟩
              obtain ⟨w0, w1⟩ := fld H9 (s8.trans s9)
              have r0 : Sl.ld1 H9 (.pointer (some ⟨r, 0 + 0, none⟩)) = some (.int .i64 g.tx) := by rw [ld1_cs r9]; rfl
              simp only [fldA_p, w0, r0, ev_some, i_neq]
              by_cases htx : g.tx ≠ w.tx
              · rw [Br_t htx]
                refine ev_iff.2 ⟨Enc.val (⟨w.tx, g.tx⟩ : Edge), rfl, ?_⟩
                rw [bd_edge, ev_some]
                refine edge_app (B := B) (own8.sub s9) (by omega) (s8.trans s9) (fun b hb => (k8 b hb).1) fun v' H' a b c => next v' H' ?_ b c
                rw [hby, decide_eq_true htx, if_pos rfl, ← List.append_assoc, ← ho8]; exact a
              · rw [Br_f htx]
                refine next vo8 H9 ?_ (s8.trans s9) k9
                rw [hby, decide_eq_false htx, if_neg (by simp), List.append_nil, ← ho8]; exact own8.sub s9
            · rw [Br_f (by omega)]
              simp (disch := omega) only [i_add, ev_some]
              have hall : (ws.take i).take j2 = ws.take i := List.take_of_length_le (by omega)
              rw [hall] at ho8
              refine ih _ (by omega) (i + 1) _ o8 vo8 H8 rfl (by omega) (by omega) (by omega) own8 (sB.trans s8) (fun b hb => ⟨?_, (k8 b hb).2⟩) ?_
              · cases hh : H3 b with
                | none => rfl
                | some k => have := (k8 b hb).1; rw [sB b k hh] at this; cases this
              · rw [← hfin, hdrop, ho8, ho6, htake]
                simp only [ofGo, List.append_assoc]
          exact second _ 0 0 o6 vo6 H6 rfl rfl (Nat.zero_le _) (by simp [byWait]) own6 s6 k6
      exact inner _ 0 0 o vo H5 rfl rfl (Nat.zero_le _) (by simp [byHold]) oB s5B nB
    · rw [Br_f (by omega)]
      have : ws.drop i = [] := List.drop_eq_nil_of_le (by omega)
      rw [this] at hfin
      simp only [ofGo, List.append_nil] at hfin
      subst hfin
      refine c_gsort ho.slc (by omega) fun v' H' o' s' f' => ?_
      refine h v' H' o' ((s2.trans s3).trans s') fun b hb => ?_
      cases hh : H b with
      | none => rfl
      | some k => have := f' b hb; rw [(s2.trans s3) b k hh] at this; cases this
  exact main _ 0 0 [] _ H3 rfl rfl (Nat.zero_le _) (by simp) (Own.nil none) (Sub.refl H3) (by simp [blk]) (by simp [ofE])
end
end Go.Sl
namespace Go.Sl
open Go Go.Proofs Go.Sort

section
variable {H : Heap} {Q : Value → Heap → Prop} {S : Nat → Prop} {a : Nat} {pl : List (Option Head)} {fr : List Nat}

/-- The arena's iterator: J i is what holds ahead of place i. -/
theorem c_used1 {l c : Nat} (J : Nat → Heap → Prop) (hJarn : ∀ i H', J i H' → Arn S H' a pl fr) (hcell : ∀ i H', J i H' → H' c = some (.cs [ptr a] 134)) (hsub : ∀ i H' H'', J i H' → Sub H' H'' → J i H'')
    (hskip : ∀ i H', pl[i]? = some none → J i H' → J (i + 1) H')
    (hstep : ∀ (i : Nat) hd H' (K : Value → Heap → Prop), pl[i]? = some (some hd) → J i H' → (∀ H'', J (i + 1) H'' → K (.bool true) H'') → Yd PP l [.int .i64 (i : Int), Enc.val hd] H' K)
    (hend : ∀ H', J pl.length H' → Q (.tuple #[]) H') (h0 : J 0 H) : T PP 317 [.func (.yield l) #[] #[], ptr c] H Q := by
  apply T317; unfold sh317
  have x0 : ∀ a b : Value, extrV 0 (.tuple #[a, b]) = some a := fun _ _ => rfl
  have x1 : ∀ a b : Value, extrV 1 (.tuple #[a, b]) = some b := fun _ _ => rfl
  obtain ⟨v, f, ps, a1, a2, a3, a4, a5, a6, a7, a8, a9, a10⟩ := id (hJarn 0 H h0)
  have hl : ps.length = pl.length := by rw [← a4, List.length_map]
  simp only [ld1_cs (hcell 0 H h0), List.getElem?_cons_zero, ev_some, eqP_nil, notB_f, Br_false, nilV_p, fldA_p, Nat.zero_add, ld1_cs a2, a3.slc.lenS, hl]
  intro I step
  have main : ∀ (n i : Nat) (z : Int) (H1 : Heap), pl.length - i = n → z = i → i ≤ pl.length → J i H1 → I [.func (.yield l) #[] #[], ptr c, .int .i64 (pl.length : Int), .int .i64 z] H1 := by
    intro n
    induction n using Nat.strongRecOn with
    | _ n ih =>
    intro i z H1 hn hz hi hJ
    apply step
    simp only [i_lss, ev_some]
    by_cases hlt : i < pl.length
    · rw [Br_t (by omega)]
      simp only [ld1_cs (hcell i H1 hJ), List.getElem?_cons_zero, ev_some]
      refine c_aget (hJarn i H1 hJ) ?_
      simp only [x0, x1, ev_some]
      have hg : aGet pl z = (pl[i]?).getD none := by unfold aGet; rw [if_pos (by omega), show z.toNat = i by omega]
      rw [hg]
      obtain ⟨o, ho⟩ : ∃ o, pl[i]? = some o := ⟨pl[i], List.getElem?_eq_getElem hlt⟩
      rw [ho, Option.getD_some]
      intro r hr
      have e1 : Sl.sto 6 (upd H1 r (.cs [.int .i64 0, .int .i64 0, .int .i64 0, .int .i64 0, .int .i64 0, .pointer none] 138)) (.pointer (some ⟨r, 0, none⟩)) (hVal o) = some (upd H1 r (.cs (Value.cells (hVal o)).toList 138)) := by
        cases o <;> simp [Sl.sto, upd_same, hVal, zHead, Enc.val, Value.cells, Sl.flat, Value.oneCell', over]
      rw [e1, ev_some]
      have s2 := Sub.upd_fresh (.cs (Value.cells (hVal o)).toList 138) hr
      have r2 := upd_same H1 r (.cs (Value.cells (hVal o)).toList 138)
      generalize upd H1 r (.cs (Value.cells (hVal o)).toList 138) = H2 at *
      have hJ2 := hsub i H1 H2 hJ s2
      intro K25 step25
      have next : ∀ H3, J (i + 1) H3 → K25 [.func (.yield l) #[] #[], ptr c, .int .i64 (pl.length : Int), .int .i64 z, .bool false] H3 := fun H3 hJ3 => by
        apply step25
        simp (disch := omega) only [Br_false, i_add, ev_some]
        exact ih _ (by omega) (i + 1) _ H3 rfl (by omega) (by omega) hJ3
      cases o with
      | none =>
        simp only [Option.isSome_none, Br_false]
        exact next H2 (hskip i H2 ho hJ2)
      | some hd =>
        simp only [Option.isSome_some, Br_true]
        have l6 : Sl.ldn 6 H2 (.pointer (some ⟨r, 0, none⟩)) = some (Enc.val hd) := by simp [Sl.ldn, r2, Sl.rdn, Blk.rd, hVal, Enc.val, Value.cells]
        rw [l6, ev_some]
        show Yd PP l ([] ++ [.int .i64 z, Enc.val hd]) H2 _
        rw [hz]
        refine hstep i hd H2 _ ho hJ2 fun H3 hJ3 => ?_
        simp only [u_not, Bool.not_true, ev_some]
        rw [← hz]
        exact next H3 hJ3
    · rw [Br_f (by omega)]
      rw [show i = pl.length by omega] at hJ
      exact hend H1 hJ
  exact main _ 0 0 H rfl rfl (Nat.zero_le _) h0
end

/-- Two that are in strict order and have the same members are one. -/
theorem sorted_uniq {α : Type} {R : α → α → Prop} (irr : ∀ x, ¬ R x x) (asym : ∀ x y, R x y → ¬ R y x) : ∀ {l m : List α}, l.Pairwise R → m.Pairwise R → (∀ x, x ∈ l ↔ x ∈ m) → l = m
  | [], [], _, _, _ => rfl
  | [], b :: m, _, _, h => by have := (h b).2 (by simp); cases this
  | a :: l, [], _, _, h => by have := (h a).1 (by simp); cases this
  | a :: l, b :: m, hl, hm, h => by
    obtain ⟨h1, h2⟩ := List.pairwise_cons.1 hl
    obtain ⟨h3, h4⟩ := List.pairwise_cons.1 hm
    have hab : a = b := by
      rcases List.mem_cons.1 ((h a).1 (by simp)) with e | e
      · exact e
      · rcases List.mem_cons.1 ((h b).2 (by simp)) with e' | e'
        · exact e'.symm
        · exact absurd (h3 a e) (asym _ _ (h1 b e'))
    subst hab
    congr 1
    refine sorted_uniq irr asym h2 h4 fun x => ?_
    constructor
    · intro hx
      exact (List.mem_cons.1 ((h x).1 (by simp [hx]))).resolve_left fun e => irr x (by have := h1 x hx; rw [e] at this ⊢; exact this)
    · intro hx
      exact (List.mem_cons.1 ((h x).2 (by simp [hx]))).resolve_left fun e => irr x (by have := h3 x hx; rw [e] at this ⊢; exact this)

theorem u147 : PP.underlying 147 = some (.slice 138) := by kernel_rfl
theorem s138 : szT PP 138 = some 6 := by kernel_rfl
theorem b138 : bytT PP 138 = some 48 := by kernel_rfl
theorem z138 : zeT PP 138 = some [.int .i64 0, .int .i64 0, .int .i64 0, .int .i64 0, .int .i64 0, .pointer none] := by kernel_rfl

section
variable {H : Heap} {Q : Value → Heap → Prop}

theorem c_cmpH {bs : List Nat} : Cmp H bs (.func (.func 195) #[] #[]) ltH := by
  intro H' x y K _ hk
  show T PP 195 [Enc.val x, Enc.val y] H' K
  refine T.drop (Q := fun v H2 => (∃ r, v = .int .i64 r ∧ decide (r < 0) = ltH x y) ∧ Sub H' H2) ?_ (fun v H2 hv => ⟨H', hv.2, by obtain ⟨⟨r, rfl, hr⟩, _⟩ := hv; exact hk r hr⟩)
  apply T195; unfold sh195
  intro p hp q hq
  have hpq : p ≠ q := by intro e; subst e; rw [upd_same] at hq; cases hq
  have hs : Sub H' (upd (upd H' p (.cs (Enc.val x).cells.toList 138)) q (.cs (Enc.val y).cells.toList 138)) := (Sub.upd_fresh _ hp).trans (Sub.upd_fresh _ hq)
  have hp2 : (upd (upd H' p (.cs (Enc.val x).cells.toList 138)) q (.cs (Enc.val y).cells.toList 138)) p = some (.cs (pCells x.1.p ++ [ptr x.1.q]) 138) := by rw [upd_ne hpq, upd_same]; rfl
  have hq2 : (upd (upd H' p (.cs (Enc.val x).cells.toList 138)) q (.cs (Enc.val y).cells.toList 138)) q = some (.cs (pCells y.1.p ++ [ptr y.1.q]) 138) := by rw [upd_same]; rfl
  generalize (upd (upd H' p (.cs (Enc.val x).cells.toList 138)) q (.cs (Enc.val y).cells.toList 138)) = H2 at *
  have e1 : Sl.ldn 5 H2 (.pointer (some ⟨p, 0 + 0, none⟩)) = some (Enc.val x.1.p) := ldn_path x.1.p hp2 fun j hj => by
    rw [Nat.add_zero, Nat.zero_add, List.getElem?_append_left (by simpa [pCells] using hj)]
  have e2 : Sl.ldn 5 H2 (.pointer (some ⟨q, 0 + 0, none⟩)) = some (Enc.val y.1.p) := ldn_path y.1.p hq2 fun j hj => by
    rw [Nat.add_zero, Nat.zero_add, List.getElem?_append_left (by simpa [pCells] using hj)]
  simp only [fldA_p, e1, e2, ev_some]
  refine c_pless ?_
  refine Br_bools (fun h => ?_) (fun h => ?_)
  · exact ⟨⟨-1, rfl, by show decide ((-1 : Int) < 0) = pLess x.1.p y.1.p; rw [h]; rfl⟩, hs⟩
  · exact ⟨⟨1, rfl, by show decide ((1 : Int) < 0) = pLess x.1.p y.1.p; rw [h]; rfl⟩, hs⟩

/-- What 'all' answers for a table: its heads, by their nodes. -/
def Heads (pl : List (Option Head)) (qe : List (Option Ent1)) (es : List Ent1) (L : List VH) : Prop :=
  L.length = es.length ∧ ∀ (i : Nat) (x : VH) (e : Ent1), L[i]? = some x → es[i]? = some e → x.1.p = e.p ∧ ∃ j : Nat, pl[j]? = some (some x.1) ∧ qe[j]? = some (some e)

theorem heads_of {oT : Nat → Nat} {S : Nat → Prop} {t ta tb : Nat} {pl : List (Option Head)} {fr : List Nat} {bk : List (List Pair)} {qe : List (Option Ent1)} {most full reqs : Int} (h : TabO oT S H t ta tb pl fr bk qe most full reqs) {es : List Ent1} (ho : Ord es)
    (hes : ∀ e : Ent1, e ∈ es ↔ ∃ i : Nat, qe[i]? = some (some e)) {L : List VH} (hL : ∀ x : VH, x ∈ L ↔ ∃ j : Nat, pl[j]? = some (some x.1)) (hp : L.Pairwise fun a b => pLess a.1.p b.1.p = true) : Heads pl qe es L := by
  -- what stands with a head
  have g : ∀ x ∈ L, ∃ e, e ∈ es ∧ e.p = x.1.p ∧ ∃ j : Nat, pl[j]? = some (some x.1) ∧ qe[j]? = some (some e) := fun x hx => by
    obtain ⟨j, hj⟩ := (hL x).1 hx
    obtain ⟨e, h1, h2, _⟩ := h.used j _ hj
    exact ⟨e, (hes e).2 ⟨j, h1⟩, h2, j, hj, h1⟩
  have key : L.map (fun x => (findE es x.1.p).getD default) = es := by
    have gp : ∀ x ∈ L, ∀ e, e ∈ es → e.p = x.1.p → (findE es x.1.p).getD default = e := fun x _ e he hep => by rw [(findE_some ho).2 ⟨he, hep⟩]; rfl
    refine sorted_uniq (R := fun a b : Ent1 => pLess a.p b.p = true) (fun x hx => by rw [pLess_irr] at hx; cases hx) (fun x y h1 h2 => by have := pLess_trans h1 h2; rw [pLess_irr] at this; cases this) ?_ ho.1 fun e => ?_
    · rw [List.pairwise_map]
      refine hp.imp_of_mem fun {a b} ha hb hab => ?_
      obtain ⟨ea, h1, h2, _⟩ := g a ha
      obtain ⟨eb, h3, h4, _⟩ := g b hb
      rw [gp a ha ea h1 h2, gp b hb eb h3 h4, h2, h4]; exact hab
    · rw [List.mem_map]
      constructor
      · rintro ⟨x, hx, rfl⟩
        obtain ⟨e, h1, h2, _⟩ := g x hx
        rw [gp x hx e h1 h2]; exact h1
      · intro he
        obtain ⟨i, hi⟩ := (hes e).1 he
        obtain ⟨hd, h1, h2, h3, _⟩ := h.place hi
        refine ⟨⟨hd, by rw [h2]; exact h3⟩, (hL _).2 ⟨i, h1⟩, ?_⟩
        exact gp _ ((hL _).2 ⟨i, h1⟩) e he h2.symm
  refine ⟨by rw [← key, List.length_map], fun i x e hx he => ?_⟩
  have hxL := List.mem_of_getElem? hx
  obtain ⟨e', h1, h2, h3⟩ := g x hxL
  have : es[i]? = some ((findE es x.1.p).getD default) := by rw [← key, List.getElem?_map, hx]; simp [key]
  rw [he, (findE_some ho).2 ⟨h1, h2⟩] at this
  simp at this
  subst this
  exact ⟨h2.symm, h3⟩
end
end Go.Sl
namespace Go.Sl
open Go Go.Proofs Go.Sort

theorem nodup_heads : ∀ {l : List (Option Head)}, (∀ (i j : Nat) (h1 h2 : Head), l[i]? = some (some h1) → l[j]? = some (some h2) → h1.p = h2.p → i = j) → ((l.filterMap id).map (·.p)).Nodup
  | [], _ => by simp
  | none :: l, h => by
    have : ((none :: l).filterMap id) = l.filterMap id := rfl
    rw [this]
    exact nodup_heads fun i j h1 h2 a b c => by
      have := h (i + 1) (j + 1) h1 h2 (by simpa using a) (by simpa using b) c
      omega
  | some x :: l, h => by
    have e : ((some x :: l).filterMap id) = x :: l.filterMap id := rfl
    rw [e, List.map_cons, List.nodup_cons]
    refine ⟨fun hm => ?_, nodup_heads fun i j h1 h2 a b c => by
      have := h (i + 1) (j + 1) h1 h2 (by simpa using a) (by simpa using b) c
      omega⟩
    obtain ⟨y, hy, hyp⟩ := List.mem_map.1 hm
    rw [List.mem_filterMap] at hy
    obtain ⟨o, ho, hoy⟩ := hy
    simp only [id] at hoy; subst hoy
    obtain ⟨j, hj⟩ := List.getElem?_of_mem ho
    have := h 0 (j + 1) x y rfl (by simpa using hj) hyp.symm
    omega
theorem mem_heads {pl : List (Option Head)} {x : Head} : x ∈ pl.filterMap id ↔ ∃ j : Nat, pl[j]? = some (some x) := by
  rw [List.mem_filterMap]
  constructor
  · rintro ⟨o, ho, hx⟩
    simp only [id] at hx; subst hx
    exact List.getElem?_of_mem ho
  · rintro ⟨j, hj⟩
    exact ⟨some x, List.mem_of_getElem? hj, rfl⟩

section
variable {H : Heap} {Q : Value → Heap → Prop} {oT : Nat → Nat} {S : Nat → Prop} {t ta tb : Nat} {pl : List (Option Head)} {fr : List Nat} {bk : List (List Pair)} {qe : List (Option Ent1)} {most full reqs : Int}

theorem TabO.one (h : TabO oT S H t ta tb pl fr bk qe most full reqs) {i j : Nat} {h1 h2 : Head} (a : pl[i]? = some (some h1)) (b : pl[j]? = some (some h2)) (c : h1.p = h2.p) : i = j := by
  have m1 := (h.map (pKey h1.p) (i : Int)).2 ⟨by omega, h1, by simpa using a, rfl⟩
  have m2 := (h.map (pKey h1.p) (j : Int)).2 ⟨by omega, h2, by simpa using b, by rw [c]⟩
  rw [m1] at m2; have := Option.some.inj m2; omega

theorem c_tall (h : TabO oT S H t ta tb pl fr bk qe most full reqs) {es : List Ent1} (ho : Ord es) (hes : ∀ e : Ent1, e ∈ es ↔ ∃ i : Nat, qe[i]? = some (some e))
    (hq : ∀ v H' L, Own H' v L → Heads pl qe es L → Sub H H' → (∀ b ∈ blk v, H b = none) → Q v H') : T PP 98 [ptr t] H Q := by
  apply T98; unfold sh98
  intro vp hvp
  have s1 := Sub.upd_fresh (.cs [.slice none 0 0] 147) hvp
  have p1 := upd_same H vp (.cs [.slice none 0 0] 147)
  generalize upd H vp (.cs [.slice none 0 0] 147) = H1 at *
  have h1 := h.keep fun b k _ hk => s1 b k hk
  refine c_tok h1 ?_
  simp only [u_not, Bool.not_true, ev_some, Br_false, nilV_p, fldA_p, Nat.zero_add, ld1_cs h1.ht, List.getElem?_cons_zero]
  apply T193; unfold sh193
  intro c hc
  have s2 := Sub.upd_fresh (.cs [ptr ta] 134) hc
  have c2 := upd_same H1 c (.cs [ptr ta] 134)
  show rfW PP (.func (.func 317) #[] #[ptr c]) (upd H1 c (.cs [ptr ta] 134)) _ _ _ _
  generalize upd H1 c (.cs [ptr ta] 134) = H2 at *
  have hcvp : c ≠ vp := fun e => by subst e; rw [p1] at hc; cases hc
  have hcH : H c = none := by
    cases hh : H c with
    | none => rfl
    | some k => rw [s1 c k hh] at hc; cases hc
  refine ⟨by kernel_rfl, fun l rc hl hy => ?_⟩
  have hlH : H l = none := by
    cases hh : H l with
    | none => rfl
    | some k => rw [s2 l k (s1 l k hh)] at hl; cases hl
  have hlvp : l ≠ vp := fun e => by subst e; rw [s2 _ _ p1] at hl; cases hl
  have hlc : l ≠ c := fun e => by subst e; rw [c2] at hl; cases hl
  have s3 := Sub.upd_fresh (lpR rc) hl
  have hpl := pl_le h
  refine c_used1 (S := fun b => S b ∧ oT b = 1) (a := ta) (pl := pl) (fr := fr) (fun i H' => ∃ sv, ∃ L : List VH, H' vp = some (.cs [sv] 147) ∧ Own H' sv L ∧ L.map (·.1) = (pl.take i).filterMap id ∧ H' l = some (lpR rc) ∧ H' c = some (.cs [ptr ta] 134) ∧ Sub H H' ∧ ∀ b ∈ blk sv, H b = none ∧ b ≠ vp ∧ b ≠ l ∧ b ≠ c)
    ?_ ?_ ?_ ?_ ?_ ?_ ?_
  · rintro i H' ⟨_, _, _, _, _, _, _, s, _⟩; exact h.arn.keep fun b k _ hk => s b k hk
  · rintro i H' ⟨_, _, _, _, _, _, a, _⟩; exact a
  · rintro i H' H'' ⟨sv, L, a1, a2, a3, a4, a5, a6, a7⟩ s
    exact ⟨sv, L, s _ _ a1, a2.sub s, a3, s _ _ a4, s _ _ a5, a6.trans s, a7⟩
  · rintro i H' hi ⟨sv, L, a1, a2, a3, a4⟩
    refine ⟨sv, L, a1, a2, ?_, a4⟩
    rw [a3, List.take_add_one, hi]; simp
  · rintro i hd H' K hi ⟨sv, L, a1, a2, a3, a4, a5, a6, a7⟩ hK
    obtain ⟨e, _, _, hmay, _⟩ := h.used i hd hi
    have hL : L.length ≤ 4096 := by
      have := congrArg List.length a3
      rw [List.length_map] at this
      have h2 := List.length_filterMap_le id (pl.take i)
      rw [List.length_take] at h2; omega
    refine hy _ H' K a4 ?_
    dsimp only [ap2]
    intro r hr
    have e1 : Sl.sto 6 (upd H' r (.cs [.int .i64 0, .int .i64 0, .int .i64 0, .int .i64 0, .int .i64 0, .pointer none] 138)) (.pointer (some ⟨r, 0, none⟩)) (Enc.val hd) = some (upd H' r (.cs (Value.cells (Enc.val hd)).toList 138)) := by
      simp [Sl.sto, upd_same, Enc.val, Value.cells, Sl.flat, Value.oneCell', over]
    rw [e1, ev_some]
    have s4 := Sub.upd_fresh (.cs (Value.cells (Enc.val hd)).toList 138) hr
    have r4 := upd_same H' r (.cs (Value.cells (Enc.val hd)).toList 138)
    generalize upd H' r (.cs (Value.cells (Enc.val hd)).toList 138) = H4 at *
    refine ⟨s4 _ _ a4, ?_⟩
    have hrl : r ≠ l := fun e => by subst e; rw [a4] at hr; cases hr
    have vpl : upd H4 l (lpB rc) vp = some (.cs [sv] 147) := by rw [upd_ne (Ne.symm hlvp)]; exact s4 _ _ a1
    rw [ld1_cs vpl, List.getElem?_cons_zero, ev_some]
    have l6 : Sl.ldn 6 (upd H4 l (lpB rc)) (.pointer (some ⟨r, 0, none⟩)) = some (Enc.val (⟨hd, hmay⟩ : VH)) := by
      have : upd H4 l (lpB rc) r = some (.cs (Value.cells (Enc.val hd)).toList 138) := by rw [upd_ne hrl]; exact r4
      simp [Sl.ldn, this, Sl.rdn, Blk.rd, Enc.val, Value.cells]
    have bl : bldL (zRow 1 [.int .i64 0, .int .i64 0, .int .i64 0, .int .i64 0, .int .i64 0, .pointer none]) [(0, 6, Enc.val (⟨hd, hmay⟩ : VH))] = some (enc [(⟨hd, hmay⟩ : VH)]) := rfl
    rw [l6, ev_some, bl, ev_some]
    intro q hq'
    have o4 : Own (upd H4 l (lpB rc)) sv L := (a2.sub s4).keep fun b hb k hk => by rw [upd_ne (a7 b hb).2.2.1]; exact hk
    have s5 := Sub.upd_fresh (.cs (enc [(⟨hd, hmay⟩ : VH)]) 138) hq'
    have x5 := own_new (H := upd H4 l (lpB rc)) (b := q) (e := 138) [(⟨hd, hmay⟩ : VH)]
    have lB : upd H4 l (lpB rc) l = some (lpB rc) := upd_same _ _ _
    have cB : upd H4 l (lpB rc) c = some (.cs [ptr ta] 134) := by rw [upd_ne (Ne.symm hlc)]; exact s4 _ _ a5
    have sH : Sub H (upd H4 l (lpB rc)) := fun b k hb => by
      rw [upd_ne (fun e => by rw [e, hlH] at hb; cases hb)]; exact s4 b k (a6 b k hb)
    generalize upd H4 l (lpB rc) = H5 at *
    refine app_own u147 s138 b138 z138 rfl rfl (by decide) (o4.sub s5) x5.slc (by simp; omega) fun v' H6 o6 c6 f6 => ?_
    have nb : ∀ b ∈ blk v', (∀ k, H5 b = some k → b ∈ blk sv) := fun b hb k hk => by
      rcases f6 b hb with f | f
      · exact f
      · rw [s5 b k hk] at f; cases f
    have n7 : ∀ b ∈ blk v', H b = none ∧ b ≠ vp ∧ b ≠ l ∧ b ≠ c := fun b hb => by
      refine ⟨?_, fun e => ?_, fun e => ?_, fun e => ?_⟩
      · cases hh : H b with
        | none => rfl
        | some k => have := (a7 b (nb b hb k (sH b k hh))).1; rw [hh] at this; cases this
      · exact (a7 b (nb b hb _ (by rw [e]; exact vpl))).2.1 e
      · exact (a7 b (nb b hb _ (by rw [e]; exact lB))).2.2.1 e
      · exact (a7 b (nb b hb _ (by rw [e]; exact cB))).2.2.2 e
    have vp6 := c6 vp _ (s5 _ _ vpl) (fun hb => (a7 vp hb).2.1 rfl)
    rw [sto_cs vp6 v' (by obtain ⟨_, _, rfl⟩ := o6.slc.len; rfl) (by obtain ⟨_, _, rfl⟩ := o6.slc.len; rfl) (by simp), ev_some]
    have l6' : upd H6 vp (.cs ([sv].set 0 v') 147) l = some (lpB rc) := by rw [upd_ne hlvp]; exact c6 l _ (s5 _ _ lB) (fun hb => (a7 l hb).2.2.1 rfl)
    refine ⟨l6', hK _ ⟨v', L ++ [⟨hd, hmay⟩], ?_, ?_, ?_, upd_same _ _ _, ?_, ?_, n7⟩⟩
    · rw [upd_ne (Ne.symm hlvp)]; exact upd_same _ _ _
    · exact o6.keep fun b hb k hk => by rw [upd_ne (n7 b hb).2.2.1, upd_ne (n7 b hb).2.1]; exact hk
    · rw [List.map_append, a3, List.take_add_one, hi]; simp
    · rw [upd_ne (Ne.symm hlc), upd_ne hcvp]; exact c6 c _ (s5 _ _ cB) (fun hb => (a7 c hb).2.2.2 rfl)
    · intro b k hb
      rw [upd_ne (fun e => by rw [e, hlH] at hb; cases hb), upd_ne (fun e => by rw [e, hvp] at hb; cases hb)]
      exact c6 b k (s5 b k (sH b k hb)) (fun hb' => by rw [(a7 b hb').1] at hb; cases hb)
  · rintro H' ⟨sv, L, a1, a2, a3, a4, a5, a6, a7⟩
    rw [List.take_of_length_le (Nat.le_refl _)] at a3
    refine .inl ⟨a4, ?_⟩
    have vp' : ers H' l vp = some (.cs [sv] 147) := by unfold ers; rw [if_neg (Ne.symm hlvp)]; exact a1
    have o' : Own (ers H' l) sv L := a2.keep fun b hb k hk => by unfold ers; rw [if_neg (a7 b hb).2.2.1]; exact hk
    have sE : Sub H (ers H' l) := fun b k hb => by unfold ers; rw [if_neg (fun e => by rw [e, hlH] at hb; cases hb)]; exact a6 b k hb
    generalize ers H' l = H'' at *
    have hL : L.length ≤ 4096 := by
      have := congrArg List.length a3
      rw [List.length_map] at this
      have h2 := List.length_filterMap_le id pl
      omega
    dsimp only
    rw [ld1_cs vp', List.getElem?_cons_zero, ev_some]
    refine SH.c_sort (d := L.toArray) (lt := ltH) swoH c_cmpH (by unfold Arr; simpa using o') (by simp; omega) fun H3 d3 a3' c3 p3 t3 => ?_
    rw [ld1_cs (c3 vp _ vp' (fun hb => (a7 vp hb).2.1 rfl)), List.getElem?_cons_zero, ev_some]
    refine hq sv H3 d3.toList a3' ?_ (sE.chg c3 fun b hb => (a7 b hb).1) fun b hb => (a7 b hb).1
    have perm : d3.toList.Perm L := by simpa using p3
    refine heads_of h ho hes (fun x => ?_) ?_
    · rw [perm.mem_iff, ← mem_heads, ← a3, List.mem_map]
      constructor
      · intro hx; exact ⟨x, hx, rfl⟩
      · rintro ⟨y, hy, e⟩
        have : y = x := Subtype.ext e
        rw [← this]; exact hy
    · have nd : (d3.toList.map (·.1.p)).Nodup := by
        refine (perm.map (·.1.p)).nodup_iff.2 ?_
        have := nodup_heads (l := pl) fun i j h1 h2 a b c => h.one a b c
        rw [← a3, List.map_map] at this; exact this
      have sp := sorted_pairwise t3
      rw [List.nodup_iff_pairwise_ne, List.pairwise_map] at nd
      refine (sp.and nd).imp fun {x y} hxy => pLess_tri y.2 x.2 hxy.1 (Ne.symm hxy.2)
  · exact ⟨.slice none 0 0, [], s3 _ _ (s2 _ _ p1), Own.nil none, by simp, upd_same _ _ _, s3 _ _ c2, (s1.trans s2).trans s3, fun b hb => by simp [blk] at hb⟩
end
end Go.Sl
