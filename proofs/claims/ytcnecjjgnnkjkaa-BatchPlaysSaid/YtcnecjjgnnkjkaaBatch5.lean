/-
  Package batch: a row of commands, one behind the other, until one can't be done. No condition but that words are words.
-/
import Derived.Test.YtcnecjjgnnkjkaaBatch4
namespace Go.Proofs.Ytcnecjjgnnkjkaa
open Go.RowKit
set_option linter.unusedVariables false
set_option linter.unusedSimpArgs false
set_option maxRecDepth 100000

theorem runB_append (m : Lim) : ∀ (xs ys : List Cm) (R : List Rt), runB m R (xs ++ ys) = match runB m R xs with | (none, R1) => ((runB m R1 ys).1.map (fun x => (x.1 + xs.length, x.2)), (runB m R1 ys).2) | (some x, R1) => (some x, R1)
  | [], ys, R => by
    simp only [List.nil_append, runB, List.length_nil, Nat.add_zero]
    cases h : (runB m R ys).1 with
    | none => exact Prod.ext (by rw [h]; rfl) rfl
    | some x => exact Prod.ext (by rw [h]; rfl) rfl
  | c :: xs, ys, R => by
    simp only [List.cons_append, runB]
    split
    · rw [runB_append m xs ys]
      cases h : runB m (cmSet R c) xs with
      | mk o R1 =>
        cases o with
        | none =>
          simp only [Option.map_none]
          refine Prod.ext ?_ rfl
          simp only [Option.map_map, List.length_cons]
          cases (runB m R1 ys).1 with
          | none => rfl
          | some x => simp [Nat.add_assoc]
        | some x => rfl
    · rfl
theorem runB_next {m : Lim} {R Rj : List Rt} {cs : List Cm} {j : Nat} {c : Cm} (h : runB m R (cs.take j) = (none, Rj)) (hc : cs[j]? = some c) (he : cmErr m Rj c = 0) : runB m R (cs.take (j + 1)) = (none, cmSet Rj c) := by
  obtain ⟨hj, e⟩ := List.getElem?_eq_some_iff.1 hc
  rw [List.take_succ_eq_append_getElem hj, e, runB_append, h]
  simp only [runB, if_pos he, Option.map_none]
theorem runB_stop {m : Lim} {R Rj : List Rt} {cs : List Cm} {j : Nat} {c : Cm} (h : runB m R (cs.take j) = (none, Rj)) (hc : cs[j]? = some c) (he : cmErr m Rj c ≠ 0) : runB m R cs = (some (j, cmErr m Rj c), Rj) := by
  obtain ⟨hj, e⟩ := List.getElem?_eq_some_iff.1 hc
  have hd : cs = cs.take j ++ (c :: cs.drop (j + 1)) := by
    rw [← e, ← List.drop_eq_getElem_cons hj, List.take_append_drop]
  rw [hd, runB_append, h]
  simp only [runB, if_neg he, Option.map_some, List.length_take, Nat.zero_add]
  rw [Nat.min_eq_left (by omega)]
theorem runB_inv {m : Lim} : ∀ (cs : List Cm) (R : List Rt), Inv m R → (∀ c ∈ cs, c.ok) → Inv m (runB m R cs).2
  | [], R, hi, _ => hi
  | c :: cs, R, hi, ho => by
    unfold runB
    split
    · rename_i he
      have hc := ho c (by simp)
      exact runB_inv cs _ (good_inv hi hc.p hc.hop (check_good he)) (fun x hx => ho x (by simp [hx]))
    · exact hi
/-- What may be undone lies in a slice of its own. -/
structure UndoAt (w : World) (u base : Nat) (F : Nat → Prop) (m : Lim) (R R' : List Rt) : Prop where
  own : ∃ vu U, Blk w u 60 [vu] ∧ Owns w base 87 4 vu U.length (rtsV U) ∧ Back m R U.reverse R' ∧ (∀ z, vu.ownBlock = some z → ¬ F z ∧ z ≠ u) ∧ U.length ≤ 100000
def AllPost (w : World) (b u : Nat) (F : Nat → Prop) (m : Lim) (R : List Rt) (cs : List Cm) (e : Ending) (w' : World) : Prop :=
  (match (runB m R cs).1 with
   | none => e = .returned (.tuple #[])
   | some (i, er) => e = .panicked [{ v := .iface 90 (.agg #[.int .i64 (i : Int), .int .i64 er]), recovered := false }]) ∧
  (∃ F', (∀ z, F' z → F z ∨ w.heap.size ≤ z) ∧ BookAt w' b F' m (runB m R cs).2 ∧ UndoAt w' u w.heap.size F' m R (runB m R cs).2) ∧ Chg (fun z => F z ∨ z = u) w w'
def AllRel (w : World) (b u : Nat) (F : Nat → Prop) (m : Lim) (R : List Rt) (cs : List Cm) (i : Value) (wr : World) : Prop :=
  ∃ (j : Nat) (Rj : List Rt) (F' : Nat → Prop), j ≤ cs.length ∧ i = .int .i64 j ∧ runB m R (cs.take j) = (none, Rj) ∧ (∀ z, F' z → (F z ∨ w.heap.size ≤ z) ∧ z < wr.heap.size) ∧ BookAt wr b F' m Rj ∧
    (∃ vu U, Blk wr u 60 [vu] ∧ Owns wr w.heap.size 87 4 vu j (rtsV U) ∧ Back m R U.reverse Rj ∧ (∀ z, vu.ownBlock = some z → ¬ F' z ∧ z ≠ u) ∧ U.length = j) ∧ Chg (fun z => F z ∨ z = u) w wr

section
variable {P : Program} {md : Region.Mode} {Q : Exit → Act → World → Prop} {S : World → Prop} {l : List Oper}
def ordTwo (md : Region.Mode) (ops : Array Oper) (ds : List Nat) (k1 k2 : Nat) : Bool :=
  (Region.ready md ops (doneL ops.size ds) == [k1, k2]) && decide (ds.length < ops.size)
/-- Either of two operations comes up next. -/
theorem ord_two {ds : List Nat} (k1 k2 : Nat) {o1 o2 : Oper} {a : Act} {w : World} (hi1 : l[k1]? = some o1) (hi2 : l[k2]? = some o2) (hB : ordTwo md l.toArray ds k1 k2 = true)
    (hw1 : Region.wanted o1 (yielded l.toArray a.tmps) = true) (hw2 : Region.wanted o2 (yielded l.toArray a.tmps) = true)
    (h1 : ∀ K : Act → World → Prop, Shut (∀ a w, S w → wpOrd P md l Q S (ds ++ [k1]) a w → K a w) → Oper.wp P o1 a w K Q)
    (h2 : ∀ K : Act → World → Prop, Shut (∀ a w, S w → wpOrd P md l Q S (ds ++ [k2]) a w → K a w) → Oper.wp P o2 a w K Q) : wpOrd P md l Q S ds a w := by
  simp only [ordTwo, Bool.and_eq_true, decide_eq_true_eq, beq_iff_eq] at hB
  obtain ⟨hr, h3⟩ := hB
  unfold wpOrd at h1 h2 ⊢
  rw [show l.toArray.size - ds.length = l.toArray.size - (ds.length + 1) + 1 by omega]
  refine wpAnyH_ready hr (by simp) (AllReadyH.cons (by simpa using hi1) (fun K' hK => ?_) (AllReadyH.cons (by simpa using hi2) (fun K' hK => ?_) AllReadyH.nil))
  · rw [if_pos hw1]
    refine h1 K' fun a w hS hW => hK.out a w hS fun _ => ?_
    rw [doneL_snoc, List.length_append, List.length_singleton] at hW
    exact hW
  · rw [if_pos hw2]
    refine h2 K' fun a w hS hW => hK.out a w hS fun _ => ?_
    rw [doneL_snoc, List.length_append, List.length_singleton] at hW
    exact hW
end
theorem rt_rowI : (Try.prog.info? 87).map (fun i => (i.zero, i.size, i.bytes)) = some (some (.agg #[.int .u64 0, .int .u64 0, .int .i64 0, .int .i64 0]), 4, 32) := by kernel_rfl

set_option maxHeartbeats 4000000 in
theorem book_all {w : World} {b u : Nat} {F : Nat → Prop} {m : Lim} {R : List Rt} (H : BookAt w b F m R) (v : Value) (cs : List Cm) (hR : Rd cmEn 10 w v cs) (hok : ∀ c ∈ cs, c.ok) (hlen : cs.length ≤ 50000)
    (hu : Blk w u 60 [.slice none 0 0]) (huF : ¬ F u) (hv : ∀ z, v.ownBlock = some z → ¬ F z ∧ z ≠ u) :
    Calls Try.prog 41 #[.pointer (some ⟨b, 0, none⟩), v, .pointer (some ⟨u, 0, none⟩)] w (AllPost w b u F m R cs) := by
  have HR := hid hR
  have HOK := hid (fun (j : Nat) (c : Cm) (h : cs[j]? = some c) => hok c (List.mem_of_getElem? h))
  have HV := hid hv
  have HUF := hid huF
  obtain ⟨A, cap, rfl, hnc, hcm⟩ := hR.form
  unfold maxLen at hcm
  obtain ⟨N, hN⟩ : ∃ N, cs.length = N := ⟨_, rfl⟩
  have HN := hid hN
  have H0 := hid H
  have HU := hid hu
  rw [hN] at hnc hlen HV HR ⊢
  have HALL := hid (show cs.take N = cs by rw [← hN, List.take_length])
  clear hR hok hN hv H hu huF
  go_enter Try.func41, Try.ntmps41
  go_wp2_with fail
  go_loopw [12] (fun i wr => AllRel w b u F m R cs i wr) (fun i _ => N - (intOf i).toNat)
  case atStart => exact ⟨0, R, fun z => F z ∧ z < w.heap.size, Nat.zero_le _, rfl, rfl, fun z hz => ⟨.inl hz.1, hz.2⟩, H0.out.mono (fun z hl hz => ⟨hz, hl⟩), ⟨_, [], HU.out, Owns.nil _ _ _ _, rfl, fun z hz => by simp [Value.ownBlock] at hz, rfl⟩, Chg.refl _ _⟩
  case round =>
    obtain ⟨j, Rj, F', hj, rfl, hrun, hF', hB, ⟨vu, U, hUb, hUo, hBk, hUd, hUl⟩, hC⟩ := hrel
    rw [HN.out] at hj
    have HRUN := hid hrun
    have HF' := hid hF'
    have HBO := hid hB
    have HUB := hid hUb
    have HUO := hid hUo
    have HBK := hid hBk
    have HUD := hid hUd
    have HUL := hid hUl
    have HC := hid hC
    by_cases hjn : j < N
    · obtain ⟨c, hc⟩ : ∃ c, cs[j]? = some c := ⟨_, List.getElem?_eq_getElem (by rw [HN.out]; exact hjn)⟩
      have hvS : ∀ z, (Value.slice A N cap).ownBlock = some z → ¬ (F z ∨ z = u) := fun z hz h => h.elim (HV.out z hz).1 (HV.out z hz).2
      obtain ⟨ba, oa, ca, hvv, _, _, la, sa⟩ := (HR.out.chg cmEn_len hC hvS).get cmEn_len (by decide) hc
      rw [HN.out] at hvv
      injection hvv with hA hxx hcc
      subst hA hcc
      have hco := HOK.out j c hc
      have HCO := hid hco
      have HCJ := hid hc
      obtain ⟨Ab, mb, cb, hbv⟩ := hco.b
      obtain ⟨Au, cu, rfl, _⟩ := hUo.form
      have j0 : (0 : Int) ≤ (j : Int) := by omega
      have j1 : (j : Int) < (N : Int) := by omega
      have ej : IntKind.i64.wrap ((j : Int) + 1) = (j : Int) + 1 := by rw [IntKind.wrap_i64]; omega
      have HJN := hid hjn
      clear hrun hF' hB hUb hUo hBk hUd hUl hC hc hco la hvS hxx hjn
      obtain ⟨k, hop, n, ⟨⟨p1, p2⟩, p3⟩, ⟨a1, a2⟩, s, bv⟩ := c
      simp only at hbv
      subst hbv
      have z0 : wr.cell? ⟨ba, oa + j * 10, none⟩ = some (.int .i64 k) := sa 0 _ rfl
      have z1 : wr.cell? ⟨ba, oa + j * 10 + 1, none⟩ = some (.int .i64 hop) := sa 1 _ rfl
      have z2 : wr.cell? ⟨ba, oa + j * 10 + 2, none⟩ = some (.int .i64 n) := sa 2 _ rfl
      have z3 : wr.cell? ⟨ba, oa + j * 10 + 3, none⟩ = some (.int .u64 (p1 : Int)) := sa 3 _ rfl
      have z4 : wr.cell? ⟨ba, oa + j * 10 + 4, none⟩ = some (.int .u64 (p2 : Int)) := sa 4 _ rfl
      have z5 : wr.cell? ⟨ba, oa + j * 10 + 5, none⟩ = some (.int .i64 p3) := sa 5 _ rfl
      have z6 : wr.cell? ⟨ba, oa + j * 10 + 6, none⟩ = some (.int .u64 (a1 : Int)) := sa 6 _ rfl
      have z7 : wr.cell? ⟨ba, oa + j * 10 + 7, none⟩ = some (.int .u64 (a2 : Int)) := sa 7 _ rfl
      have z8 : wr.cell? ⟨ba, oa + j * 10 + 8, none⟩ = some (.int .u64 (s : Int)) := sa 8 _ rfl
      have z9 : wr.cell? ⟨ba, oa + j * 10 + 9, none⟩ = some (.slice Ab mb cb) := sa 9 _ rfl
      clear sa
      have hb0 := (Below.refl wr.heap.size wr).alloc (Nat.le_refl _) (.cells #[.int .i64 k, .int .i64 hop, .int .i64 n, .int .u64 (p1 : Int), .int .u64 (p2 : Int), .int .i64 p3, .int .u64 (a1 : Int), .int .u64 (a2 : Int), .int .u64 (s : Int), .slice Ab mb cb] 53)
      have hcb := Blk.new_at wr #[.int .i64 k, .int .i64 hop, .int .i64 n, .int .u64 (p1 : Int), .int .u64 (p2 : Int), .int .i64 p3, .int .u64 (a1 : Int), .int .u64 (a2 : Int), .int .u64 (s : Int), .slice Ab mb cb] 53 wr.heap.size rfl
      have cK := hid (book_check (HBO.out.below hb0) _ HCO.out)
      simp only at cK
      obtain ⟨er, her⟩ : ∃ er, cmErr m Rj { k := k, hop := hop, n := n, p := ((p1, p2), p3), a := (a1, a2), s := s, b := .slice Ab mb cb } = er := ⟨_, rfl⟩
      rw [her] at cK
      have HER := hid her
      have HB0 := hid hb0
      have HCB := hid hcb
      have HNU := hid (show ¬ F' u from fun h => by
        have h1 := (HF'.out u h).1
        have h2 := HU.out.lt
        rcases h1 with h1 | h1
        · exact HUF.out h1
        · omega)
      clear her hb0 hcb
      go_wp2_with fail
      refine cK.out.mono ?_
      rintro _ w1 ⟨rfl, hb⟩
      have hb1 : Below wr.heap.size wr w1 := HB0.out.trans (hb.mono HB0.out.size)
      have HCB1 := hid (HCB.out.below' hb)
      have HBO1 := hid (HBO.out.below hb1)
      have HUB1 := hid (HUB.out.below' hb1)
      have HUO1 := hid (HUO.out.below hb1)
      have HOLD := hid (fun z hz => (HUO.out.base_le z hz).2)
      have HULT := hid (HUB.out.lt)
      have HC1 := hid (HC.out.trans' (Chg.of_below hb1 _))
      have hs1 := hb1.size
      have hcl := HCB1.out.lt
      clear hb hb1 z0 z1 z2 z3 z4 z5 z6 z7 z8 z9 cK HB0 HCB HBO HUB HUO HC
      by_cases he : er = 0
      · subst he
        have hgd := check_good HER.out
        have hinv := good_inv HBO1.out.inv HCO.out.p HCO.out.hop hgd
        have hroom := good_room hgd
        have hwh : (Lit.int .i64 (hopOf k hop)).wf = true := by
          unfold hopOf
          split
          · exact HCO.out.hop
          · decide
        have cS := hid (book_set (HBO1.out.below (Below.refl w1.heap.size w1).drew) ((p1, p2), p3) HCO.out.p (hopOf k hop) hwh hroom hinv)
        have HRN := hid (runB_next HRUN.out HCJ.out HER.out)
        have HBN := hid (back_step HBK.out HBO1.out.inv HCO.out.p hgd.right (hopOf k hop))
        unfold SetPost at cS
        simp only [cmSet] at HRN
        simp only at hwh hgd
        clear hgd hinv hroom hwh
        generalize setB Rj ((p1, p2), p3) (hopOf k hop) = R5 at *
        generalize wasV Rj ((p1, p2), p3) = was at *
        by_cases hk : k = 1

        · subst hk
          have hho : hopOf 1 hop = hop := if_pos rfl
          rw [hho] at cS
          have w1c := HCB1.out.cellv (i := 0) rfl
          have w1d := HCB1.out.cellv (i := 1) rfl
          clear hho
          go_wp2_with fail
          have hS : w1.drew.cell? ⟨wr.heap.size, 3, none⟩ = some (.int .u64 (p1 : Int)) ∧ w1.drew.cell? ⟨wr.heap.size, 4, none⟩ = some (.int .u64 (p2 : Int)) ∧ w1.drew.cell? ⟨wr.heap.size, 5, none⟩ = some (.int .i64 p3) := ⟨HCB1.out.cellv (i := 3) rfl, HCB1.out.cellv (i := 4) rfl, HCB1.out.cellv (i := 5) rfl⟩
          refine wp_region_ord (fun w' => w'.cell? ⟨wr.heap.size, 3, none⟩ = some (.int .u64 (p1 : Int)) ∧ w'.cell? ⟨wr.heap.size, 4, none⟩ = some (.int .u64 (p2 : Int)) ∧ w'.cell? ⟨wr.heap.size, 5, none⟩ = some (.int .i64 p3)) (by kernel_rfl) hS ?_
          refine ord_still 0 rfl (v := ?_) (by kernel_rfl) (fun _ _ _ h => h) rfl (fun W hW => ?_) hS ?_
          rotate_left
          · try dsimp only at hW
            go_simp
            try with_reducible rfl
          simp only [Act.put, List.setIfInBounds_toArray, List.set_cons_zero, List.set_cons_succ]
          refine ord_still 1 rfl (v := ?_) (by kernel_rfl) (fun _ _ _ h => h) rfl (fun W hW => ?_) hS ?_
          rotate_left
          · try dsimp only at hW
            go_simp
            try with_reducible rfl
          simp only [Act.put, List.setIfInBounds_toArray, List.set_cons_zero, List.set_cons_succ]
          refine ord_still 2 rfl (v := ?_) (by kernel_rfl) (fun _ _ _ h => h) rfl (fun W hW => ?_) hS ?_
          rotate_left
          · try dsimp only at hW
            go_simp
            try with_reducible rfl
          simp only [Act.put, List.setIfInBounds_toArray, List.set_cons_zero, List.set_cons_succ]
          refine ord_still 4 rfl (v := ?_) (by kernel_rfl) (fun _ _ _ h => h) rfl (fun W hW => ?_) hS ?_
          rotate_left
          · try dsimp only at hW
            go_simp
            try with_reducible rfl
          simp only [Act.put, List.setIfInBounds_toArray, List.set_cons_zero, List.set_cons_succ]
          refine ord_still 5 rfl (v := ?_) (by kernel_rfl) (fun _ _ _ h => h) rfl (fun W hW => ?_) hS ?_
          rotate_left
          · try dsimp only at hW
            go_simp
            try with_reducible rfl
          simp only [Act.put, List.setIfInBounds_toArray, List.set_cons_zero, List.set_cons_succ]
          refine ord_still 6 rfl (v := ?_) (by kernel_rfl) (fun _ _ _ h => h) rfl (fun W hW => ?_) hS ?_
          rotate_left
          · try dsimp only at hW
            go_simp
            try with_reducible rfl
          simp only [Act.put, List.setIfInBounds_toArray, List.set_cons_zero, List.set_cons_succ]
          refine ord_still 7 rfl (v := ?_) (by kernel_rfl) (fun _ _ _ h => h) rfl (fun W hW => ?_) hS ?_
          rotate_left
          · try dsimp only at hW
            go_simp
            try with_reducible rfl
          simp only [Act.put, List.setIfInBounds_toArray, List.set_cons_zero, List.set_cons_succ]
          refine ord_still 8 rfl (v := ?_) (by kernel_rfl) (fun _ _ _ h => h) rfl (fun W hW => ?_) hS ?_
          rotate_left
          · try dsimp only at hW
            go_simp
            try with_reducible rfl
          simp only [Act.put, List.setIfInBounds_toArray, List.set_cons_zero, List.set_cons_succ]
          refine ord_still 9 rfl (v := ?_) (by kernel_rfl) (fun _ _ _ h => h) rfl (fun W hW => ?_) hS ?_
          rotate_left
          · try dsimp only at hW
            go_simp
            try with_reducible rfl
          simp only [Act.put, List.setIfInBounds_toArray, List.set_cons_zero, List.set_cons_succ]
          refine ord_two 3 10 rfl rfl (by kernel_rfl) rfl rfl (fun K hK => ?_) (fun K hK => ?_)
          · skip
            have y0 := HUB1.out.cellv (i := 0) rfl
            go_simp
            refine hK.out _ _ hS ?_
            clear hK y0
            refine ord_alone 10 rfl (by kernel_rfl) rfl (fun K hK => ?_)
            go_simp
            refine (cS.out).mono ?_
            rintro _ w5 ⟨rfl, hB5, hC5⟩
            have hC5' : Chg F' w1 w5 := (Chg.refl F' w1).drew.trans' hC5
            have HB5 := hid (hB5.mono (G := fun z => (F' z ∨ w1.heap.size ≤ z) ∧ z < w5.heap.size) (fun z hz h => ⟨h, hz⟩))
            have HCB5 := hid (HCB1.out.chg hC5' (fun hz => by have := (HF'.out _ hz).2; omega))
            have HUB5 := hid (HUB1.out.chg hC5' HNU.out)
            have HUO5 := hid (HUO1.out.chg hC5' (fun z hz h => (HUD.out z hz).1 h))
            have HC5 := hid (HC1.out.trans hC5' (fun z hz h => by
              rcases (HF'.out z h).1 with h | h
              · exact .inl h
              · omega))
            have hs5 := hC5'.size
            clear hS hB5 hC5 hC5'
            have hS : w5.cell? ⟨wr.heap.size, 3, none⟩ = some (.int .u64 (p1 : Int)) ∧ w5.cell? ⟨wr.heap.size, 4, none⟩ = some (.int .u64 (p2 : Int)) ∧ w5.cell? ⟨wr.heap.size, 5, none⟩ = some (.int .i64 p3) := ⟨HCB5.out.cellv (i := 3) rfl, HCB5.out.cellv (i := 4) rfl, HCB5.out.cellv (i := 5) rfl⟩
            refine hK.out _ _ hS ?_
            clear hK
            refine ord_still 11 rfl (v := ?_) (by kernel_rfl) (fun _ _ _ h => h) rfl (fun W hW => ?_) hS ?_
            rotate_left
            · try dsimp only at hW
              go_simp
              try with_reducible rfl
            simp only [Act.put, List.setIfInBounds_toArray, List.set_cons_zero, List.set_cons_succ]
            refine ord_alone 12 rfl (by kernel_rfl) rfl (fun K hK => ?_)
            go_simp
            have HA := hid (show Below w5.heap.size w5 (w5.alloc (.cells #[.int .u64 (p1 : Int), .int .u64 (p2 : Int), .int .i64 p3, .int .i64 was] 87)) from (Below.refl _ _).alloc (Nat.le_refl _) _)
            clear hS
            have hS : (w5.alloc (.cells #[.int .u64 (p1 : Int), .int .u64 (p2 : Int), .int .i64 p3, .int .i64 was] 87)).cell? ⟨wr.heap.size, 3, none⟩ = some (.int .u64 (p1 : Int)) ∧ (w5.alloc (.cells #[.int .u64 (p1 : Int), .int .u64 (p2 : Int), .int .i64 p3, .int .i64 was] 87)).cell? ⟨wr.heap.size, 4, none⟩ = some (.int .u64 (p2 : Int)) ∧ (w5.alloc (.cells #[.int .u64 (p1 : Int), .int .u64 (p2 : Int), .int .i64 p3, .int .i64 was] 87)).cell? ⟨wr.heap.size, 5, none⟩ = some (.int .i64 p3) := ⟨(HCB5.out.below HA.out (by have := HCB5.out.lt; omega)).cellv (i := 3) rfl, (HCB5.out.below HA.out (by have := HCB5.out.lt; omega)).cellv (i := 4) rfl, (HCB5.out.below HA.out (by have := HCB5.out.lt; omega)).cellv (i := 5) rfl⟩
            refine hK.out _ _ hS ?_
            clear hK
            have hA := HA.out
            have hBk : Blk (w5.alloc (.cells #[.int .u64 (p1 : Int), .int .u64 (p2 : Int), .int .i64 p3, .int .i64 was] 87)) w5.heap.size 87 (([(((p1, p2), p3), was)] : List Rt).flatMap rtEn) := Blk.new w5 _ _
            have hOA := Owns.below HUO5.out hA
            refine ord_alone 13 rfl (by kernel_rfl) rfl (fun K hK => ?_)
            refine wp_append_rdb _ _ 60 rfl 87 _ 4 32 Try.underlying60 rt_rowI rfl (by decide) w.heap.size _ j _ rfl hOA _ _ ([(((p1, p2), p3), was)] : List Rt) rfl (row_of_blk (l := ([(((p1, p2), p3), was)] : List Rt)) hBk rtEn_length) rtEn_length cells_rt ?_ ?_ ?_ ?_
            · simp only [List.length_singleton]; unfold maxLen; omega
            · simp only [List.length_singleton]; omega
            · have h1 := HC5.out.size
              simp; omega
            intro v6 w6 hO hin hC
            have hC6 : Chg (fun g => (Value.slice Au j cu).ownBlock = some g) w5 w6 := ((Chg.refl (fun g => (Value.slice Au j cu).ownBlock = some g) w5).alloc (.cells #[.int .u64 (p1 : Int), .int .u64 (p2 : Int), .int .i64 p3, .int .i64 was] 87)).trans' hC
            have hown := fun z hz => HUO5.out.base_le z hz
            have HB6 := hid (HB5.out.chg hC6 (fun z hz h k => by
              rcases h.1 with h1 | h1
              · exact (HUD.out z k).1 h1
              · have := (HOLD.out z k); omega))
            have HUB6 := hid (HUB5.out.chg hC6 (fun k => (HUD.out u k).2 rfl))
            have HCB6 := hid (HCB5.out.chg hC6 (fun k => by have := HOLD.out _ k; omega))
            have HO6 := hid hO
            have HC6 := hid (HC5.out.trans hC6 (fun z hz k => by have := (hown z k).1; omega))
            have hs6 := hC6.size
            have HIN6 := hid (show ∀ z, v6.ownBlock = some z → ¬ ((F' z ∨ w1.heap.size ≤ z) ∧ z < w5.heap.size) ∧ z ≠ u by
              intro z hz
              rcases hin z hz with k | k
              · have h1 := HUD.out z k
                have h2 := HOLD.out z k
                exact ⟨fun h => h.1.elim h1.1 (fun h => by omega), h1.2⟩
              · simp only [World.size_alloc] at k
                have := HULT.out
                exact ⟨fun h => by omega, by omega⟩)
            have hf := HUB6.out.frozen 0
            obtain ⟨A6, c6, rfl, _⟩ := hO.form
            clear hS hA hBk hOA hO hin hC hC6 hown
            have hS : w6.cell? ⟨wr.heap.size, 3, none⟩ = some (.int .u64 (p1 : Int)) ∧ w6.cell? ⟨wr.heap.size, 4, none⟩ = some (.int .u64 (p2 : Int)) ∧ w6.cell? ⟨wr.heap.size, 5, none⟩ = some (.int .i64 p3) := ⟨HCB6.out.cellv (i := 3) rfl, HCB6.out.cellv (i := 4) rfl, HCB6.out.cellv (i := 5) rfl⟩
            refine hK.out _ _ hS ?_
            clear hK
            refine ord_still 14 rfl (v := ?_) (by kernel_rfl) (fun _ _ _ h => h) rfl (fun W hW => ?_) hS ?_
            rotate_left
            · try dsimp only at hW
              go_simp
              try with_reducible rfl
            simp only [Act.put, List.setIfInBounds_toArray, List.set_cons_zero, List.set_cons_succ]
            refine ord_alone 15 rfl (by kernel_rfl) rfl (fun K hK => ?_)
            have y6 := HUB6.out.cellv (i := 0) rfl
            go_simp
            clear y6
            have hne : wr.heap.size ≠ u := by have := HULT.out; omega
            have HB7 := hid (HB6.out.chg (Chg.store w6 u 0 (.slice A6 (j + 1) c6)) (fun z hz h k => by
              subst k
              rcases h.1 with h1 | h1
              · exact HNU.out h1
              · have := HULT.out; omega))
            have HUB7 := hid (HUB6.out.set 0 (.slice A6 (j + 1) c6))
            have HCB7 := hid (HCB6.out.set_ne (a := ⟨u, 0, none⟩) hne (.slice A6 (j + 1) c6))
            have HO7 := hid (HO6.out.chg (Chg.store w6 u 0 (.slice A6 (j + 1) c6)) (fun z hz k => (HIN6.out z hz).2 k))
            have HC7 := hid (HC6.out.trans (Chg.store w6 u 0 (.slice A6 (j + 1) c6)) (fun z _ k => .inr k))
            have hs7 := (Chg.store w6 u 0 (.slice A6 (j + 1) c6)).size
            clear hS
            have hS : (w6.setCell ⟨u, 0, none⟩ (.slice A6 (j + 1) c6)).cell? ⟨wr.heap.size, 3, none⟩ = some (.int .u64 (p1 : Int)) ∧ (w6.setCell ⟨u, 0, none⟩ (.slice A6 (j + 1) c6)).cell? ⟨wr.heap.size, 4, none⟩ = some (.int .u64 (p2 : Int)) ∧ (w6.setCell ⟨u, 0, none⟩ (.slice A6 (j + 1) c6)).cell? ⟨wr.heap.size, 5, none⟩ = some (.int .i64 p3) := ⟨HCB7.out.cellv (i := 3) rfl, HCB7.out.cellv (i := 4) rfl, HCB7.out.cellv (i := 5) rfl⟩
            refine hK.out _ _ hS ?_
            clear hK
            refine ord_done (by kernel_rfl) ?_
            clear hS
            go_wp2_with fail
            go_roundw
            case rel =>
              refine ⟨j + 1, _, _, by rw [HN.out]; exact HJN.out, by go_num, HRN.out, fun z hz => ⟨?_, by omega⟩, HB7.out, ⟨_, U ++ [(((p1, p2), p3), was)], HUB7.out, ?_, ?_, HIN6.out, by rw [List.length_append, List.length_singleton, HUL.out]⟩, HC7.out⟩
              · rcases hz.1 with h | h
                · exact (HF'.out z h).1
                · exact .inr (by have := HC1.out.size; omega)
              · unfold rtsV
                rw [List.flatMap_append]
                exact HO7.out
              · rw [List.reverse_append]
                exact HBN.out
            case measure => have := HJN.out; simp only [intOf]; omega
          · skip
            go_simp
            refine (cS.out).mono ?_
            rintro _ w5 ⟨rfl, hB5, hC5⟩
            have hC5' : Chg F' w1 w5 := (Chg.refl F' w1).drew.trans' hC5
            have HB5 := hid (hB5.mono (G := fun z => (F' z ∨ w1.heap.size ≤ z) ∧ z < w5.heap.size) (fun z hz h => ⟨h, hz⟩))
            have HCB5 := hid (HCB1.out.chg hC5' (fun hz => by have := (HF'.out _ hz).2; omega))
            have HUB5 := hid (HUB1.out.chg hC5' HNU.out)
            have HUO5 := hid (HUO1.out.chg hC5' (fun z hz h => (HUD.out z hz).1 h))
            have HC5 := hid (HC1.out.trans hC5' (fun z hz h => by
              rcases (HF'.out z h).1 with h | h
              · exact .inl h
              · omega))
            have hs5 := hC5'.size
            clear hS hB5 hC5 hC5'
            have hS : w5.cell? ⟨wr.heap.size, 3, none⟩ = some (.int .u64 (p1 : Int)) ∧ w5.cell? ⟨wr.heap.size, 4, none⟩ = some (.int .u64 (p2 : Int)) ∧ w5.cell? ⟨wr.heap.size, 5, none⟩ = some (.int .i64 p3) := ⟨HCB5.out.cellv (i := 3) rfl, HCB5.out.cellv (i := 4) rfl, HCB5.out.cellv (i := 5) rfl⟩
            refine hK.out _ _ hS ?_
            clear hK
            refine ord_still 11 rfl (v := ?_) (by kernel_rfl) (fun _ _ _ h => h) rfl (fun W hW => ?_) hS ?_
            rotate_left
            · try dsimp only at hW
              go_simp
              try with_reducible rfl
            simp only [Act.put, List.setIfInBounds_toArray, List.set_cons_zero, List.set_cons_succ]
            refine ord_two 3 12 rfl rfl (by kernel_rfl) rfl rfl (fun K hK => ?_) (fun K hK => ?_)
            · skip
              have y0 := HUB5.out.cellv (i := 0) rfl
              go_simp
              refine hK.out _ _ hS ?_
              clear hK y0
              refine ord_alone 12 rfl (by kernel_rfl) rfl (fun K hK => ?_)
              go_simp
              have HA := hid (show Below w5.heap.size w5 (w5.alloc (.cells #[.int .u64 (p1 : Int), .int .u64 (p2 : Int), .int .i64 p3, .int .i64 was] 87)) from (Below.refl _ _).alloc (Nat.le_refl _) _)
              clear hS
              have hS : (w5.alloc (.cells #[.int .u64 (p1 : Int), .int .u64 (p2 : Int), .int .i64 p3, .int .i64 was] 87)).cell? ⟨wr.heap.size, 3, none⟩ = some (.int .u64 (p1 : Int)) ∧ (w5.alloc (.cells #[.int .u64 (p1 : Int), .int .u64 (p2 : Int), .int .i64 p3, .int .i64 was] 87)).cell? ⟨wr.heap.size, 4, none⟩ = some (.int .u64 (p2 : Int)) ∧ (w5.alloc (.cells #[.int .u64 (p1 : Int), .int .u64 (p2 : Int), .int .i64 p3, .int .i64 was] 87)).cell? ⟨wr.heap.size, 5, none⟩ = some (.int .i64 p3) := ⟨(HCB5.out.below HA.out (by have := HCB5.out.lt; omega)).cellv (i := 3) rfl, (HCB5.out.below HA.out (by have := HCB5.out.lt; omega)).cellv (i := 4) rfl, (HCB5.out.below HA.out (by have := HCB5.out.lt; omega)).cellv (i := 5) rfl⟩
              refine hK.out _ _ hS ?_
              clear hK
              have hA := HA.out
              have hBk : Blk (w5.alloc (.cells #[.int .u64 (p1 : Int), .int .u64 (p2 : Int), .int .i64 p3, .int .i64 was] 87)) w5.heap.size 87 (([(((p1, p2), p3), was)] : List Rt).flatMap rtEn) := Blk.new w5 _ _
              have hOA := Owns.below HUO5.out hA
              refine ord_alone 13 rfl (by kernel_rfl) rfl (fun K hK => ?_)
              refine wp_append_rdb _ _ 60 rfl 87 _ 4 32 Try.underlying60 rt_rowI rfl (by decide) w.heap.size _ j _ rfl hOA _ _ ([(((p1, p2), p3), was)] : List Rt) rfl (row_of_blk (l := ([(((p1, p2), p3), was)] : List Rt)) hBk rtEn_length) rtEn_length cells_rt ?_ ?_ ?_ ?_
              · simp only [List.length_singleton]; unfold maxLen; omega
              · simp only [List.length_singleton]; omega
              · have h1 := HC5.out.size
                simp; omega
              intro v6 w6 hO hin hC
              have hC6 : Chg (fun g => (Value.slice Au j cu).ownBlock = some g) w5 w6 := ((Chg.refl (fun g => (Value.slice Au j cu).ownBlock = some g) w5).alloc (.cells #[.int .u64 (p1 : Int), .int .u64 (p2 : Int), .int .i64 p3, .int .i64 was] 87)).trans' hC
              have hown := fun z hz => HUO5.out.base_le z hz
              have HB6 := hid (HB5.out.chg hC6 (fun z hz h k => by
                rcases h.1 with h1 | h1
                · exact (HUD.out z k).1 h1
                · have := (HOLD.out z k); omega))
              have HUB6 := hid (HUB5.out.chg hC6 (fun k => (HUD.out u k).2 rfl))
              have HCB6 := hid (HCB5.out.chg hC6 (fun k => by have := HOLD.out _ k; omega))
              have HO6 := hid hO
              have HC6 := hid (HC5.out.trans hC6 (fun z hz k => by have := (hown z k).1; omega))
              have hs6 := hC6.size
              have HIN6 := hid (show ∀ z, v6.ownBlock = some z → ¬ ((F' z ∨ w1.heap.size ≤ z) ∧ z < w5.heap.size) ∧ z ≠ u by
                intro z hz
                rcases hin z hz with k | k
                · have h1 := HUD.out z k
                  have h2 := HOLD.out z k
                  exact ⟨fun h => h.1.elim h1.1 (fun h => by omega), h1.2⟩
                · simp only [World.size_alloc] at k
                  have := HULT.out
                  exact ⟨fun h => by omega, by omega⟩)
              have hf := HUB6.out.frozen 0
              obtain ⟨A6, c6, rfl, _⟩ := hO.form
              clear hS hA hBk hOA hO hin hC hC6 hown
              have hS : w6.cell? ⟨wr.heap.size, 3, none⟩ = some (.int .u64 (p1 : Int)) ∧ w6.cell? ⟨wr.heap.size, 4, none⟩ = some (.int .u64 (p2 : Int)) ∧ w6.cell? ⟨wr.heap.size, 5, none⟩ = some (.int .i64 p3) := ⟨HCB6.out.cellv (i := 3) rfl, HCB6.out.cellv (i := 4) rfl, HCB6.out.cellv (i := 5) rfl⟩
              refine hK.out _ _ hS ?_
              clear hK
              refine ord_still 14 rfl (v := ?_) (by kernel_rfl) (fun _ _ _ h => h) rfl (fun W hW => ?_) hS ?_
              rotate_left
              · try dsimp only at hW
                go_simp
                try with_reducible rfl
              simp only [Act.put, List.setIfInBounds_toArray, List.set_cons_zero, List.set_cons_succ]
              refine ord_alone 15 rfl (by kernel_rfl) rfl (fun K hK => ?_)
              have y6 := HUB6.out.cellv (i := 0) rfl
              go_simp
              clear y6
              have hne : wr.heap.size ≠ u := by have := HULT.out; omega
              have HB7 := hid (HB6.out.chg (Chg.store w6 u 0 (.slice A6 (j + 1) c6)) (fun z hz h k => by
                subst k
                rcases h.1 with h1 | h1
                · exact HNU.out h1
                · have := HULT.out; omega))
              have HUB7 := hid (HUB6.out.set 0 (.slice A6 (j + 1) c6))
              have HCB7 := hid (HCB6.out.set_ne (a := ⟨u, 0, none⟩) hne (.slice A6 (j + 1) c6))
              have HO7 := hid (HO6.out.chg (Chg.store w6 u 0 (.slice A6 (j + 1) c6)) (fun z hz k => (HIN6.out z hz).2 k))
              have HC7 := hid (HC6.out.trans (Chg.store w6 u 0 (.slice A6 (j + 1) c6)) (fun z _ k => .inr k))
              have hs7 := (Chg.store w6 u 0 (.slice A6 (j + 1) c6)).size
              clear hS
              have hS : (w6.setCell ⟨u, 0, none⟩ (.slice A6 (j + 1) c6)).cell? ⟨wr.heap.size, 3, none⟩ = some (.int .u64 (p1 : Int)) ∧ (w6.setCell ⟨u, 0, none⟩ (.slice A6 (j + 1) c6)).cell? ⟨wr.heap.size, 4, none⟩ = some (.int .u64 (p2 : Int)) ∧ (w6.setCell ⟨u, 0, none⟩ (.slice A6 (j + 1) c6)).cell? ⟨wr.heap.size, 5, none⟩ = some (.int .i64 p3) := ⟨HCB7.out.cellv (i := 3) rfl, HCB7.out.cellv (i := 4) rfl, HCB7.out.cellv (i := 5) rfl⟩
              refine hK.out _ _ hS ?_
              clear hK
              refine ord_done (by kernel_rfl) ?_
              clear hS
              go_wp2_with fail
              go_roundw
              case rel =>
                refine ⟨j + 1, _, _, by rw [HN.out]; exact HJN.out, by go_num, HRN.out, fun z hz => ⟨?_, by omega⟩, HB7.out, ⟨_, U ++ [(((p1, p2), p3), was)], HUB7.out, ?_, ?_, HIN6.out, by rw [List.length_append, List.length_singleton, HUL.out]⟩, HC7.out⟩
                · rcases hz.1 with h | h
                  · exact (HF'.out z h).1
                  · exact .inr (by have := HC1.out.size; omega)
                · unfold rtsV
                  rw [List.flatMap_append]
                  exact HO7.out
                · rw [List.reverse_append]
                  exact HBN.out
              case measure => have := HJN.out; simp only [intOf]; omega
            · skip
              go_simp
              have HA := hid (show Below w5.heap.size w5 (w5.alloc (.cells #[.int .u64 (p1 : Int), .int .u64 (p2 : Int), .int .i64 p3, .int .i64 was] 87)) from (Below.refl _ _).alloc (Nat.le_refl _) _)
              clear hS
              have hS : (w5.alloc (.cells #[.int .u64 (p1 : Int), .int .u64 (p2 : Int), .int .i64 p3, .int .i64 was] 87)).cell? ⟨wr.heap.size, 3, none⟩ = some (.int .u64 (p1 : Int)) ∧ (w5.alloc (.cells #[.int .u64 (p1 : Int), .int .u64 (p2 : Int), .int .i64 p3, .int .i64 was] 87)).cell? ⟨wr.heap.size, 4, none⟩ = some (.int .u64 (p2 : Int)) ∧ (w5.alloc (.cells #[.int .u64 (p1 : Int), .int .u64 (p2 : Int), .int .i64 p3, .int .i64 was] 87)).cell? ⟨wr.heap.size, 5, none⟩ = some (.int .i64 p3) := ⟨(HCB5.out.below HA.out (by have := HCB5.out.lt; omega)).cellv (i := 3) rfl, (HCB5.out.below HA.out (by have := HCB5.out.lt; omega)).cellv (i := 4) rfl, (HCB5.out.below HA.out (by have := HCB5.out.lt; omega)).cellv (i := 5) rfl⟩
              refine hK.out _ _ hS ?_
              clear hK
              refine ord_alone 3 rfl (by kernel_rfl) rfl (fun K hK => ?_)
              have HUB5' := hid (HUB5.out.below' HA.out)
              have y0 := HUB5'.out.cellv (i := 0) rfl
              go_simp
              refine hK.out _ _ hS ?_
              clear hK y0
              have hA := HA.out
              have hBk : Blk (w5.alloc (.cells #[.int .u64 (p1 : Int), .int .u64 (p2 : Int), .int .i64 p3, .int .i64 was] 87)) w5.heap.size 87 (([(((p1, p2), p3), was)] : List Rt).flatMap rtEn) := Blk.new w5 _ _
              have hOA := Owns.below HUO5.out hA
              refine ord_alone 13 rfl (by kernel_rfl) rfl (fun K hK => ?_)
              refine wp_append_rdb _ _ 60 rfl 87 _ 4 32 Try.underlying60 rt_rowI rfl (by decide) w.heap.size _ j _ rfl hOA _ _ ([(((p1, p2), p3), was)] : List Rt) rfl (row_of_blk (l := ([(((p1, p2), p3), was)] : List Rt)) hBk rtEn_length) rtEn_length cells_rt ?_ ?_ ?_ ?_
              · simp only [List.length_singleton]; unfold maxLen; omega
              · simp only [List.length_singleton]; omega
              · have h1 := HC5.out.size
                simp; omega
              intro v6 w6 hO hin hC
              have hC6 : Chg (fun g => (Value.slice Au j cu).ownBlock = some g) w5 w6 := ((Chg.refl (fun g => (Value.slice Au j cu).ownBlock = some g) w5).alloc (.cells #[.int .u64 (p1 : Int), .int .u64 (p2 : Int), .int .i64 p3, .int .i64 was] 87)).trans' hC
              have hown := fun z hz => HUO5.out.base_le z hz
              have HB6 := hid (HB5.out.chg hC6 (fun z hz h k => by
                rcases h.1 with h1 | h1
                · exact (HUD.out z k).1 h1
                · have := (HOLD.out z k); omega))
              have HUB6 := hid (HUB5.out.chg hC6 (fun k => (HUD.out u k).2 rfl))
              have HCB6 := hid (HCB5.out.chg hC6 (fun k => by have := HOLD.out _ k; omega))
              have HO6 := hid hO
              have HC6 := hid (HC5.out.trans hC6 (fun z hz k => by have := (hown z k).1; omega))
              have hs6 := hC6.size
              have HIN6 := hid (show ∀ z, v6.ownBlock = some z → ¬ ((F' z ∨ w1.heap.size ≤ z) ∧ z < w5.heap.size) ∧ z ≠ u by
                intro z hz
                rcases hin z hz with k | k
                · have h1 := HUD.out z k
                  have h2 := HOLD.out z k
                  exact ⟨fun h => h.1.elim h1.1 (fun h => by omega), h1.2⟩
                · simp only [World.size_alloc] at k
                  have := HULT.out
                  exact ⟨fun h => by omega, by omega⟩)
              have hf := HUB6.out.frozen 0
              obtain ⟨A6, c6, rfl, _⟩ := hO.form
              clear hS hA hBk hOA hO hin hC hC6 hown
              have hS : w6.cell? ⟨wr.heap.size, 3, none⟩ = some (.int .u64 (p1 : Int)) ∧ w6.cell? ⟨wr.heap.size, 4, none⟩ = some (.int .u64 (p2 : Int)) ∧ w6.cell? ⟨wr.heap.size, 5, none⟩ = some (.int .i64 p3) := ⟨HCB6.out.cellv (i := 3) rfl, HCB6.out.cellv (i := 4) rfl, HCB6.out.cellv (i := 5) rfl⟩
              refine hK.out _ _ hS ?_
              clear hK
              refine ord_still 14 rfl (v := ?_) (by kernel_rfl) (fun _ _ _ h => h) rfl (fun W hW => ?_) hS ?_
              rotate_left
              · try dsimp only at hW
                go_simp
                try with_reducible rfl
              simp only [Act.put, List.setIfInBounds_toArray, List.set_cons_zero, List.set_cons_succ]
              refine ord_alone 15 rfl (by kernel_rfl) rfl (fun K hK => ?_)
              have y6 := HUB6.out.cellv (i := 0) rfl
              go_simp
              clear y6
              have hne : wr.heap.size ≠ u := by have := HULT.out; omega
              have HB7 := hid (HB6.out.chg (Chg.store w6 u 0 (.slice A6 (j + 1) c6)) (fun z hz h k => by
                subst k
                rcases h.1 with h1 | h1
                · exact HNU.out h1
                · have := HULT.out; omega))
              have HUB7 := hid (HUB6.out.set 0 (.slice A6 (j + 1) c6))
              have HCB7 := hid (HCB6.out.set_ne (a := ⟨u, 0, none⟩) hne (.slice A6 (j + 1) c6))
              have HO7 := hid (HO6.out.chg (Chg.store w6 u 0 (.slice A6 (j + 1) c6)) (fun z hz k => (HIN6.out z hz).2 k))
              have HC7 := hid (HC6.out.trans (Chg.store w6 u 0 (.slice A6 (j + 1) c6)) (fun z _ k => .inr k))
              have hs7 := (Chg.store w6 u 0 (.slice A6 (j + 1) c6)).size
              clear hS
              have hS : (w6.setCell ⟨u, 0, none⟩ (.slice A6 (j + 1) c6)).cell? ⟨wr.heap.size, 3, none⟩ = some (.int .u64 (p1 : Int)) ∧ (w6.setCell ⟨u, 0, none⟩ (.slice A6 (j + 1) c6)).cell? ⟨wr.heap.size, 4, none⟩ = some (.int .u64 (p2 : Int)) ∧ (w6.setCell ⟨u, 0, none⟩ (.slice A6 (j + 1) c6)).cell? ⟨wr.heap.size, 5, none⟩ = some (.int .i64 p3) := ⟨HCB7.out.cellv (i := 3) rfl, HCB7.out.cellv (i := 4) rfl, HCB7.out.cellv (i := 5) rfl⟩
              refine hK.out _ _ hS ?_
              clear hK
              refine ord_done (by kernel_rfl) ?_
              clear hS
              go_wp2_with fail
              go_roundw
              case rel =>
                refine ⟨j + 1, _, _, by rw [HN.out]; exact HJN.out, by go_num, HRN.out, fun z hz => ⟨?_, by omega⟩, HB7.out, ⟨_, U ++ [(((p1, p2), p3), was)], HUB7.out, ?_, ?_, HIN6.out, by rw [List.length_append, List.length_singleton, HUL.out]⟩, HC7.out⟩
                · rcases hz.1 with h | h
                  · exact (HF'.out z h).1
                  · exact .inr (by have := HC1.out.size; omega)
                · unfold rtsV
                  rw [List.flatMap_append]
                  exact HO7.out
                · rw [List.reverse_append]
                  exact HBN.out
              case measure => have := HJN.out; simp only [intOf]; omega
        · have hho : hopOf k hop = -1 := if_neg hk
          rw [hho] at cS
          have w1c := HCB1.out.cellv (i := 0) rfl
          have e1 : (k == 1) = false := by rw [beq_eq_false_iff_ne]; exact hk
          clear hho hk
          go_wp2_with fail
          have hS : w1.drew.cell? ⟨wr.heap.size, 3, none⟩ = some (.int .u64 (p1 : Int)) ∧ w1.drew.cell? ⟨wr.heap.size, 4, none⟩ = some (.int .u64 (p2 : Int)) ∧ w1.drew.cell? ⟨wr.heap.size, 5, none⟩ = some (.int .i64 p3) := ⟨HCB1.out.cellv (i := 3) rfl, HCB1.out.cellv (i := 4) rfl, HCB1.out.cellv (i := 5) rfl⟩
          refine wp_region_ord (fun w' => w'.cell? ⟨wr.heap.size, 3, none⟩ = some (.int .u64 (p1 : Int)) ∧ w'.cell? ⟨wr.heap.size, 4, none⟩ = some (.int .u64 (p2 : Int)) ∧ w'.cell? ⟨wr.heap.size, 5, none⟩ = some (.int .i64 p3)) (by kernel_rfl) hS ?_
          refine ord_still 0 rfl (v := ?_) (by kernel_rfl) (fun _ _ _ h => h) rfl (fun W hW => ?_) hS ?_
          rotate_left
          · try dsimp only at hW
            go_simp
            try with_reducible rfl
          simp only [Act.put, List.setIfInBounds_toArray, List.set_cons_zero, List.set_cons_succ]
          refine ord_still 1 rfl (v := ?_) (by kernel_rfl) (fun _ _ _ h => h) rfl (fun W hW => ?_) hS ?_
          rotate_left
          · try dsimp only at hW
            go_simp
            try with_reducible rfl
          simp only [Act.put, List.setIfInBounds_toArray, List.set_cons_zero, List.set_cons_succ]
          refine ord_still 2 rfl (v := ?_) (by kernel_rfl) (fun _ _ _ h => h) rfl (fun W hW => ?_) hS ?_
          rotate_left
          · try dsimp only at hW
            go_simp
            try with_reducible rfl
          simp only [Act.put, List.setIfInBounds_toArray, List.set_cons_zero, List.set_cons_succ]
          refine ord_still 4 rfl (v := ?_) (by kernel_rfl) (fun _ _ _ h => h) rfl (fun W hW => ?_) hS ?_
          rotate_left
          · try dsimp only at hW
            go_simp
            try with_reducible rfl
          simp only [Act.put, List.setIfInBounds_toArray, List.set_cons_zero, List.set_cons_succ]
          refine ord_still 5 rfl (v := ?_) (by kernel_rfl) (fun _ _ _ h => h) rfl (fun W hW => ?_) hS ?_
          rotate_left
          · try dsimp only at hW
            go_simp
            try with_reducible rfl
          simp only [Act.put, List.setIfInBounds_toArray, List.set_cons_zero, List.set_cons_succ]
          refine ord_still 6 rfl (v := ?_) (by kernel_rfl) (fun _ _ _ h => h) rfl (fun W hW => ?_) hS ?_
          rotate_left
          · try dsimp only at hW
            go_simp
            try with_reducible rfl
          simp only [Act.put, List.setIfInBounds_toArray, List.set_cons_zero, List.set_cons_succ]
          refine ord_still 7 rfl (v := ?_) (by kernel_rfl) (fun _ _ _ h => h) rfl (fun W hW => ?_) hS ?_
          rotate_left
          · try dsimp only at hW
            go_simp
            try with_reducible rfl
          simp only [Act.put, List.setIfInBounds_toArray, List.set_cons_zero, List.set_cons_succ]
          refine ord_still 8 rfl (v := ?_) (by kernel_rfl) (fun _ _ _ h => h) rfl (fun W hW => ?_) hS ?_
          rotate_left
          · try dsimp only at hW
            go_simp
            try with_reducible rfl
          simp only [Act.put, List.setIfInBounds_toArray, List.set_cons_zero, List.set_cons_succ]
          refine ord_still 9 rfl (v := ?_) (by kernel_rfl) (fun _ _ _ h => h) rfl (fun W hW => ?_) hS ?_
          rotate_left
          · try dsimp only at hW
            go_simp
            try with_reducible rfl
          simp only [Act.put, List.setIfInBounds_toArray, List.set_cons_zero, List.set_cons_succ]
          refine ord_two 3 10 rfl rfl (by kernel_rfl) rfl rfl (fun K hK => ?_) (fun K hK => ?_)
          · skip
            have y0 := HUB1.out.cellv (i := 0) rfl
            go_simp
            refine hK.out _ _ hS ?_
            clear hK y0
            refine ord_alone 10 rfl (by kernel_rfl) rfl (fun K hK => ?_)
            go_simp
            refine (cS.out).mono ?_
            rintro _ w5 ⟨rfl, hB5, hC5⟩
            have hC5' : Chg F' w1 w5 := (Chg.refl F' w1).drew.trans' hC5
            have HB5 := hid (hB5.mono (G := fun z => (F' z ∨ w1.heap.size ≤ z) ∧ z < w5.heap.size) (fun z hz h => ⟨h, hz⟩))
            have HCB5 := hid (HCB1.out.chg hC5' (fun hz => by have := (HF'.out _ hz).2; omega))
            have HUB5 := hid (HUB1.out.chg hC5' HNU.out)
            have HUO5 := hid (HUO1.out.chg hC5' (fun z hz h => (HUD.out z hz).1 h))
            have HC5 := hid (HC1.out.trans hC5' (fun z hz h => by
              rcases (HF'.out z h).1 with h | h
              · exact .inl h
              · omega))
            have hs5 := hC5'.size
            clear hS hB5 hC5 hC5'
            have hS : w5.cell? ⟨wr.heap.size, 3, none⟩ = some (.int .u64 (p1 : Int)) ∧ w5.cell? ⟨wr.heap.size, 4, none⟩ = some (.int .u64 (p2 : Int)) ∧ w5.cell? ⟨wr.heap.size, 5, none⟩ = some (.int .i64 p3) := ⟨HCB5.out.cellv (i := 3) rfl, HCB5.out.cellv (i := 4) rfl, HCB5.out.cellv (i := 5) rfl⟩
            refine hK.out _ _ hS ?_
            clear hK
            refine ord_still 11 rfl (v := ?_) (by kernel_rfl) (fun _ _ _ h => h) rfl (fun W hW => ?_) hS ?_
            rotate_left
            · try dsimp only at hW
              go_simp
              try with_reducible rfl
            simp only [Act.put, List.setIfInBounds_toArray, List.set_cons_zero, List.set_cons_succ]
            refine ord_alone 12 rfl (by kernel_rfl) rfl (fun K hK => ?_)
            go_simp
            have HA := hid (show Below w5.heap.size w5 (w5.alloc (.cells #[.int .u64 (p1 : Int), .int .u64 (p2 : Int), .int .i64 p3, .int .i64 was] 87)) from (Below.refl _ _).alloc (Nat.le_refl _) _)
            clear hS
            have hS : (w5.alloc (.cells #[.int .u64 (p1 : Int), .int .u64 (p2 : Int), .int .i64 p3, .int .i64 was] 87)).cell? ⟨wr.heap.size, 3, none⟩ = some (.int .u64 (p1 : Int)) ∧ (w5.alloc (.cells #[.int .u64 (p1 : Int), .int .u64 (p2 : Int), .int .i64 p3, .int .i64 was] 87)).cell? ⟨wr.heap.size, 4, none⟩ = some (.int .u64 (p2 : Int)) ∧ (w5.alloc (.cells #[.int .u64 (p1 : Int), .int .u64 (p2 : Int), .int .i64 p3, .int .i64 was] 87)).cell? ⟨wr.heap.size, 5, none⟩ = some (.int .i64 p3) := ⟨(HCB5.out.below HA.out (by have := HCB5.out.lt; omega)).cellv (i := 3) rfl, (HCB5.out.below HA.out (by have := HCB5.out.lt; omega)).cellv (i := 4) rfl, (HCB5.out.below HA.out (by have := HCB5.out.lt; omega)).cellv (i := 5) rfl⟩
            refine hK.out _ _ hS ?_
            clear hK
            have hA := HA.out
            have hBk : Blk (w5.alloc (.cells #[.int .u64 (p1 : Int), .int .u64 (p2 : Int), .int .i64 p3, .int .i64 was] 87)) w5.heap.size 87 (([(((p1, p2), p3), was)] : List Rt).flatMap rtEn) := Blk.new w5 _ _
            have hOA := Owns.below HUO5.out hA
            refine ord_alone 13 rfl (by kernel_rfl) rfl (fun K hK => ?_)
            refine wp_append_rdb _ _ 60 rfl 87 _ 4 32 Try.underlying60 rt_rowI rfl (by decide) w.heap.size _ j _ rfl hOA _ _ ([(((p1, p2), p3), was)] : List Rt) rfl (row_of_blk (l := ([(((p1, p2), p3), was)] : List Rt)) hBk rtEn_length) rtEn_length cells_rt ?_ ?_ ?_ ?_
            · simp only [List.length_singleton]; unfold maxLen; omega
            · simp only [List.length_singleton]; omega
            · have h1 := HC5.out.size
              simp; omega
            intro v6 w6 hO hin hC
            have hC6 : Chg (fun g => (Value.slice Au j cu).ownBlock = some g) w5 w6 := ((Chg.refl (fun g => (Value.slice Au j cu).ownBlock = some g) w5).alloc (.cells #[.int .u64 (p1 : Int), .int .u64 (p2 : Int), .int .i64 p3, .int .i64 was] 87)).trans' hC
            have hown := fun z hz => HUO5.out.base_le z hz
            have HB6 := hid (HB5.out.chg hC6 (fun z hz h k => by
              rcases h.1 with h1 | h1
              · exact (HUD.out z k).1 h1
              · have := (HOLD.out z k); omega))
            have HUB6 := hid (HUB5.out.chg hC6 (fun k => (HUD.out u k).2 rfl))
            have HCB6 := hid (HCB5.out.chg hC6 (fun k => by have := HOLD.out _ k; omega))
            have HO6 := hid hO
            have HC6 := hid (HC5.out.trans hC6 (fun z hz k => by have := (hown z k).1; omega))
            have hs6 := hC6.size
            have HIN6 := hid (show ∀ z, v6.ownBlock = some z → ¬ ((F' z ∨ w1.heap.size ≤ z) ∧ z < w5.heap.size) ∧ z ≠ u by
              intro z hz
              rcases hin z hz with k | k
              · have h1 := HUD.out z k
                have h2 := HOLD.out z k
                exact ⟨fun h => h.1.elim h1.1 (fun h => by omega), h1.2⟩
              · simp only [World.size_alloc] at k
                have := HULT.out
                exact ⟨fun h => by omega, by omega⟩)
            have hf := HUB6.out.frozen 0
            obtain ⟨A6, c6, rfl, _⟩ := hO.form
            clear hS hA hBk hOA hO hin hC hC6 hown
            have hS : w6.cell? ⟨wr.heap.size, 3, none⟩ = some (.int .u64 (p1 : Int)) ∧ w6.cell? ⟨wr.heap.size, 4, none⟩ = some (.int .u64 (p2 : Int)) ∧ w6.cell? ⟨wr.heap.size, 5, none⟩ = some (.int .i64 p3) := ⟨HCB6.out.cellv (i := 3) rfl, HCB6.out.cellv (i := 4) rfl, HCB6.out.cellv (i := 5) rfl⟩
            refine hK.out _ _ hS ?_
            clear hK
            refine ord_still 14 rfl (v := ?_) (by kernel_rfl) (fun _ _ _ h => h) rfl (fun W hW => ?_) hS ?_
            rotate_left
            · try dsimp only at hW
              go_simp
              try with_reducible rfl
            simp only [Act.put, List.setIfInBounds_toArray, List.set_cons_zero, List.set_cons_succ]
            refine ord_alone 15 rfl (by kernel_rfl) rfl (fun K hK => ?_)
            have y6 := HUB6.out.cellv (i := 0) rfl
            go_simp
            clear y6
            have hne : wr.heap.size ≠ u := by have := HULT.out; omega
            have HB7 := hid (HB6.out.chg (Chg.store w6 u 0 (.slice A6 (j + 1) c6)) (fun z hz h k => by
              subst k
              rcases h.1 with h1 | h1
              · exact HNU.out h1
              · have := HULT.out; omega))
            have HUB7 := hid (HUB6.out.set 0 (.slice A6 (j + 1) c6))
            have HCB7 := hid (HCB6.out.set_ne (a := ⟨u, 0, none⟩) hne (.slice A6 (j + 1) c6))
            have HO7 := hid (HO6.out.chg (Chg.store w6 u 0 (.slice A6 (j + 1) c6)) (fun z hz k => (HIN6.out z hz).2 k))
            have HC7 := hid (HC6.out.trans (Chg.store w6 u 0 (.slice A6 (j + 1) c6)) (fun z _ k => .inr k))
            have hs7 := (Chg.store w6 u 0 (.slice A6 (j + 1) c6)).size
            clear hS
            have hS : (w6.setCell ⟨u, 0, none⟩ (.slice A6 (j + 1) c6)).cell? ⟨wr.heap.size, 3, none⟩ = some (.int .u64 (p1 : Int)) ∧ (w6.setCell ⟨u, 0, none⟩ (.slice A6 (j + 1) c6)).cell? ⟨wr.heap.size, 4, none⟩ = some (.int .u64 (p2 : Int)) ∧ (w6.setCell ⟨u, 0, none⟩ (.slice A6 (j + 1) c6)).cell? ⟨wr.heap.size, 5, none⟩ = some (.int .i64 p3) := ⟨HCB7.out.cellv (i := 3) rfl, HCB7.out.cellv (i := 4) rfl, HCB7.out.cellv (i := 5) rfl⟩
            refine hK.out _ _ hS ?_
            clear hK
            refine ord_done (by kernel_rfl) ?_
            clear hS
            go_wp2_with fail
            go_roundw
            case rel =>
              refine ⟨j + 1, _, _, by rw [HN.out]; exact HJN.out, by go_num, HRN.out, fun z hz => ⟨?_, by omega⟩, HB7.out, ⟨_, U ++ [(((p1, p2), p3), was)], HUB7.out, ?_, ?_, HIN6.out, by rw [List.length_append, List.length_singleton, HUL.out]⟩, HC7.out⟩
              · rcases hz.1 with h | h
                · exact (HF'.out z h).1
                · exact .inr (by have := HC1.out.size; omega)
              · unfold rtsV
                rw [List.flatMap_append]
                exact HO7.out
              · rw [List.reverse_append]
                exact HBN.out
            case measure => have := HJN.out; simp only [intOf]; omega
          · skip
            go_simp
            refine (cS.out).mono ?_
            rintro _ w5 ⟨rfl, hB5, hC5⟩
            have hC5' : Chg F' w1 w5 := (Chg.refl F' w1).drew.trans' hC5
            have HB5 := hid (hB5.mono (G := fun z => (F' z ∨ w1.heap.size ≤ z) ∧ z < w5.heap.size) (fun z hz h => ⟨h, hz⟩))
            have HCB5 := hid (HCB1.out.chg hC5' (fun hz => by have := (HF'.out _ hz).2; omega))
            have HUB5 := hid (HUB1.out.chg hC5' HNU.out)
            have HUO5 := hid (HUO1.out.chg hC5' (fun z hz h => (HUD.out z hz).1 h))
            have HC5 := hid (HC1.out.trans hC5' (fun z hz h => by
              rcases (HF'.out z h).1 with h | h
              · exact .inl h
              · omega))
            have hs5 := hC5'.size
            clear hS hB5 hC5 hC5'
            have hS : w5.cell? ⟨wr.heap.size, 3, none⟩ = some (.int .u64 (p1 : Int)) ∧ w5.cell? ⟨wr.heap.size, 4, none⟩ = some (.int .u64 (p2 : Int)) ∧ w5.cell? ⟨wr.heap.size, 5, none⟩ = some (.int .i64 p3) := ⟨HCB5.out.cellv (i := 3) rfl, HCB5.out.cellv (i := 4) rfl, HCB5.out.cellv (i := 5) rfl⟩
            refine hK.out _ _ hS ?_
            clear hK
            refine ord_still 11 rfl (v := ?_) (by kernel_rfl) (fun _ _ _ h => h) rfl (fun W hW => ?_) hS ?_
            rotate_left
            · try dsimp only at hW
              go_simp
              try with_reducible rfl
            simp only [Act.put, List.setIfInBounds_toArray, List.set_cons_zero, List.set_cons_succ]
            refine ord_two 3 12 rfl rfl (by kernel_rfl) rfl rfl (fun K hK => ?_) (fun K hK => ?_)
            · skip
              have y0 := HUB5.out.cellv (i := 0) rfl
              go_simp
              refine hK.out _ _ hS ?_
              clear hK y0
              refine ord_alone 12 rfl (by kernel_rfl) rfl (fun K hK => ?_)
              go_simp
              have HA := hid (show Below w5.heap.size w5 (w5.alloc (.cells #[.int .u64 (p1 : Int), .int .u64 (p2 : Int), .int .i64 p3, .int .i64 was] 87)) from (Below.refl _ _).alloc (Nat.le_refl _) _)
              clear hS
              have hS : (w5.alloc (.cells #[.int .u64 (p1 : Int), .int .u64 (p2 : Int), .int .i64 p3, .int .i64 was] 87)).cell? ⟨wr.heap.size, 3, none⟩ = some (.int .u64 (p1 : Int)) ∧ (w5.alloc (.cells #[.int .u64 (p1 : Int), .int .u64 (p2 : Int), .int .i64 p3, .int .i64 was] 87)).cell? ⟨wr.heap.size, 4, none⟩ = some (.int .u64 (p2 : Int)) ∧ (w5.alloc (.cells #[.int .u64 (p1 : Int), .int .u64 (p2 : Int), .int .i64 p3, .int .i64 was] 87)).cell? ⟨wr.heap.size, 5, none⟩ = some (.int .i64 p3) := ⟨(HCB5.out.below HA.out (by have := HCB5.out.lt; omega)).cellv (i := 3) rfl, (HCB5.out.below HA.out (by have := HCB5.out.lt; omega)).cellv (i := 4) rfl, (HCB5.out.below HA.out (by have := HCB5.out.lt; omega)).cellv (i := 5) rfl⟩
              refine hK.out _ _ hS ?_
              clear hK
              have hA := HA.out
              have hBk : Blk (w5.alloc (.cells #[.int .u64 (p1 : Int), .int .u64 (p2 : Int), .int .i64 p3, .int .i64 was] 87)) w5.heap.size 87 (([(((p1, p2), p3), was)] : List Rt).flatMap rtEn) := Blk.new w5 _ _
              have hOA := Owns.below HUO5.out hA
              refine ord_alone 13 rfl (by kernel_rfl) rfl (fun K hK => ?_)
              refine wp_append_rdb _ _ 60 rfl 87 _ 4 32 Try.underlying60 rt_rowI rfl (by decide) w.heap.size _ j _ rfl hOA _ _ ([(((p1, p2), p3), was)] : List Rt) rfl (row_of_blk (l := ([(((p1, p2), p3), was)] : List Rt)) hBk rtEn_length) rtEn_length cells_rt ?_ ?_ ?_ ?_
              · simp only [List.length_singleton]; unfold maxLen; omega
              · simp only [List.length_singleton]; omega
              · have h1 := HC5.out.size
                simp; omega
              intro v6 w6 hO hin hC
              have hC6 : Chg (fun g => (Value.slice Au j cu).ownBlock = some g) w5 w6 := ((Chg.refl (fun g => (Value.slice Au j cu).ownBlock = some g) w5).alloc (.cells #[.int .u64 (p1 : Int), .int .u64 (p2 : Int), .int .i64 p3, .int .i64 was] 87)).trans' hC
              have hown := fun z hz => HUO5.out.base_le z hz
              have HB6 := hid (HB5.out.chg hC6 (fun z hz h k => by
                rcases h.1 with h1 | h1
                · exact (HUD.out z k).1 h1
                · have := (HOLD.out z k); omega))
              have HUB6 := hid (HUB5.out.chg hC6 (fun k => (HUD.out u k).2 rfl))
              have HCB6 := hid (HCB5.out.chg hC6 (fun k => by have := HOLD.out _ k; omega))
              have HO6 := hid hO
              have HC6 := hid (HC5.out.trans hC6 (fun z hz k => by have := (hown z k).1; omega))
              have hs6 := hC6.size
              have HIN6 := hid (show ∀ z, v6.ownBlock = some z → ¬ ((F' z ∨ w1.heap.size ≤ z) ∧ z < w5.heap.size) ∧ z ≠ u by
                intro z hz
                rcases hin z hz with k | k
                · have h1 := HUD.out z k
                  have h2 := HOLD.out z k
                  exact ⟨fun h => h.1.elim h1.1 (fun h => by omega), h1.2⟩
                · simp only [World.size_alloc] at k
                  have := HULT.out
                  exact ⟨fun h => by omega, by omega⟩)
              have hf := HUB6.out.frozen 0
              obtain ⟨A6, c6, rfl, _⟩ := hO.form
              clear hS hA hBk hOA hO hin hC hC6 hown
              have hS : w6.cell? ⟨wr.heap.size, 3, none⟩ = some (.int .u64 (p1 : Int)) ∧ w6.cell? ⟨wr.heap.size, 4, none⟩ = some (.int .u64 (p2 : Int)) ∧ w6.cell? ⟨wr.heap.size, 5, none⟩ = some (.int .i64 p3) := ⟨HCB6.out.cellv (i := 3) rfl, HCB6.out.cellv (i := 4) rfl, HCB6.out.cellv (i := 5) rfl⟩
              refine hK.out _ _ hS ?_
              clear hK
              refine ord_still 14 rfl (v := ?_) (by kernel_rfl) (fun _ _ _ h => h) rfl (fun W hW => ?_) hS ?_
              rotate_left
              · try dsimp only at hW
                go_simp
                try with_reducible rfl
              simp only [Act.put, List.setIfInBounds_toArray, List.set_cons_zero, List.set_cons_succ]
              refine ord_alone 15 rfl (by kernel_rfl) rfl (fun K hK => ?_)
              have y6 := HUB6.out.cellv (i := 0) rfl
              go_simp
              clear y6
              have hne : wr.heap.size ≠ u := by have := HULT.out; omega
              have HB7 := hid (HB6.out.chg (Chg.store w6 u 0 (.slice A6 (j + 1) c6)) (fun z hz h k => by
                subst k
                rcases h.1 with h1 | h1
                · exact HNU.out h1
                · have := HULT.out; omega))
              have HUB7 := hid (HUB6.out.set 0 (.slice A6 (j + 1) c6))
              have HCB7 := hid (HCB6.out.set_ne (a := ⟨u, 0, none⟩) hne (.slice A6 (j + 1) c6))
              have HO7 := hid (HO6.out.chg (Chg.store w6 u 0 (.slice A6 (j + 1) c6)) (fun z hz k => (HIN6.out z hz).2 k))
              have HC7 := hid (HC6.out.trans (Chg.store w6 u 0 (.slice A6 (j + 1) c6)) (fun z _ k => .inr k))
              have hs7 := (Chg.store w6 u 0 (.slice A6 (j + 1) c6)).size
              clear hS
              have hS : (w6.setCell ⟨u, 0, none⟩ (.slice A6 (j + 1) c6)).cell? ⟨wr.heap.size, 3, none⟩ = some (.int .u64 (p1 : Int)) ∧ (w6.setCell ⟨u, 0, none⟩ (.slice A6 (j + 1) c6)).cell? ⟨wr.heap.size, 4, none⟩ = some (.int .u64 (p2 : Int)) ∧ (w6.setCell ⟨u, 0, none⟩ (.slice A6 (j + 1) c6)).cell? ⟨wr.heap.size, 5, none⟩ = some (.int .i64 p3) := ⟨HCB7.out.cellv (i := 3) rfl, HCB7.out.cellv (i := 4) rfl, HCB7.out.cellv (i := 5) rfl⟩
              refine hK.out _ _ hS ?_
              clear hK
              refine ord_done (by kernel_rfl) ?_
              clear hS
              go_wp2_with fail
              go_roundw
              case rel =>
                refine ⟨j + 1, _, _, by rw [HN.out]; exact HJN.out, by go_num, HRN.out, fun z hz => ⟨?_, by omega⟩, HB7.out, ⟨_, U ++ [(((p1, p2), p3), was)], HUB7.out, ?_, ?_, HIN6.out, by rw [List.length_append, List.length_singleton, HUL.out]⟩, HC7.out⟩
                · rcases hz.1 with h | h
                  · exact (HF'.out z h).1
                  · exact .inr (by have := HC1.out.size; omega)
                · unfold rtsV
                  rw [List.flatMap_append]
                  exact HO7.out
                · rw [List.reverse_append]
                  exact HBN.out
              case measure => have := HJN.out; simp only [intOf]; omega
            · skip
              go_simp
              have HA := hid (show Below w5.heap.size w5 (w5.alloc (.cells #[.int .u64 (p1 : Int), .int .u64 (p2 : Int), .int .i64 p3, .int .i64 was] 87)) from (Below.refl _ _).alloc (Nat.le_refl _) _)
              clear hS
              have hS : (w5.alloc (.cells #[.int .u64 (p1 : Int), .int .u64 (p2 : Int), .int .i64 p3, .int .i64 was] 87)).cell? ⟨wr.heap.size, 3, none⟩ = some (.int .u64 (p1 : Int)) ∧ (w5.alloc (.cells #[.int .u64 (p1 : Int), .int .u64 (p2 : Int), .int .i64 p3, .int .i64 was] 87)).cell? ⟨wr.heap.size, 4, none⟩ = some (.int .u64 (p2 : Int)) ∧ (w5.alloc (.cells #[.int .u64 (p1 : Int), .int .u64 (p2 : Int), .int .i64 p3, .int .i64 was] 87)).cell? ⟨wr.heap.size, 5, none⟩ = some (.int .i64 p3) := ⟨(HCB5.out.below HA.out (by have := HCB5.out.lt; omega)).cellv (i := 3) rfl, (HCB5.out.below HA.out (by have := HCB5.out.lt; omega)).cellv (i := 4) rfl, (HCB5.out.below HA.out (by have := HCB5.out.lt; omega)).cellv (i := 5) rfl⟩
              refine hK.out _ _ hS ?_
              clear hK
              refine ord_alone 3 rfl (by kernel_rfl) rfl (fun K hK => ?_)
              have HUB5' := hid (HUB5.out.below' HA.out)
              have y0 := HUB5'.out.cellv (i := 0) rfl
              go_simp
              refine hK.out _ _ hS ?_
              clear hK y0
              have hA := HA.out
              have hBk : Blk (w5.alloc (.cells #[.int .u64 (p1 : Int), .int .u64 (p2 : Int), .int .i64 p3, .int .i64 was] 87)) w5.heap.size 87 (([(((p1, p2), p3), was)] : List Rt).flatMap rtEn) := Blk.new w5 _ _
              have hOA := Owns.below HUO5.out hA
              refine ord_alone 13 rfl (by kernel_rfl) rfl (fun K hK => ?_)
              refine wp_append_rdb _ _ 60 rfl 87 _ 4 32 Try.underlying60 rt_rowI rfl (by decide) w.heap.size _ j _ rfl hOA _ _ ([(((p1, p2), p3), was)] : List Rt) rfl (row_of_blk (l := ([(((p1, p2), p3), was)] : List Rt)) hBk rtEn_length) rtEn_length cells_rt ?_ ?_ ?_ ?_
              · simp only [List.length_singleton]; unfold maxLen; omega
              · simp only [List.length_singleton]; omega
              · have h1 := HC5.out.size
                simp; omega
              intro v6 w6 hO hin hC
              have hC6 : Chg (fun g => (Value.slice Au j cu).ownBlock = some g) w5 w6 := ((Chg.refl (fun g => (Value.slice Au j cu).ownBlock = some g) w5).alloc (.cells #[.int .u64 (p1 : Int), .int .u64 (p2 : Int), .int .i64 p3, .int .i64 was] 87)).trans' hC
              have hown := fun z hz => HUO5.out.base_le z hz
              have HB6 := hid (HB5.out.chg hC6 (fun z hz h k => by
                rcases h.1 with h1 | h1
                · exact (HUD.out z k).1 h1
                · have := (HOLD.out z k); omega))
              have HUB6 := hid (HUB5.out.chg hC6 (fun k => (HUD.out u k).2 rfl))
              have HCB6 := hid (HCB5.out.chg hC6 (fun k => by have := HOLD.out _ k; omega))
              have HO6 := hid hO
              have HC6 := hid (HC5.out.trans hC6 (fun z hz k => by have := (hown z k).1; omega))
              have hs6 := hC6.size
              have HIN6 := hid (show ∀ z, v6.ownBlock = some z → ¬ ((F' z ∨ w1.heap.size ≤ z) ∧ z < w5.heap.size) ∧ z ≠ u by
                intro z hz
                rcases hin z hz with k | k
                · have h1 := HUD.out z k
                  have h2 := HOLD.out z k
                  exact ⟨fun h => h.1.elim h1.1 (fun h => by omega), h1.2⟩
                · simp only [World.size_alloc] at k
                  have := HULT.out
                  exact ⟨fun h => by omega, by omega⟩)
              have hf := HUB6.out.frozen 0
              obtain ⟨A6, c6, rfl, _⟩ := hO.form
              clear hS hA hBk hOA hO hin hC hC6 hown
              have hS : w6.cell? ⟨wr.heap.size, 3, none⟩ = some (.int .u64 (p1 : Int)) ∧ w6.cell? ⟨wr.heap.size, 4, none⟩ = some (.int .u64 (p2 : Int)) ∧ w6.cell? ⟨wr.heap.size, 5, none⟩ = some (.int .i64 p3) := ⟨HCB6.out.cellv (i := 3) rfl, HCB6.out.cellv (i := 4) rfl, HCB6.out.cellv (i := 5) rfl⟩
              refine hK.out _ _ hS ?_
              clear hK
              refine ord_still 14 rfl (v := ?_) (by kernel_rfl) (fun _ _ _ h => h) rfl (fun W hW => ?_) hS ?_
              rotate_left
              · try dsimp only at hW
                go_simp
                try with_reducible rfl
              simp only [Act.put, List.setIfInBounds_toArray, List.set_cons_zero, List.set_cons_succ]
              refine ord_alone 15 rfl (by kernel_rfl) rfl (fun K hK => ?_)
              have y6 := HUB6.out.cellv (i := 0) rfl
              go_simp
              clear y6
              have hne : wr.heap.size ≠ u := by have := HULT.out; omega
              have HB7 := hid (HB6.out.chg (Chg.store w6 u 0 (.slice A6 (j + 1) c6)) (fun z hz h k => by
                subst k
                rcases h.1 with h1 | h1
                · exact HNU.out h1
                · have := HULT.out; omega))
              have HUB7 := hid (HUB6.out.set 0 (.slice A6 (j + 1) c6))
              have HCB7 := hid (HCB6.out.set_ne (a := ⟨u, 0, none⟩) hne (.slice A6 (j + 1) c6))
              have HO7 := hid (HO6.out.chg (Chg.store w6 u 0 (.slice A6 (j + 1) c6)) (fun z hz k => (HIN6.out z hz).2 k))
              have HC7 := hid (HC6.out.trans (Chg.store w6 u 0 (.slice A6 (j + 1) c6)) (fun z _ k => .inr k))
              have hs7 := (Chg.store w6 u 0 (.slice A6 (j + 1) c6)).size
              clear hS
              have hS : (w6.setCell ⟨u, 0, none⟩ (.slice A6 (j + 1) c6)).cell? ⟨wr.heap.size, 3, none⟩ = some (.int .u64 (p1 : Int)) ∧ (w6.setCell ⟨u, 0, none⟩ (.slice A6 (j + 1) c6)).cell? ⟨wr.heap.size, 4, none⟩ = some (.int .u64 (p2 : Int)) ∧ (w6.setCell ⟨u, 0, none⟩ (.slice A6 (j + 1) c6)).cell? ⟨wr.heap.size, 5, none⟩ = some (.int .i64 p3) := ⟨HCB7.out.cellv (i := 3) rfl, HCB7.out.cellv (i := 4) rfl, HCB7.out.cellv (i := 5) rfl⟩
              refine hK.out _ _ hS ?_
              clear hK
              refine ord_done (by kernel_rfl) ?_
              clear hS
              go_wp2_with fail
              go_roundw
              case rel =>
                refine ⟨j + 1, _, _, by rw [HN.out]; exact HJN.out, by go_num, HRN.out, fun z hz => ⟨?_, by omega⟩, HB7.out, ⟨_, U ++ [(((p1, p2), p3), was)], HUB7.out, ?_, ?_, HIN6.out, by rw [List.length_append, List.length_singleton, HUL.out]⟩, HC7.out⟩
                · rcases hz.1 with h | h
                  · exact (HF'.out z h).1
                  · exact .inr (by have := HC1.out.size; omega)
                · unfold rtsV
                  rw [List.flatMap_append]
                  exact HO7.out
                · rw [List.reverse_append]
                  exact HBN.out
              case measure => have := HJN.out; simp only [intOf]; omega
      · have HSTOP := hid (runB_stop HRUN.out HCJ.out (by rw [HER.out]; exact he))
        rw [HER.out] at HSTOP
        have e1 : (er != 0) = true := by simpa using he
        clear he
        have hpn := fun (v : Value) (w : World) => (show (Instr.panic (.iface 90 v)).run Try.prog w = .halt (.panic (.iface 90 v)) w from rfl)
        go_wp2_with fail
        refine ⟨rfl, ?_⟩
        unfold AllPost
        rw [HSTOP.out]
        exact ⟨rfl, ⟨F', fun z hz => (HF'.out z hz).1, HBO1.out, ⟨_, U, HUB1.out, by rw [HUL.out]; exact HUO1.out, HBK.out, HUD.out, by rw [HUL.out]; omega⟩⟩, HC1.out⟩
    · have hjj : j = N := by omega
      subst hjj
      have c3 : ¬ (j : Int) < (j : Int) := by omega
      go_wp2_with fail
      go_returns
      have hr := HRUN.out
      rw [HALL.out] at hr
      unfold AllPost
      rw [hr]
      exact ⟨rfl, ⟨F', fun z hz => (HF'.out z hz).1, HBO.out, ⟨_, U, HUB.out, by rw [HUL.out]; exact HUO.out, HBK.out, HUD.out, by rw [HUL.out]; omega⟩⟩, HC.out⟩
end Go.Proofs.Ytcnecjjgnnkjkaa
