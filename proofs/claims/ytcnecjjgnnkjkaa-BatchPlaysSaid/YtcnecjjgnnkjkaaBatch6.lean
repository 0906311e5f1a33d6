/-
  Package batch: what undoes a row of commands behind a panic. No condition but that words are words.
-/
import Derived.Test.YtcnecjjgnnkjkaaBatch5
import Derived.Recover
import Derived.Defers
namespace Go.Proofs.Ytcnecjjgnnkjkaa
open Go.RowKit
set_option linter.unusedVariables false
set_option linter.unusedSimpArgs false
set_option maxRecDepth 100000

theorem wpOpsS_gen {P : Program} {ops : Array Oper} {Q : Exit → Act → List Frame → World → Prop} {l : List Nat} {a : Act} {cs : List Frame} {w : World} (a' : Act) (cs' : List Frame) (w' : World) (h : ∀ Q' : Exit → Act → List Frame → World → Prop, Q' .normal a' cs' w' → wpOpsS P ops Q' l a cs w) (hq : Q .normal a' cs' w') : wpOpsS P ops Q l a cs w := h Q hq
def PostS (P : Program) (fn : Func) (c₀ : Frame) (cs : List Frame) (R : Ending → FrameMode → World → Prop) (cs' : List Frame) : Exit → Act → World → Prop := fun e a' w' => bodyPostS P fn c₀ cs R e a' cs' w'
theorem wpS_post {P : Program} {fn : Func} {c₀ : Frame} {cs cs' : List Frame} {R : Ending → FrameMode → World → Prop} {c : Code} {a : Act} {w : World} (h : c.wp P (PostS P fn c₀ cs R cs') a w) : c.wpS P (bodyPostS P fn c₀ cs R) a cs' w := wpS_of_wp h
theorem thenS_normal {next : Act → List Frame → World → Prop} {Q : Exit → Act → List Frame → World → Prop} {a : Act} {cs : List Frame} {w : World} (h : next a cs w) : Exit.thenS next Q .normal a cs w := h
set_option maxHeartbeats 1000000 in
theorem do1_idle (u bb ab eb : Value) (w : World) :
    CallsD Try.prog 39 #[u, bb, ab, eb] .returning w fun e u' w' => e = .returned (.tuple #[]) ∧ u' = .returning ∧ w' = w := by
  refine callsD_of_wpS Try.func39 rfl fun c₀ cs hu => ?_
  simp only [Try.ntmps39, List.size_toArray, List.length_cons, List.length_nil, Nat.reduceAdd, Nat.reduceSub, Array.replicate_succ, Array.replicate_zero, List.push_toArray, List.append_toArray, List.nil_append, List.cons_append]
  apply wpS_seq
  apply wpS_region
  refine wpOpsS_gen ?a1 ?c1 ?w1 ?h1 ?h2
  case h1 =>
    intro Q' hQ'
    simp [wpOpsS, go_sem, recoverD, hu]
    exact hQ'
  refine thenS_normal ?_
  refine wpS_post ?_
  go_wp2_with fail
  refine ⟨rfl, c₀.mode, rfl, _, results_none rfl _ _ _, rfl, hu, rfl⟩
theorem run_ta (xT : TypeId) (v : Value) (w : World) : (Instr.typeAssert (.iface 90 v) xT 90 true).run Try.prog w = .ok (.tuple #[v, .bool true]) w := by
  simp [Instr.typeAssert, Sem.run_bind, run_underlying Try.underlying90]
def UndoRel (w : World) (b : Nat) (F : Nat → Prop) (m : Lim) (R0 : List Rt) (U : List Rt) (i : Value) (wr : World) : Prop :=
  ∃ (k : Nat) (Rk : List Rt) (Fk : Nat → Prop), k ≤ U.length ∧ i = .int .i64 ((k : Int) - 1) ∧ Back m R0 (U.take k).reverse Rk ∧ BookAt wr b Fk m Rk ∧ (∀ z, Fk z → F z ∨ w.heap.size ≤ z) ∧ Chg F w wr

set_option maxHeartbeats 4000000 in
theorem do1_panicking {w : World} {b u bb ab eb base : Nat} {F : Nat → Prop} {m : Lim} {R0 R : List Rt} {vu : Value} {U : List Rt} (H : BookAt w b F m R) (hu : Blk w u 60 [vu]) (hO : Owns w base 87 4 vu U.length (rtsV U)) (hBk : Back m R0 U.reverse R)
    (hbb : Blk w bb 41 [.pointer (some ⟨b, 0, none⟩)]) (x y : Value) (hab : Blk w ab 3 [x]) (heb : Blk w eb 26 [y]) (hne : ¬ F u ∧ ¬ F bb ∧ ¬ F ab ∧ ¬ F eb ∧ ∀ z, vu.ownBlock = some z → ¬ F z) (hab2 : ab ≠ eb ∧ ab ≠ bb ∧ ab ≠ u ∧ eb ≠ bb ∧ eb ≠ u) (hlen : U.length ≤ 100000) (i : Nat) (er : Int) :
    CallsD Try.prog 39 #[.pointer (some ⟨u, 0, none⟩), .pointer (some ⟨bb, 0, none⟩), .pointer (some ⟨ab, 0, none⟩), .pointer (some ⟨eb, 0, none⟩)] (.panicking ({ v := .iface 90 (.agg #[.int .i64 (i : Int), .int .i64 er]), recovered := false } :: [])) w fun e u' w' =>
      e = .returned (.tuple #[]) ∧ u' = .panicking ({ v := .iface 90 (.agg #[.int .i64 (i : Int), .int .i64 er]), recovered := true } :: []) ∧
      Blk w' ab 3 [.int .i64 (i : Int)] ∧ Blk w' eb 26 [.int .i64 er] ∧ (∃ F', (∀ z, F' z → F z ∨ w.heap.size ≤ z) ∧ BookAt w' b F' m R0) ∧ Chg (fun z => F z ∨ z = ab ∨ z = eb) w w' := by
  refine callsD_of_wpS Try.func39 rfl fun c₀ cs hc0 => ?_
  simp only [Try.ntmps39, List.size_toArray, List.length_cons, List.length_nil, Nat.reduceAdd, Nat.reduceSub, Array.replicate_succ, Array.replicate_zero, List.push_toArray, List.append_toArray, List.nil_append, List.cons_append]
  apply wpS_seq
  apply wpS_region
  refine wpOpsS_gen ?a1 ?c1 ?w1 ?h1 ?h2
  case h1 =>
    intro Q' hQ'
    simp [wpOpsS, go_sem, recoverD, hc0]
    exact hQ'
  refine thenS_normal ?_
  refine wpS_post ?_
  have hta := fun (v : Value) (w : World) => run_ta 20 v w
  obtain ⟨F1, hF1, H'⟩ : ∃ F1 : Nat → Prop, (∀ z, F1 z → F z ∧ z < w.heap.size) ∧ BookAt w b F1 m R := ⟨fun z => F z ∧ z < w.heap.size, fun z h => h, H.mono fun z hl h => ⟨h, hl⟩⟩
  obtain ⟨N, hN⟩ : ∃ N, U.length = N := ⟨_, rfl⟩
  have HN := hid hN
  rw [hN] at hlen
  have hO2 := hO
  rw [hN] at hO2
  have hb0 := (Below.refl w.heap.size w).alloc (Nat.le_refl _) (.cells #[.int .i64 (i : Int), .int .i64 er] 90)
  have HWB := hid (Blk.new_at w #[.int .i64 (i : Int), .int .i64 er] 90 w.heap.size rfl)
  have HUB := hid (hu.below' hb0)
  have HBB := hid (hbb.below' hb0)
  have HAB := hid (hab.below' hb0)
  have HEB := hid (heb.below' hb0)
  have HUO := hid (hO.below hb0)
  have HBO := hid (H'.below hb0)
  have HNE := hid (show ¬ F1 u ∧ ¬ F1 bb ∧ ¬ F1 ab ∧ ¬ F1 eb ∧ ∀ z, vu.ownBlock = some z → ¬ F1 z from ⟨fun h => hne.1 (hF1 _ h).1, fun h => hne.2.1 (hF1 _ h).1, fun h => hne.2.2.1 (hF1 _ h).1, fun h => hne.2.2.2.1 (hF1 _ h).1, fun z hz h => hne.2.2.2.2 z hz (hF1 _ h).1⟩)
  have HNW := hid (show ¬ F1 w.heap.size from fun h => by have := (hF1 _ h).2; omega)
  have HF1 := hid hF1
  have HNE2 := hid hab2
  have HBK := hid hBk
  have HB0 := hid hb0
  have HLT0 := hid (show u < w.heap.size ∧ bb < w.heap.size ∧ ab < w.heap.size ∧ eb < w.heap.size from ⟨hu.lt, hbb.lt, hab.lt, heb.lt⟩)
  obtain ⟨AU, cU, rfl, _⟩ := hO2.form
  have hw1 : IntKind.i64.wrap ((N : Int) - 1) = (N : Int) - 1 := by rw [IntKind.wrap_i64]; omega
  have y1' := HUB.out.cellv (i := 0) rfl
  clear hN hO hO2 hu hbb hab heb H H' hne hab2 hBk hb0 hF1
  go_wp2_with fail
  clear y1'
  generalize w.alloc (.cells #[.int .i64 (i : Int), .int .i64 er] 90) = w1 at *
  go_loopw [7] (fun i wr => UndoRel w1 b F1 m R0 U i wr) (fun i _ => (intOf i + 1).toNat)
  case atStart => exact ⟨N, R, F1, by rw [HN.out]; exact Nat.le_refl _, rfl, by rw [← HN.out, List.take_length]; exact HBK.out, HBO.out, fun z hz => .inl hz, Chg.refl _ _⟩
  case round =>
    obtain ⟨k, Rk, Fk, hk, rfl, hBk, hB, hFk, hC⟩ := hrel
    rw [HN.out] at hk
    have HFk := hid hFk
    have HC := hid hC
    have HBk := hid hBk
    have HBOk := hid hB
    have hszr := hC.size
    have hlt1 := HB0.out.size
    have hl0 := HLT0.out
    have hwl := HWB.out.lt
    clear hBk hB hFk hC
    rcases Nat.eq_zero_or_pos k with hk0 | hk0
    · subst hk0
      have d1 : decide ((0 : Int) ≤ ((0 : Nat) : Int) - 1) = false := by decide
      have hR0 : Rk = R0 := by have := HBk.out; simpa [Back] using this
      subst hR0
      have HABr := hid (HAB.out.chg HC.out HNE.out.2.2.1)
      have HEBr := hid (HEB.out.chg HC.out HNE.out.2.2.2.1)
      have HWBr := hid (HWB.out.chg HC.out HNW.out)
      have y0 := HWBr.out.cellv (i := 0) rfl
      have y1 := HWBr.out.cellv (i := 1) rfl
      go_wp2_with fail
      have hS : wr.drew.cell? ⟨w.heap.size, 0, none⟩ = some (.int .i64 (i : Int)) ∧ wr.drew.cell? ⟨w.heap.size, 1, none⟩ = some (.int .i64 er) := ⟨y0, y1⟩
      refine wp_region_ord (fun w' => w'.cell? ⟨w.heap.size, 0, none⟩ = some (.int .i64 (i : Int)) ∧ w'.cell? ⟨w.heap.size, 1, none⟩ = some (.int .i64 er)) (by kernel_rfl) hS ?_
      refine ord_still 0 rfl (v := ?_) (by kernel_rfl) (fun _ _ _ h => h) rfl (fun W hW => ?_) hS ?_
      rotate_left
      · try dsimp only at hW
        go_simp
        try with_reducible rfl
      simp only [Act.put, List.setIfInBounds_toArray, List.set_cons_zero, List.set_cons_succ]
      refine ord_still 1 rfl (v := ?_) (by kernel_rfl) (fun _ _ _ h => h) rfl (fun W hW => ?_) hS ?_
      rotate_left
      · try dsimp only at hW
        go_simp
        try with_reducible rfl
      simp only [Act.put, List.setIfInBounds_toArray, List.set_cons_zero, List.set_cons_succ]
      refine ord_still 2 rfl (v := ?_) (by kernel_rfl) (fun _ _ _ h => h) rfl (fun W hW => ?_) hS ?_
      rotate_left
      · try dsimp only at hW
        go_simp
        try with_reducible rfl
      simp only [Act.put, List.setIfInBounds_toArray, List.set_cons_zero, List.set_cons_succ]
      refine ord_still 3 rfl (v := ?_) (by kernel_rfl) (fun _ _ _ h => h) rfl (fun W hW => ?_) hS ?_
      rotate_left
      · try dsimp only at hW
        go_simp
        try with_reducible rfl
      simp only [Act.put, List.setIfInBounds_toArray, List.set_cons_zero, List.set_cons_succ]
      refine ord_alone 4 rfl (by kernel_rfl) rfl (fun K hK => ?_)
      have ya := HABr.out.cellv (i := 0) rfl
      have yf := HABr.out.frozen 0
      go_simp
      clear ya yf
      have hwa : w.heap.size ≠ ab := by omega
      have hwe : w.heap.size ≠ eb := by omega
      have HA2 := hid (HABr.out.set 0 (.int .i64 (i : Int)))
      have HE2 := hid (HEBr.out.set_ne (a := ⟨ab, 0, none⟩) (Ne.symm HNE2.out.1) (.int .i64 (i : Int)))
      have HW2 := hid (HWBr.out.set_ne (a := ⟨ab, 0, none⟩) hwa (.int .i64 (i : Int)))
      clear hS
      have hS : (wr.setCell ⟨ab, 0, none⟩ (.int .i64 (i : Int))).cell? ⟨w.heap.size, 0, none⟩ = some (.int .i64 (i : Int)) ∧ (wr.setCell ⟨ab, 0, none⟩ (.int .i64 (i : Int))).cell? ⟨w.heap.size, 1, none⟩ = some (.int .i64 er) := ⟨HW2.out.cellv (i := 0) rfl, HW2.out.cellv (i := 1) rfl⟩
      refine hK.out _ _ hS ?_
      clear hK
      refine ord_alone 5 rfl (by kernel_rfl) rfl (fun K hK => ?_)
      have ya := HE2.out.cellv (i := 0) rfl
      have yf := HE2.out.frozen 0
      go_simp
      clear ya yf
      have HA3 := hid (HA2.out.set_ne (a := ⟨eb, 0, none⟩) HNE2.out.1 (.int .i64 er))
      have HE3 := hid (HE2.out.set 0 (.int .i64 er))
      have HW3 := hid (HW2.out.set_ne (a := ⟨eb, 0, none⟩) hwe (.int .i64 er))
      have hc1 := Chg.store wr ab 0 (.int .i64 (i : Int))
      have hc2 := Chg.store (wr.setCell ⟨ab, 0, none⟩ (.int .i64 (i : Int))) eb 0 (.int .i64 er)
      have hnk : ∀ z, Fk z → z ≠ ab ∧ z ≠ eb := fun z hz => by
        rcases HFk.out z hz with h | h
        · exact ⟨fun e => HNE.out.2.2.1 (e ▸ h), fun e => HNE.out.2.2.2.1 (e ▸ h)⟩
        · omega
      have HB3 := hid ((HBOk.out.chg hc1 (fun z _ hz k => (hnk z hz).1 k)).chg hc2 (fun z _ hz k => (hnk z hz).2 k))
      have hcw : Chg (fun z => F z ∨ z = ab ∨ z = eb) w w1 := Chg.of_below HB0.out _
      have HC3 := hid (((hcw.trans HC.out (fun z _ h => .inl (HF1.out z h).1)).trans hc1 (fun z _ h => .inr (.inl h))).trans hc2 (fun z _ h => .inr (.inr h)))
      clear hS hc1 hc2 hnk hcw
      have hS : ((wr.setCell ⟨ab, 0, none⟩ (.int .i64 (i : Int))).setCell ⟨eb, 0, none⟩ (.int .i64 er)).cell? ⟨w.heap.size, 0, none⟩ = some (.int .i64 (i : Int)) ∧ ((wr.setCell ⟨ab, 0, none⟩ (.int .i64 (i : Int))).setCell ⟨eb, 0, none⟩ (.int .i64 er)).cell? ⟨w.heap.size, 1, none⟩ = some (.int .i64 er) := ⟨HW3.out.cellv (i := 0) rfl, HW3.out.cellv (i := 1) rfl⟩
      refine hK.out _ _ hS ?_
      clear hK
      refine ord_done (by kernel_rfl) ?_
      clear hS
      go_wp2_with fail
      refine ⟨rfl, _, rfl, _, results_none rfl _ _ _, rfl, rfl, HA3.out, HE3.out, ⟨Fk, fun z hz => ?_, HB3.out.below (Below.refl _ _).drew⟩, HC3.out.drew⟩
      rcases HFk.out z hz with h | h
      · exact .inl (HF1.out z h).1
      · exact .inr (by omega)
    · obtain ⟨q, rfl⟩ : ∃ q, k = q + 1 := ⟨k - 1, by omega⟩
      obtain ⟨x, hx⟩ : ∃ x, U[q]? = some x := ⟨_, List.getElem?_eq_getElem (by rw [HN.out]; omega)⟩
      have hbs := HBk.out
      rw [List.take_succ_eq_append_getElem (by rw [HN.out]; omega), List.reverse_append] at hbs
      have hxe : U[q]'(by rw [HN.out]; omega) = x := (List.getElem?_eq_some_iff.1 hx).2
      rw [hxe] at hbs
      obtain ⟨R1, hb1, hi1, hse, hrm, hxo, hxw⟩ : ∃ R1, Back m R0 (U.take q).reverse R1 ∧ Inv m R1 ∧ setB Rk x.1 x.2 = R1 ∧ Room m Rk x.1 x.2 ∧ x.1.1.ok ∧ (Lit.int .i64 x.2).wf = true := hbs
      have HB1 := hid hb1
      have cS := hid (book_set (HBOk.out.below (Below.refl wr.heap.size wr).drew) x.1 hxo x.2 hxw hrm (by rw [hse]; exact hi1))
      unfold SetPost at cS
      rw [hse] at cS
      obtain ⟨gU, oU, cap', hvv, _, _, lU, sU⟩ := (Rd.of_owns (en := rtEn) (l := U) HUO.out rtEn_length).get rtEn_length (by decide) hx
      rw [HN.out] at hvv
      injection hvv with hA _ hcc
      subst hA hcc
      have hnU : ¬ F1 gU := HNE.out.2.2.2.2 gU rfl
      have HNF := hid (show ¬ Fk u ∧ ¬ Fk bb ∧ ¬ Fk gU from ⟨fun h => (HFk.out _ h).elim HNE.out.1 (fun h => by omega), fun h => (HFk.out _ h).elim HNE.out.2.1 (fun h => by omega), fun h => (HFk.out _ h).elim hnU (fun h => by omega)⟩)
      have HLT := hid (show bb < wr.heap.size ∧ u < wr.heap.size ∧ gU < wr.heap.size by omega)
      have hcU := fun o => HC.out.cell (b := gU) lU hnU o
      have HUBr := hid (HUB.out.chg HC.out HNE.out.1)
      have HBBr := hid (HBB.out.chg HC.out HNE.out.2.1)
      have y0 := HBBr.out.cellv (i := 0) rfl
      have y1 := HUBr.out.cellv (i := 0) rfl
      have hq0 : (0 : Int) ≤ (q : Int) := by omega
      have hq1 : (q : Int) < (N : Int) := by omega
      have e1 : (((q + 1 : Nat) : Int) - 1) = (q : Int) := by omega
      have e2 : IntKind.i64.wrap ((q : Int) - 1) = (q : Int) - 1 := by rw [IntKind.wrap_i64]; omega
      have d1 : decide ((0 : Int) ≤ (q : Int)) = true := decide_eq_true hq0
      rw [e1]
      obtain ⟨⟨⟨x1, x2⟩, x3⟩, x4⟩ := x
      have z0 : wr.cell? ⟨gU, oU + q * 4, none⟩ = some (.int .u64 (x1 : Int)) := (hcU _).trans (sU 0 _ rfl)
      have z1 : wr.cell? ⟨gU, oU + q * 4 + 1, none⟩ = some (.int .u64 (x2 : Int)) := (hcU _).trans (sU 1 _ rfl)
      have z2 : wr.cell? ⟨gU, oU + q * 4 + 2, none⟩ = some (.int .i64 x3) := (hcU _).trans (sU 2 _ rfl)
      have z3 : wr.cell? ⟨gU, oU + q * 4 + 3, none⟩ = some (.int .i64 x4) := (hcU _).trans (sU 3 _ rfl)
      have HQN := hid (show q ≤ U.length by rw [HN.out]; omega)
      simp only at cS
      clear hxe hb1 hi1 hse hrm hxo hxw hx e1 sU lU hcU hk hk0 HBk
      go_wp2_with fail
      have hS : wr.drew.cell? ⟨bb, 0, none⟩ = some (.pointer (some ⟨b, 0, none⟩)) ∧ wr.drew.cell? ⟨u, 0, none⟩ = some (.slice (some ⟨gU, oU, none⟩) N cU) ∧ wr.drew.cell? ⟨gU, oU + q * 4, none⟩ = some (.int .u64 (x1 : Int)) ∧ wr.drew.cell? ⟨gU, oU + q * 4 + 1, none⟩ = some (.int .u64 (x2 : Int)) ∧ wr.drew.cell? ⟨gU, oU + q * 4 + 2, none⟩ = some (.int .i64 x3) ∧ wr.drew.cell? ⟨gU, oU + q * 4 + 3, none⟩ = some (.int .i64 x4) := ⟨y0, y1, z0, z1, z2, z3⟩
      refine wp_region_ord (fun w' => w'.cell? ⟨bb, 0, none⟩ = some (.pointer (some ⟨b, 0, none⟩)) ∧ w'.cell? ⟨u, 0, none⟩ = some (.slice (some ⟨gU, oU, none⟩) N cU) ∧ w'.cell? ⟨gU, oU + q * 4, none⟩ = some (.int .u64 (x1 : Int)) ∧ w'.cell? ⟨gU, oU + q * 4 + 1, none⟩ = some (.int .u64 (x2 : Int)) ∧ w'.cell? ⟨gU, oU + q * 4 + 2, none⟩ = some (.int .i64 x3) ∧ w'.cell? ⟨gU, oU + q * 4 + 3, none⟩ = some (.int .i64 x4)) (by kernel_rfl) hS ?_
      refine ord_still 0 rfl (v := ?_) (by kernel_rfl) (fun _ _ _ h => h) rfl (fun W hW => ?_) hS ?_
      rotate_left
      · try dsimp only at hW
        go_simp
        try with_reducible rfl
      simp only [Act.put, List.setIfInBounds_toArray, List.set_cons_zero, List.set_cons_succ]
      refine ord_still 1 rfl (v := ?_) (by kernel_rfl) (fun _ _ _ h => h) rfl (fun W hW => ?_) hS ?_
      rotate_left
      · try dsimp only at hW
        go_simp
        try with_reducible rfl
      simp only [Act.put, List.setIfInBounds_toArray, List.set_cons_zero, List.set_cons_succ]
      refine ord_still 2 rfl (v := ?_) (by kernel_rfl) (fun _ _ _ h => h) rfl (fun W hW => ?_) hS ?_
      rotate_left
      · try dsimp only at hW
        go_simp
        try with_reducible rfl
      simp only [Act.put, List.setIfInBounds_toArray, List.set_cons_zero, List.set_cons_succ]
      refine ord_still 3 rfl (v := ?_) (by kernel_rfl) (fun _ _ _ h => h) rfl (fun W hW => ?_) hS ?_
      rotate_left
      · try dsimp only at hW
        go_simp
        try with_reducible rfl
      simp only [Act.put, List.setIfInBounds_toArray, List.set_cons_zero, List.set_cons_succ]
      refine ord_still 4 rfl (v := ?_) (by kernel_rfl) (fun _ _ _ h => h) rfl (fun W hW => ?_) hS ?_
      rotate_left
      · try dsimp only at hW
        go_simp
        try with_reducible rfl
      simp only [Act.put, List.setIfInBounds_toArray, List.set_cons_zero, List.set_cons_succ]
      refine ord_still 5 rfl (v := ?_) (by kernel_rfl) (fun _ _ _ h => h) rfl (fun W hW => ?_) hS ?_
      rotate_left
      · try dsimp only at hW
        go_simp
        try with_reducible rfl
      simp only [Act.put, List.setIfInBounds_toArray, List.set_cons_zero, List.set_cons_succ]
      refine ord_still 6 rfl (v := ?_) (by kernel_rfl) (fun _ _ _ h => h) rfl (fun W hW => ?_) hS ?_
      rotate_left
      · try dsimp only at hW
        go_simp
        try with_reducible rfl
      simp only [Act.put, List.setIfInBounds_toArray, List.set_cons_zero, List.set_cons_succ]
      refine ord_still 7 rfl (v := ?_) (by kernel_rfl) (fun _ _ _ h => h) rfl (fun W hW => ?_) hS ?_
      rotate_left
      · try dsimp only at hW
        go_simp
        try with_reducible rfl
      simp only [Act.put, List.setIfInBounds_toArray, List.set_cons_zero, List.set_cons_succ]
      refine ord_still 8 rfl (v := ?_) (by kernel_rfl) (fun _ _ _ h => h) rfl (fun W hW => ?_) hS ?_
      rotate_left
      · try dsimp only at hW
        go_simp
        try with_reducible rfl
      simp only [Act.put, List.setIfInBounds_toArray, List.set_cons_zero, List.set_cons_succ]
      refine ord_still 9 rfl (v := ?_) (by kernel_rfl) (fun _ _ _ h => h) rfl (fun W hW => ?_) hS ?_
      rotate_left
      · try dsimp only at hW
        go_simp
        try with_reducible rfl
      simp only [Act.put, List.setIfInBounds_toArray, List.set_cons_zero, List.set_cons_succ]
      refine ord_still 10 rfl (v := ?_) (by kernel_rfl) (fun _ _ _ h => h) rfl (fun W hW => ?_) hS ?_
      rotate_left
      · try dsimp only at hW
        go_simp
        try with_reducible rfl
      simp only [Act.put, List.setIfInBounds_toArray, List.set_cons_zero, List.set_cons_succ]
      refine ord_alone 11 rfl (by kernel_rfl) rfl (fun K hK => ?_)
      go_simp
      refine (cS.out).mono ?_
      rintro _ w5 ⟨rfl, hB5, hC5⟩
      have hC5' : Chg Fk wr w5 := (Chg.refl Fk wr).drew.trans' hC5
      have HSw5 := hid (show w5.cell? ⟨bb, 0, none⟩ = some (.pointer (some ⟨b, 0, none⟩)) ∧ w5.cell? ⟨u, 0, none⟩ = some (.slice (some ⟨gU, oU, none⟩) N cU) ∧ w5.cell? ⟨gU, oU + q * 4, none⟩ = some (.int .u64 (x1 : Int)) ∧ w5.cell? ⟨gU, oU + q * 4 + 1, none⟩ = some (.int .u64 (x2 : Int)) ∧ w5.cell? ⟨gU, oU + q * 4 + 2, none⟩ = some (.int .i64 x3) ∧ w5.cell? ⟨gU, oU + q * 4 + 3, none⟩ = some (.int .i64 x4) from ⟨(hC5'.cell HLT.out.1 HNF.out.2.1 0).trans hS.1, (hC5'.cell HLT.out.2.1 HNF.out.1 0).trans hS.2.1, (hC5'.cell HLT.out.2.2 HNF.out.2.2 _).trans hS.2.2.1, (hC5'.cell HLT.out.2.2 HNF.out.2.2 _).trans hS.2.2.2.1, (hC5'.cell HLT.out.2.2 HNF.out.2.2 _).trans hS.2.2.2.2.1, (hC5'.cell HLT.out.2.2 HNF.out.2.2 _).trans hS.2.2.2.2.2⟩)
      have HB5 := hid (hB5.mono (G := fun z => Fk z ∨ wr.heap.size ≤ z) (fun z _ h => h))
      have HC5 := hid (HC.out.trans hC5' (fun z hz h => by
        rcases HFk.out z h with h | h
        · exact h
        · omega))
      have hs5 := hC5'.size
      clear hB5 hC5 hC5'
      clear hS
      have hS : w5.cell? ⟨bb, 0, none⟩ = some (.pointer (some ⟨b, 0, none⟩)) ∧ w5.cell? ⟨u, 0, none⟩ = some (.slice (some ⟨gU, oU, none⟩) N cU) ∧ w5.cell? ⟨gU, oU + q * 4, none⟩ = some (.int .u64 (x1 : Int)) ∧ w5.cell? ⟨gU, oU + q * 4 + 1, none⟩ = some (.int .u64 (x2 : Int)) ∧ w5.cell? ⟨gU, oU + q * 4 + 2, none⟩ = some (.int .i64 x3) ∧ w5.cell? ⟨gU, oU + q * 4 + 3, none⟩ = some (.int .i64 x4) := HSw5.out
      refine hK.out _ _ hS ?_
      clear hK
      refine ord_done (by kernel_rfl) ?_
      clear hS
      go_wp2_with fail
      go_roundw
      case rel => exact ⟨q, R1, _, HQN.out, rfl, HB1.out, HB5.out, fun z hz => hz.elim (HFk.out z) (fun h => .inr (by omega)), HC5.out⟩
      case measure => simp only [intOf]; omega
end Go.Proofs.Ytcnecjjgnnkjkaa
