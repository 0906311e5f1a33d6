/-
  Law 25, BatchNone. No condition.
-/
import Derived.Test.YtcnecjjgnnkjkaaBatchNoneM
import Derived.Test.YtcnecjjgnnkjkaaSliceOp
namespace Go.Proofs.Ytcnecjjgnnkjkaa
open Go.RowKit
set_option linter.unusedVariables false
set_option linter.unusedSimpArgs false
set_option maxRecDepth 100000

theorem cm_size (w : World) : (sizeOf 53).run Try.prog w = .ok 10 w := by kernel_rfl
theorem slice_lo_cm (w : World) (A : Option Addr) (n cap : Nat) (kl : IntKind) (l : Int) (h0 : 0 ≤ l) (h1 : l ≤ n) : (Instr.slice 45 (.slice A n cap) (some (.int kl l)) none none).run Try.prog w = .ok (.slice (dropA A cap l.toNat 10) (n - l.toNat) (cap - l.toNat)) w :=
  slice_lo w _ _ A n cap 10 Try.underlying45 cm_size kl l h0 h1
theorem slice_hi_cm (w : World) (A : Option Addr) (n cap : Nat) (kl : IntKind) (l : Int) (h0 : 0 ≤ l) (h1 : l ≤ cap) : (Instr.slice 45 (.slice A n cap) none (some (.int kl l)) none).run Try.prog w = .ok (.slice A l.toNat cap) w :=
  slice_hi w _ _ A n cap 10 Try.underlying45 cm_size kl l h0 h1
section
variable {P : Program} {o : Oper} {a : Act} {Q : Exit → Act → World → Prop} {w : World} {α : Type} {en : α → List Value}
/-- 'xs = append(xs, ys...)', one operation; only what ys holds need be of single cells. -/
theorem wp_append_rdl {K : Act → World → Prop} (s x : Operand) (t : TypeId) (ho : o.op = .call { callee := .builtin .append, args := #[s, x], argTypes := #[t, t] })
    (e : TypeId) (z : Value) (size bytes : Nat) (ht : P.underlying t = some (.slice e)) (hinfo : (P.info? e).map (fun i => (i.zero, i.size, i.bytes)) = some (some z, size, bytes)) (hzs : z.cells.size = size) (hsz : 0 < size)
    (base : Nat) (v : Value) (n : Nat) (xs : List Value) (hs : a.eval s = v) (hown : Owns w base e size v n xs) (src : Value) (hx : a.eval x = src) (l : List α) (hr : Rd en size w src l) (hl : ∀ a, (en a).length = size) (h1 : ∀ a ∈ l, ∀ u ∈ en a, u.oneCell' = true)
    (h63 : n + l.length ≤ maxLen) (hbytes : (n + l.length) * bytes ≤ 140737488355328) (hbase : base ≤ w.heap.size)
    (h : ∀ v' w', Owns w' base e size v' (n + l.length) (xs ++ l.flatMap en) → Chg (fun g => v.ownBlock = some g) w w' → K (a.put o.dst v') w') : o.wp P a w K Q := by
  obtain ⟨i, hi, hzz⟩ := Option.map_eq_some_iff.1 hinfo
  simp only [Prod.mk.injEq] at hzz
  obtain ⟨hz, hsi, hby⟩ := hzz
  obtain ⟨A, cap, rfl, _, _, hrow, hnil⟩ := hr
  cases A with
  | none =>
    have hc := hnil rfl
    subst hc
    have hl0 : l = [] := by
      cases l with
      | nil => rfl
      | cons y l => obtain ⟨b, o, hA, _⟩ := hrow 0 (by simp); cases hA
    subst hl0
    have hrun := run_append_owned_none (P := P) (w := w) base t o.type e i size ht hi v n xs hown
    unfold Oper.wp
    simp only [execOp, ho, resolve, invoke, builtin, Sem.run_bind, Sem.run_pure, Result.andThen_ok, List.map_toArray, List.map_cons, List.map_nil, hs, hx, List.length_nil, hrun]
    exact h v w (by simpa using hown) (Chg.refl _ _)
  | some ad =>
    exact wp_append_own _ s x t ho base e i z size bytes ht hi hz hsi hby hzs hsz v n xs hs hown ad l.length cap (l.flatMap en) hx (flat_len hl l) (Rd.news hrow hl hsz)
      (fun u hu => by obtain ⟨y, hyl, hy⟩ := List.mem_flatMap.1 hu; exact h1 y hyl u hy) h63 hbytes hbase (fun v' w' h2 h3 h4 => h v' w' h2 ((Chg.of_grown h3).mono fun g _ hg => hg.symm))
end
theorem cm_row : (Try.prog.info? 53).map (fun i => (i.zero, i.size, i.bytes)) = some (some (.agg #[.int .i64 0, .int .i64 0, .int .i64 0, .int .u64 0, .int .u64 0, .int .i64 0, .int .u64 0, .int .u64 0, .int .u64 0, .slice none 0 0]), 10, 96) := by kernel_rfl
set_option maxHeartbeats 4000000 in
theorem batchNone_in (W : World) (v : Value) (l : List Cm) (R : Rd cmEn 10 W v l) (okl : ∀ c ∈ l, c.ok) (hlen : l.length ≤ 40) (d : Nat) (hd : d ≤ 4) (t : Nat) (wt : (Lit.int .i64 (t : Int)).wf = true) :
    Calls Try.prog 8 #[v, .int .i64 (d : Int), .int .i64 (t : Int)] W fun e W' => e = .returned (.bool true) ∧ Below W.heap.size W W' := by
  have cA := hid (book_alive W)
  have cN := hid (fun w => book_new w 32 300 60)
  rw [show limOf 32 300 60 = lim3 from rfl] at cN
  have cn := hid law25_num
  have cR := hid (fun (w' : World) (b : Nat) (F : Nat → Prop) (m : Lim) (R : List Rt) (H : BookAt w' b F m R) => book_routes H)
  have cD := hid (fun (w' : World) (b : Nat) (F : Nat → Prop) (m : Lim) (R : List Rt) (H : BookAt w' b F m R) (v : Value) (cs : List Cm) (h1 : Rd cmEn 10 w' v cs) (h2 : ∀ c ∈ cs, c.ok) (h3 : cs.length ≤ 50000) (h4 : ∀ z, v.ownBlock = some z → ¬ F z ∧ z < w'.heap.size) => book_do H v cs h1 h2 h3 h4)
  obtain ⟨E, hE⟩ : ∃ E, badL[d]? = some E := ⟨badL[d]'(by simp [badL]; omega), List.getElem?_eq_getElem _⟩
  have hEm := List.mem_of_getElem? hE
  obtain ⟨k, hk⟩ : ∃ k : Nat, t % (l.length + 1) = k := ⟨_, rfl⟩
  have hkl : k ≤ l.length := by have := Nat.mod_lt t (show 0 < l.length + 1 by omega); omega
  obtain ⟨i, er, hdo, hik, her⟩ := doB_bad (m := lim3) (badL_err E hEm) (l.take k) (l.drop k) rts3
  have DO := hid hdo
  have IK := hid (show i ≤ k by rw [List.length_take] at hik; omega)
  have ER := hid her
  have HE := hid hE
  have EOK := hid (badL_ok E hEm)
  have D2 := hid do_two3
  have HR := hid R
  have OKL := hid okl
  have HK := hid hk
  have KL := hid hkl
  have HLEN := hid hlen
  obtain ⟨A, cap, rfl, hcap, hcm⟩ := R.form
  have HCAP := hid hcap
  have e0 : decide ((40 : Int) < (l.length : Int)) = false := decide_eq_false (by omega)
  have e1 : decide ((d : Int) < 0) = false := decide_eq_false (by omega)
  have e2 : decide ((4 : Int) < (d : Int)) = false := decide_eq_false (by omega)
  have e3 : decide ((t : Int) < 0) = false := decide_eq_false (by omega)
  have HD := hid hd
  generalize lim3 = m3 at *
  clear R okl hE hEm hkl hik hdo her hcap hcm hlen hd hk
  obtain ⟨n, hn⟩ : ∃ n, l.length = n := ⟨_, rfl⟩
  have HN := hid hn
  rw [hn] at e0 ⊢
  clear hn
  go_enter Try.func8, Try.ntmps8
  go_wp2_with fail
  refine cA.out.mono ?_
  rintro _ w1 ⟨rfl, hb1⟩
  have HB1 := hid hb1
  clear hb1 cA
  go_wp2_with fail
  refine (cN.out _).mono ?_
  rintro _ w2 ⟨b, rfl, hB, hb2⟩
  have HB2 := hid (held_next HB1.out hb2)
  have HF2 := hid (show ∀ z, w1.heap.size ≤ z → W.heap.size ≤ z from fun z hz => by have := HB1.out.size; omega)
  have HBK2 := hid hB
  clear hB hb2 cN
  go_wp2_with fail
  have hbk := (Below.refl w2.heap.size w2).alloc (Nat.le_refl _) (.cells #[.int .i64 1, .int .i64 1, .int .i64 0, .int .u64 0, .int .u64 0, .int .i64 1, .int .u64 0, .int .u64 0, .int .u64 0, .slice none 0 0, .int .i64 1, .int .i64 2, .int .i64 0, .int .u64 0, .int .u64 0, .int .i64 2, .int .u64 0, .int .u64 0, .int .u64 0, .slice none 0 0] 53)
  have hblk : Blk _ w2.heap.size 53 (two3.flatMap cmEn) := Blk.new w2 [.int .i64 1, .int .i64 1, .int .i64 0, .int .u64 0, .int .u64 0, .int .i64 1, .int .u64 0, .int .u64 0, .int .u64 0, .slice none 0 0, .int .i64 1, .int .i64 2, .int .i64 0, .int .u64 0, .int .u64 0, .int .i64 2, .int .u64 0, .int .u64 0, .int .u64 0, .slice none 0 0] 53
  have HB3 := hid (held_next HB2.out hbk)
  have hK3 := (HBK2.out.mono (G := fun z => w1.heap.size ≤ z ∧ z < w2.heap.size) (fun z hz h => ⟨h, hz⟩)).below hbk
  refine (cD.out _ _ _ _ _ hK3 _ two3 (Rd.of_blk (en := cmEn) (l := two3) hblk cmEn_len (by unfold maxLen; decide)) (by
    intro c hc
    simp only [two3, List.mem_cons, List.not_mem_nil, or_false] at hc
    have o0 : Ad.ok (0, 0) := ⟨by decide, by decide⟩
    rcases hc with rfl | rfl
    · exact cmOf_ok (by decide) o0 (by decide) (by decide)
    · exact cmOf_ok (by decide) o0 (by decide) (by decide)) (by decide) (fun z hz => ?_)).mono ?_
  · injection hz with hz
    have h1 : z = w2.heap.size := hz.symm
    subst h1
    refine ⟨fun h => by have := h.2; omega, by simp⟩
  rintro _ w4 ⟨he4, ⟨F4, hF4, hK4⟩, hC4⟩
  rw [D2.out] at he4 hK4
  subst he4
  have hs2 := HB3.out.size
  obtain ⟨F5, h5a, h5b, hK45⟩ : ∃ F5 : Nat → Prop, (∀ z, F5 z → W.heap.size ≤ z) ∧ (∀ z, F5 z → z < w4.heap.size) ∧ BookAt w4 b F5 m3 rts3 :=
    ⟨fun z => F4 z ∧ z < w4.heap.size, fun z hz => (hF4 z hz.1).elim (fun h => HF2.out z h.1) (fun h => by omega), fun z hz => hz.2, hK4.mono (fun z hz h => ⟨h, hz⟩)⟩
  have HK4 := hid hK45
  have HF5 := hid h5a
  have HL5 := hid h5b
  have HB4 := hid (HB3.out.trans (hC4.below HB3.out.size (fun z hz h => by have := HF2.out z h.1; omega)))
  clear hbk hblk hK3 hK4 hC4 HBK2 HB3 hF4 hK45 h5a h5b
  go_wp2_with fail
  refine (cR.out _ _ _ _ _ HK4.out).mono ?_
  rintro _ w5 ⟨vr, rfl, hO, hb5⟩
  have HRW := hid hO.rd
  have hvz := fun z hz => Owns.base_le hO z hz
  have HVZ := hid hvz
  obtain ⟨Ar, cr, rfl⟩ := hO.form
  have HB5 := hid (held_next HB4.out hb5)
  have HS5 := hid hb5.size
  have HK5 := hid (HK4.out.below hb5)
  clear hO hb5 HK4 hvz
  go_upto_region 9 with fail
  go_cut [10] (fun s wc => s = .pointer (some ⟨w5.heap.size + 1, 0, none⟩) ∧ Blk wc (w5.heap.size + 1) 53 (cmEn E) ∧ Below w5.heap.size w5 wc)
  case first =>
    have hE := HE.out
    have hd := HD.out
    have h5 : d = 0 ∨ d = 1 ∨ d = 2 ∨ d = 3 ∨ d = 4 := by omega
    clear hd
    have hbl : ∀ (E' : List Value), Blk ((w5.alloc (.cells #[.int .i64 3, .int .i64 0, .int .i64 0, .int .u64 0, .int .u64 0, .int .i64 0, .int .u64 0, .int .u64 0, .int .u64 0, .slice none 0 0, .int .i64 1, .int .i64 0, .int .i64 0, .int .u64 0, .int .u64 0, .int .i64 33, .int .u64 0, .int .u64 0, .int .u64 0, .slice none 0 0, .int .i64 1, .int .i64 (-1), .int .i64 0, .int .u64 0, .int .u64 0, .int .i64 0, .int .u64 0, .int .u64 0, .int .u64 0, .slice none 0 0, .int .i64 2, .int .i64 0, .int .i64 0, .int .u64 0, .int .u64 1, .int .i64 3, .int .u64 0, .int .u64 0, .int .u64 0, .slice none 0 0, .int .i64 0, .int .i64 0, .int .i64 0, .int .u64 0, .int .u64 0, .int .i64 0, .int .u64 0, .int .u64 0, .int .u64 0, .slice none 0 0] 53)).alloc (.cells E'.toArray 53)) (w5.heap.size + 1) 53 E' := fun E' => Blk.new_at _ E'.toArray _ _ (by simp)
    have hbel : ∀ (o : Obj), Below w5.heap.size w5 ((w5.alloc (.cells #[.int .i64 3, .int .i64 0, .int .i64 0, .int .u64 0, .int .u64 0, .int .i64 0, .int .u64 0, .int .u64 0, .int .u64 0, .slice none 0 0, .int .i64 1, .int .i64 0, .int .i64 0, .int .u64 0, .int .u64 0, .int .i64 33, .int .u64 0, .int .u64 0, .int .u64 0, .slice none 0 0, .int .i64 1, .int .i64 (-1), .int .i64 0, .int .u64 0, .int .u64 0, .int .i64 0, .int .u64 0, .int .u64 0, .int .u64 0, .slice none 0 0, .int .i64 2, .int .i64 0, .int .i64 0, .int .u64 0, .int .u64 1, .int .i64 3, .int .u64 0, .int .u64 0, .int .u64 0, .slice none 0 0, .int .i64 0, .int .i64 0, .int .i64 0, .int .u64 0, .int .u64 0, .int .i64 0, .int .u64 0, .int .u64 0, .int .u64 0, .slice none 0 0] 53)).alloc o) := fun o => (((Below.refl _ _).alloc (Nat.le_refl _) _).alloc (by simp) _)
    have HBL := hid hbl
    have HBE := hid hbel
    clear hbl hbel
    rcases h5 with rfl | rfl | rfl | rfl | rfl
    all_goals
      injection hE with hE
      subst hE
      go_wp2_with fail
      go_meet
      exact ⟨rfl, HBL.out _, HBE.out _⟩
  obtain ⟨rfl, hBx, hbx⟩ := hcut
  have HB6 := hid (held_next HB5.out hbx)
  have HK6 := hid (HK5.out.below hbx)
  have HRW6 := hid (HRW.out.below rtEn_length hbx)
  have HBX := hid hBx
  have hsx := hbx.size
  have hvz6 := fun z hz => HVZ.out z hz
  obtain ⟨ek, eh, en, ⟨⟨p1, p2⟩, p3⟩, ⟨a1, a2⟩, es, eb⟩ := E
  obtain ⟨bA, bm, bcap, hbv⟩ := EOK.out.b
  simp only at hbv
  subst hbv
  have y0 := hBx.cellv (i := 0) rfl
  have y1 := hBx.cellv (i := 1) rfl
  have y2 := hBx.cellv (i := 2) rfl
  have y3 := hBx.cellv (i := 3) rfl
  have y4 := hBx.cellv (i := 4) rfl
  have y5 := hBx.cellv (i := 5) rfl
  have y6 := hBx.cellv (i := 6) rfl
  have y7 := hBx.cellv (i := 7) rfl
  have y8 := hBx.cellv (i := 8) rfl
  have y9 := hBx.cellv (i := 9) rfl
  have hnn := HN.out
  have hkl := KL.out
  have hcap := HCAP.out
  have hwn : IntKind.i64.wrap ((n : Int) + 1) = (n : Int) + 1 := by rw [IntKind.wrap_i64]; have := HLEN.out; omega
  have hrem : (t : Int).tmod ((n : Int) + 1) = (k : Int) := by
    rw [← HK.out, hnn]; rfl
  have hn0 : ((n : Int) + 1 == 0) = false := by rw [beq_eq_false_iff_ne]; omega
  have sl1 : ∀ w, (Instr.slice 45 (.slice A n cap) none (some (.int .i64 (k : Int))) none).run Try.prog w = .ok (.slice A k cap) w := fun w => slice_hi_cm w A n cap .i64 k (by omega) (by omega)
  have sl2 : ∀ w, (Instr.slice 45 (.slice A n cap) (some (.int .i64 (k : Int))) none none).run Try.prog w = .ok (.slice (dropA A cap k 10) (n - k) (cap - k)) w := fun w => slice_lo_cm w A n cap .i64 k (by omega) (by omega)
  have HKN := hid (show k ≤ n by omega)
  have HRN := hid (show Rd cmEn 10 W (.slice A n cap) l by rw [← hnn]; exact HR.out)
  have HSX := hid hsx
  clear hBx hbx hnn hkl hcap hvz6 hsx
  go_upto_region 11 with fail
  have hS : wc.drew.cell? ⟨w5.heap.size + 1, 0, none⟩ = some (.int .i64 ek) ∧ wc.drew.cell? ⟨w5.heap.size + 1, 1, none⟩ = some (.int .i64 eh) ∧ wc.drew.cell? ⟨w5.heap.size + 1, 2, none⟩ = some (.int .i64 en) ∧ wc.drew.cell? ⟨w5.heap.size + 1, 3, none⟩ = some (.int .u64 (p1 : Int)) ∧ wc.drew.cell? ⟨w5.heap.size + 1, 4, none⟩ = some (.int .u64 (p2 : Int)) ∧ wc.drew.cell? ⟨w5.heap.size + 1, 5, none⟩ = some (.int .i64 p3) ∧ wc.drew.cell? ⟨w5.heap.size + 1, 6, none⟩ = some (.int .u64 (a1 : Int)) ∧ wc.drew.cell? ⟨w5.heap.size + 1, 7, none⟩ = some (.int .u64 (a2 : Int)) ∧ wc.drew.cell? ⟨w5.heap.size + 1, 8, none⟩ = some (.int .u64 (es : Int)) ∧ wc.drew.cell? ⟨w5.heap.size + 1, 9, none⟩ = some (.slice bA bm bcap) := ⟨y0, y1, y2, y3, y4, y5, y6, y7, y8, y9⟩
  refine wp_region_ord (fun w' => w'.cell? ⟨w5.heap.size + 1, 0, none⟩ = some (.int .i64 ek) ∧ w'.cell? ⟨w5.heap.size + 1, 1, none⟩ = some (.int .i64 eh) ∧ w'.cell? ⟨w5.heap.size + 1, 2, none⟩ = some (.int .i64 en) ∧ w'.cell? ⟨w5.heap.size + 1, 3, none⟩ = some (.int .u64 (p1 : Int)) ∧ w'.cell? ⟨w5.heap.size + 1, 4, none⟩ = some (.int .u64 (p2 : Int)) ∧ w'.cell? ⟨w5.heap.size + 1, 5, none⟩ = some (.int .i64 p3) ∧ w'.cell? ⟨w5.heap.size + 1, 6, none⟩ = some (.int .u64 (a1 : Int)) ∧ w'.cell? ⟨w5.heap.size + 1, 7, none⟩ = some (.int .u64 (a2 : Int)) ∧ w'.cell? ⟨w5.heap.size + 1, 8, none⟩ = some (.int .u64 (es : Int)) ∧ w'.cell? ⟨w5.heap.size + 1, 9, none⟩ = some (.slice bA bm bcap)) (by kernel_rfl) hS ?_
  refine ord_still 0 rfl (v := ?_) (by kernel_rfl) (fun _ _ _ h => h) rfl (fun W hW => ?_) hS ?_
  rotate_left
  · try dsimp only at hW
    go_simp
    try with_reducible rfl
  simp only [Act.put, List.setIfInBounds_toArray, List.set_cons_zero, List.set_cons_succ]
  refine ord_still 1 rfl (v := ?_) (by kernel_rfl) (fun _ _ _ h => h) rfl (fun W hW => ?_) hS ?_
  rotate_left
  · try dsimp only at hW
    go_simp
    try with_reducible rfl
  simp only [Act.put, List.setIfInBounds_toArray, List.set_cons_zero, List.set_cons_succ]
  refine ord_still 2 rfl (v := ?_) (by kernel_rfl) (fun _ _ _ h => h) rfl (fun W hW => ?_) hS ?_
  rotate_left
  · try dsimp only at hW
    go_simp
    try with_reducible rfl
  simp only [Act.put, List.setIfInBounds_toArray, List.set_cons_zero, List.set_cons_succ]
  refine ord_still 3 rfl (v := ?_) (by kernel_rfl) (fun _ _ _ h => h) rfl (fun W hW => ?_) hS ?_
  rotate_left
  · try dsimp only at hW
    go_simp
    try with_reducible rfl
  simp only [Act.put, List.setIfInBounds_toArray, List.set_cons_zero, List.set_cons_succ]
  refine ord_still 5 rfl (v := ?_) (by kernel_rfl) (fun _ _ _ h => h) rfl (fun W hW => ?_) hS ?_
  rotate_left
  · try dsimp only at hW
    go_simp
    try with_reducible rfl
  simp only [Act.put, List.setIfInBounds_toArray, List.set_cons_zero, List.set_cons_succ]
  refine ord_still 8 rfl (v := ?_) (by kernel_rfl) (fun _ _ _ h => h) rfl (fun W hW => ?_) hS ?_
  rotate_left
  · try dsimp only at hW
    go_simp
    try with_reducible rfl
  simp only [Act.put, List.setIfInBounds_toArray, List.set_cons_zero, List.set_cons_succ]
  refine ord_still 9 rfl (v := ?_) (by kernel_rfl) (fun _ _ _ h => h) rfl (fun W hW => ?_) hS ?_
  rotate_left
  · try dsimp only at hW
    go_simp
    try with_reducible rfl
  simp only [Act.put, List.setIfInBounds_toArray, List.set_cons_zero, List.set_cons_succ]
  refine ord_still 10 rfl (v := ?_) (by kernel_rfl) (fun _ _ _ h => h) rfl (fun W hW => ?_) hS ?_
  rotate_left
  · try dsimp only at hW
    go_simp
    try with_reducible rfl
  simp only [Act.put, List.setIfInBounds_toArray, List.set_cons_zero, List.set_cons_succ]
  refine ord_two 4 6 rfl rfl (by kernel_rfl) rfl rfl (fun K hK => ?_) (fun K hK => ?_)
  · skip
    refine wp_append_rdl _ _ 45 rfl 53 _ 10 96 Try.underlying45 cm_row rfl (by decide) wc.heap.size (.slice none 0 0) 0 [] rfl (Owns.nil _ _ _ _) _ rfl (l.take k) (Rd.takeS (n := n) (HRN.out.below cmEn_len (HB6.out.trans ((Below.refl wc.heap.size wc).drew.mono HB6.out.size))) k (by have := HKN.out; have := HN.out; omega)) cmEn_len (fun c hc u hu => cells_cm c (OKL.out c (List.mem_of_mem_take hc)) u hu) ?_ ?_ ?_ ?_
    · have hkn := HKN.out; have hln := HN.out; have hle := HLEN.out; simp only [List.length_take, List.length_drop, List.length_singleton]; unfold maxLen; omega
    · have hkn := HKN.out; have hln := HN.out; have hle := HLEN.out; simp only [List.length_take, List.length_drop, List.length_singleton]; omega
    · exact (Below.refl wc.heap.size wc).drew.size
    intro v4 wx hO hC
    have HO4 := hid (show Owns wx wc.heap.size 53 10 v4 k ((l.take k).flatMap cmEn) by
      have h1 : 0 + (l.take k).length = k := by have := HKN.out; have := HN.out; rw [List.length_take]; omega
      rw [h1] at hO; exact hO)
    have HBWx := hid (((Below.refl wc.heap.size wc).drew).trans (hC.below (B := wc.heap.size) ((Below.refl wc.heap.size wc).drew).size (fun z hz h => by simp [Value.ownBlock] at h)))
    have HCX := hid hC
    clear hO hC
    clear hS
    have hS : wx.cell? ⟨w5.heap.size + 1, 0, none⟩ = some (.int .i64 ek) ∧ wx.cell? ⟨w5.heap.size + 1, 1, none⟩ = some (.int .i64 eh) ∧ wx.cell? ⟨w5.heap.size + 1, 2, none⟩ = some (.int .i64 en) ∧ wx.cell? ⟨w5.heap.size + 1, 3, none⟩ = some (.int .u64 (p1 : Int)) ∧ wx.cell? ⟨w5.heap.size + 1, 4, none⟩ = some (.int .u64 (p2 : Int)) ∧ wx.cell? ⟨w5.heap.size + 1, 5, none⟩ = some (.int .i64 p3) ∧ wx.cell? ⟨w5.heap.size + 1, 6, none⟩ = some (.int .u64 (a1 : Int)) ∧ wx.cell? ⟨w5.heap.size + 1, 7, none⟩ = some (.int .u64 (a2 : Int)) ∧ wx.cell? ⟨w5.heap.size + 1, 8, none⟩ = some (.int .u64 (es : Int)) ∧ wx.cell? ⟨w5.heap.size + 1, 9, none⟩ = some (.slice bA bm bcap) := ⟨(HBX.out.below' HBWx.out).cellv (i := 0) rfl, (HBX.out.below' HBWx.out).cellv (i := 1) rfl, (HBX.out.below' HBWx.out).cellv (i := 2) rfl, (HBX.out.below' HBWx.out).cellv (i := 3) rfl, (HBX.out.below' HBWx.out).cellv (i := 4) rfl, (HBX.out.below' HBWx.out).cellv (i := 5) rfl, (HBX.out.below' HBWx.out).cellv (i := 6) rfl, (HBX.out.below' HBWx.out).cellv (i := 7) rfl, (HBX.out.below' HBWx.out).cellv (i := 8) rfl, (HBX.out.below' HBWx.out).cellv (i := 9) rfl⟩
    refine hK.out _ _ hS ?_
    clear hK
    refine ord_alone 6 rfl (by kernel_rfl) rfl (fun K hK => ?_)
    go_simp
    have HA := hid (show Below wx.heap.size wx (wx.alloc (.cells #[.int .i64 ek, .int .i64 eh, .int .i64 en, .int .u64 (p1 : Int), .int .u64 (p2 : Int), .int .i64 p3, .int .u64 (a1 : Int), .int .u64 (a2 : Int), .int .u64 (es : Int), .slice bA bm bcap] 53)) from (Below.refl _ _).alloc (Nat.le_refl _) _)
    have HBY := hid (show Blk (wx.alloc (.cells #[.int .i64 ek, .int .i64 eh, .int .i64 en, .int .u64 (p1 : Int), .int .u64 (p2 : Int), .int .i64 p3, .int .u64 (a1 : Int), .int .u64 (a2 : Int), .int .u64 (es : Int), .slice bA bm bcap] 53)) wx.heap.size 53 ([(⟨ek, eh, en, ((p1, p2), p3), (a1, a2), es, .slice bA bm bcap⟩ : Cm)].flatMap cmEn) from Blk.new wx (cmEn (⟨ek, eh, en, ((p1, p2), p3), (a1, a2), es, .slice bA bm bcap⟩ : Cm)) _)
    have HO4 := hid (Owns.below HO4.out HA.out)
    have HBWx := hid (HBWx.out.trans (HA.out.mono HBWx.out.size))
    clear hS
    have hS : (wx.alloc (.cells #[.int .i64 ek, .int .i64 eh, .int .i64 en, .int .u64 (p1 : Int), .int .u64 (p2 : Int), .int .i64 p3, .int .u64 (a1 : Int), .int .u64 (a2 : Int), .int .u64 (es : Int), .slice bA bm bcap] 53)).cell? ⟨w5.heap.size + 1, 0, none⟩ = some (.int .i64 ek) ∧ (wx.alloc (.cells #[.int .i64 ek, .int .i64 eh, .int .i64 en, .int .u64 (p1 : Int), .int .u64 (p2 : Int), .int .i64 p3, .int .u64 (a1 : Int), .int .u64 (a2 : Int), .int .u64 (es : Int), .slice bA bm bcap] 53)).cell? ⟨w5.heap.size + 1, 1, none⟩ = some (.int .i64 eh) ∧ (wx.alloc (.cells #[.int .i64 ek, .int .i64 eh, .int .i64 en, .int .u64 (p1 : Int), .int .u64 (p2 : Int), .int .i64 p3, .int .u64 (a1 : Int), .int .u64 (a2 : Int), .int .u64 (es : Int), .slice bA bm bcap] 53)).cell? ⟨w5.heap.size + 1, 2, none⟩ = some (.int .i64 en) ∧ (wx.alloc (.cells #[.int .i64 ek, .int .i64 eh, .int .i64 en, .int .u64 (p1 : Int), .int .u64 (p2 : Int), .int .i64 p3, .int .u64 (a1 : Int), .int .u64 (a2 : Int), .int .u64 (es : Int), .slice bA bm bcap] 53)).cell? ⟨w5.heap.size + 1, 3, none⟩ = some (.int .u64 (p1 : Int)) ∧ (wx.alloc (.cells #[.int .i64 ek, .int .i64 eh, .int .i64 en, .int .u64 (p1 : Int), .int .u64 (p2 : Int), .int .i64 p3, .int .u64 (a1 : Int), .int .u64 (a2 : Int), .int .u64 (es : Int), .slice bA bm bcap] 53)).cell? ⟨w5.heap.size + 1, 4, none⟩ = some (.int .u64 (p2 : Int)) ∧ (wx.alloc (.cells #[.int .i64 ek, .int .i64 eh, .int .i64 en, .int .u64 (p1 : Int), .int .u64 (p2 : Int), .int .i64 p3, .int .u64 (a1 : Int), .int .u64 (a2 : Int), .int .u64 (es : Int), .slice bA bm bcap] 53)).cell? ⟨w5.heap.size + 1, 5, none⟩ = some (.int .i64 p3) ∧ (wx.alloc (.cells #[.int .i64 ek, .int .i64 eh, .int .i64 en, .int .u64 (p1 : Int), .int .u64 (p2 : Int), .int .i64 p3, .int .u64 (a1 : Int), .int .u64 (a2 : Int), .int .u64 (es : Int), .slice bA bm bcap] 53)).cell? ⟨w5.heap.size + 1, 6, none⟩ = some (.int .u64 (a1 : Int)) ∧ (wx.alloc (.cells #[.int .i64 ek, .int .i64 eh, .int .i64 en, .int .u64 (p1 : Int), .int .u64 (p2 : Int), .int .i64 p3, .int .u64 (a1 : Int), .int .u64 (a2 : Int), .int .u64 (es : Int), .slice bA bm bcap] 53)).cell? ⟨w5.heap.size + 1, 7, none⟩ = some (.int .u64 (a2 : Int)) ∧ (wx.alloc (.cells #[.int .i64 ek, .int .i64 eh, .int .i64 en, .int .u64 (p1 : Int), .int .u64 (p2 : Int), .int .i64 p3, .int .u64 (a1 : Int), .int .u64 (a2 : Int), .int .u64 (es : Int), .slice bA bm bcap] 53)).cell? ⟨w5.heap.size + 1, 8, none⟩ = some (.int .u64 (es : Int)) ∧ (wx.alloc (.cells #[.int .i64 ek, .int .i64 eh, .int .i64 en, .int .u64 (p1 : Int), .int .u64 (p2 : Int), .int .i64 p3, .int .u64 (a1 : Int), .int .u64 (a2 : Int), .int .u64 (es : Int), .slice bA bm bcap] 53)).cell? ⟨w5.heap.size + 1, 9, none⟩ = some (.slice bA bm bcap) := ⟨(HBX.out.below' HBWx.out).cellv (i := 0) rfl, (HBX.out.below' HBWx.out).cellv (i := 1) rfl, (HBX.out.below' HBWx.out).cellv (i := 2) rfl, (HBX.out.below' HBWx.out).cellv (i := 3) rfl, (HBX.out.below' HBWx.out).cellv (i := 4) rfl, (HBX.out.below' HBWx.out).cellv (i := 5) rfl, (HBX.out.below' HBWx.out).cellv (i := 6) rfl, (HBX.out.below' HBWx.out).cellv (i := 7) rfl, (HBX.out.below' HBWx.out).cellv (i := 8) rfl, (HBX.out.below' HBWx.out).cellv (i := 9) rfl⟩
    refine hK.out _ _ hS ?_
    clear hK
    clear HA HCX
    generalize wx.heap.size = gy at *
    generalize wx.alloc (.cells #[.int .i64 ek, .int .i64 eh, .int .i64 en, .int .u64 (p1 : Int), .int .u64 (p2 : Int), .int .i64 p3, .int .u64 (a1 : Int), .int .u64 (a2 : Int), .int .u64 (es : Int), .slice bA bm bcap] 53) = wx at *
    refine ord_alone 7 rfl (by kernel_rfl) rfl (fun K hK => ?_)
    have HBW := HBWx
    refine wp_append_rdl _ _ 45 rfl 53 _ 10 96 Try.underlying45 cm_row rfl (by decide) wc.heap.size _ k _ rfl (HO4.out) _ rfl [(⟨ek, eh, en, ((p1, p2), p3), (a1, a2), es, .slice bA bm bcap⟩ : Cm)] (Rd.of_blk (en := cmEn) (l := [(⟨ek, eh, en, ((p1, p2), p3), (a1, a2), es, .slice bA bm bcap⟩ : Cm)]) HBY.out cmEn_len (by unfold maxLen; simp)) cmEn_len (fun c hc u hu => by rw [List.mem_singleton.1 hc] at hu; exact cells_cm _ EOK.out u hu) ?_ ?_ ?_ ?_
    · have hkn := HKN.out; have hln := HN.out; have hle := HLEN.out; simp only [List.length_take, List.length_drop, List.length_singleton]; unfold maxLen; omega
    · have hkn := HKN.out; have hln := HN.out; have hle := HLEN.out; simp only [List.length_take, List.length_drop, List.length_singleton]; omega
    · exact HBW.out.size
    intro v7 w7 hO hC
    have HO7 := hid (show Owns w7 wc.heap.size 53 10 v7 (k + 1) ((l.take k).flatMap cmEn ++ [(⟨ek, eh, en, ((p1, p2), p3), (a1, a2), es, .slice bA bm bcap⟩ : Cm)].flatMap cmEn) from hO)
    have HBW7 := hid (HBW.out.trans (hC.below (B := wc.heap.size) HBW.out.size (fun z hz h => by have := (Owns.base_le HO4.out z h).1; omega)))
    clear hO hC HO4 HBY HBW HBWx
    clear hS
    have hS : w7.cell? ⟨w5.heap.size + 1, 0, none⟩ = some (.int .i64 ek) ∧ w7.cell? ⟨w5.heap.size + 1, 1, none⟩ = some (.int .i64 eh) ∧ w7.cell? ⟨w5.heap.size + 1, 2, none⟩ = some (.int .i64 en) ∧ w7.cell? ⟨w5.heap.size + 1, 3, none⟩ = some (.int .u64 (p1 : Int)) ∧ w7.cell? ⟨w5.heap.size + 1, 4, none⟩ = some (.int .u64 (p2 : Int)) ∧ w7.cell? ⟨w5.heap.size + 1, 5, none⟩ = some (.int .i64 p3) ∧ w7.cell? ⟨w5.heap.size + 1, 6, none⟩ = some (.int .u64 (a1 : Int)) ∧ w7.cell? ⟨w5.heap.size + 1, 7, none⟩ = some (.int .u64 (a2 : Int)) ∧ w7.cell? ⟨w5.heap.size + 1, 8, none⟩ = some (.int .u64 (es : Int)) ∧ w7.cell? ⟨w5.heap.size + 1, 9, none⟩ = some (.slice bA bm bcap) := ⟨(HBX.out.below' HBW7.out).cellv (i := 0) rfl, (HBX.out.below' HBW7.out).cellv (i := 1) rfl, (HBX.out.below' HBW7.out).cellv (i := 2) rfl, (HBX.out.below' HBW7.out).cellv (i := 3) rfl, (HBX.out.below' HBW7.out).cellv (i := 4) rfl, (HBX.out.below' HBW7.out).cellv (i := 5) rfl, (HBX.out.below' HBW7.out).cellv (i := 6) rfl, (HBX.out.below' HBW7.out).cellv (i := 7) rfl, (HBX.out.below' HBW7.out).cellv (i := 8) rfl, (HBX.out.below' HBW7.out).cellv (i := 9) rfl⟩
    refine hK.out _ _ hS ?_
    clear hK
    refine ord_alone 11 rfl (by kernel_rfl) rfl (fun K hK => ?_)
    have HBW := HBW7
    refine wp_append_rdl _ _ 45 rfl 53 _ 10 96 Try.underlying45 cm_row rfl (by decide) wc.heap.size _ (k + 1) _ rfl (HO7.out) _ rfl (l.drop k) (Rd.dropA (HRN.out.below cmEn_len (HB6.out.trans (HBW7.out.mono HB6.out.size))) k (by have := HKN.out; have := HN.out; omega)) cmEn_len (fun c hc u hu => cells_cm c (OKL.out c (List.mem_of_mem_drop hc)) u hu) ?_ ?_ ?_ ?_
    · have hkn := HKN.out; have hln := HN.out; have hle := HLEN.out; simp only [List.length_take, List.length_drop, List.length_singleton]; unfold maxLen; omega
    · have hkn := HKN.out; have hln := HN.out; have hle := HLEN.out; simp only [List.length_take, List.length_drop, List.length_singleton]; omega
    · exact HBW.out.size
    intro v8 w8 hO hC
    have HO8 := hid hO
    have HBW8 := hid (HBW.out.trans (hC.below (B := wc.heap.size) HBW.out.size (fun z hz h => by have := (Owns.base_le HO7.out z h).1; omega)))
    clear hO hC HO7 HBW HBW7
    clear hS
    have hS : w8.cell? ⟨w5.heap.size + 1, 0, none⟩ = some (.int .i64 ek) ∧ w8.cell? ⟨w5.heap.size + 1, 1, none⟩ = some (.int .i64 eh) ∧ w8.cell? ⟨w5.heap.size + 1, 2, none⟩ = some (.int .i64 en) ∧ w8.cell? ⟨w5.heap.size + 1, 3, none⟩ = some (.int .u64 (p1 : Int)) ∧ w8.cell? ⟨w5.heap.size + 1, 4, none⟩ = some (.int .u64 (p2 : Int)) ∧ w8.cell? ⟨w5.heap.size + 1, 5, none⟩ = some (.int .i64 p3) ∧ w8.cell? ⟨w5.heap.size + 1, 6, none⟩ = some (.int .u64 (a1 : Int)) ∧ w8.cell? ⟨w5.heap.size + 1, 7, none⟩ = some (.int .u64 (a2 : Int)) ∧ w8.cell? ⟨w5.heap.size + 1, 8, none⟩ = some (.int .u64 (es : Int)) ∧ w8.cell? ⟨w5.heap.size + 1, 9, none⟩ = some (.slice bA bm bcap) := ⟨(HBX.out.below' HBW8.out).cellv (i := 0) rfl, (HBX.out.below' HBW8.out).cellv (i := 1) rfl, (HBX.out.below' HBW8.out).cellv (i := 2) rfl, (HBX.out.below' HBW8.out).cellv (i := 3) rfl, (HBX.out.below' HBW8.out).cellv (i := 4) rfl, (HBX.out.below' HBW8.out).cellv (i := 5) rfl, (HBX.out.below' HBW8.out).cellv (i := 6) rfl, (HBX.out.below' HBW8.out).cellv (i := 7) rfl, (HBX.out.below' HBW8.out).cellv (i := 8) rfl, (HBX.out.below' HBW8.out).cellv (i := 9) rfl⟩
    refine hK.out _ _ hS ?_
    clear hK
    refine ord_alone 12 rfl (by kernel_rfl) rfl (fun K hK => ?_)
    have hrd : Rd cmEn 10 w8 v8 (l.take k ++ (⟨ek, eh, en, ((p1, p2), p3), (a1, a2), es, .slice bA bm bcap⟩ : Cm) :: l.drop k) := by
      have h1 : k + 1 + (l.drop k).length = (l.take k ++ (⟨ek, eh, en, ((p1, p2), p3), (a1, a2), es, .slice bA bm bcap⟩ : Cm) :: l.drop k).length := by have := HKN.out; have := HN.out; simp only [List.length_append, List.length_take, List.length_drop, List.length_cons]; omega
      have h2 : (l.take k).flatMap cmEn ++ [(⟨ek, eh, en, ((p1, p2), p3), (a1, a2), es, .slice bA bm bcap⟩ : Cm)].flatMap cmEn ++ (l.drop k).flatMap cmEn = (l.take k ++ (⟨ek, eh, en, ((p1, p2), p3), (a1, a2), es, .slice bA bm bcap⟩ : Cm) :: l.drop k).flatMap cmEn := by simp
      have h := HO8.out
      rw [h1, h2] at h
      exact Rd.of_owns h cmEn_len
    have HRD := hid hrd
    have HOZ := hid (fun z hz => Owns.base_le HO8.out z hz)
    obtain ⟨A8, c8, hv8, _⟩ := hrd.form
    generalize (l.take k ++ (⟨ek, eh, en, ((p1, p2), p3), (a1, a2), es, .slice bA bm bcap⟩ : Cm) :: l.drop k).length = n8 at hv8
    subst hv8
    clear hrd HO8
    go_simp
    refine (cD.out w8 b F5 m3 rts3 (HK6.out.below HBW8.out) _ _ HRD.out (fun c hc => ?_) ?_ (fun z hz => ⟨fun h => ?_, (HOZ.out z hz).2⟩)).mono ?_
    · rcases List.mem_append.1 hc with h | h
      · exact OKL.out c (List.mem_of_mem_take h)
      · rcases List.mem_cons.1 h with rfl | h
        · exact EOK.out
        · exact OKL.out c (List.mem_of_mem_drop h)
    · have := HLEN.out; simp only [List.length_append, List.length_take, List.length_drop, List.length_cons]; omega
    · have h1 := HL5.out z h; have h2 := (HOZ.out z hz).1; have h3 := HS5.out; have h4 := HSX.out; omega
    rintro _ w9 ⟨he9, ⟨F9, hF9, hK9⟩, hC9⟩
    rw [DO.out] at he9 hK9
    subst he9
    have HK9 := hid hK9
    have HB9 := hid ((HB6.out.trans (HBW8.out.mono HB6.out.size)).trans (hC9.below (B := W.heap.size) (HB6.out.trans (HBW8.out.mono HB6.out.size)).size (fun z hz h => by have := HF5.out z h; omega)))
    have hS9 : w9.cell? ⟨w5.heap.size + 1, 0, none⟩ = some (.int .i64 ek) ∧ w9.cell? ⟨w5.heap.size + 1, 1, none⟩ = some (.int .i64 eh) ∧ w9.cell? ⟨w5.heap.size + 1, 2, none⟩ = some (.int .i64 en) ∧ w9.cell? ⟨w5.heap.size + 1, 3, none⟩ = some (.int .u64 (p1 : Int)) ∧ w9.cell? ⟨w5.heap.size + 1, 4, none⟩ = some (.int .u64 (p2 : Int)) ∧ w9.cell? ⟨w5.heap.size + 1, 5, none⟩ = some (.int .i64 p3) ∧ w9.cell? ⟨w5.heap.size + 1, 6, none⟩ = some (.int .u64 (a1 : Int)) ∧ w9.cell? ⟨w5.heap.size + 1, 7, none⟩ = some (.int .u64 (a2 : Int)) ∧ w9.cell? ⟨w5.heap.size + 1, 8, none⟩ = some (.int .u64 (es : Int)) ∧ w9.cell? ⟨w5.heap.size + 1, 9, none⟩ = some (.slice bA bm bcap) := ⟨((HBX.out.below' HBW8.out).chg hC9 (fun h => by have h1 := HL5.out _ h; have h3 := HS5.out; omega)).cellv (i := 0) rfl, ((HBX.out.below' HBW8.out).chg hC9 (fun h => by have h1 := HL5.out _ h; have h3 := HS5.out; omega)).cellv (i := 1) rfl, ((HBX.out.below' HBW8.out).chg hC9 (fun h => by have h1 := HL5.out _ h; have h3 := HS5.out; omega)).cellv (i := 2) rfl, ((HBX.out.below' HBW8.out).chg hC9 (fun h => by have h1 := HL5.out _ h; have h3 := HS5.out; omega)).cellv (i := 3) rfl, ((HBX.out.below' HBW8.out).chg hC9 (fun h => by have h1 := HL5.out _ h; have h3 := HS5.out; omega)).cellv (i := 4) rfl, ((HBX.out.below' HBW8.out).chg hC9 (fun h => by have h1 := HL5.out _ h; have h3 := HS5.out; omega)).cellv (i := 5) rfl, ((HBX.out.below' HBW8.out).chg hC9 (fun h => by have h1 := HL5.out _ h; have h3 := HS5.out; omega)).cellv (i := 6) rfl, ((HBX.out.below' HBW8.out).chg hC9 (fun h => by have h1 := HL5.out _ h; have h3 := HS5.out; omega)).cellv (i := 7) rfl, ((HBX.out.below' HBW8.out).chg hC9 (fun h => by have h1 := HL5.out _ h; have h3 := HS5.out; omega)).cellv (i := 8) rfl, ((HBX.out.below' HBW8.out).chg hC9 (fun h => by have h1 := HL5.out _ h; have h3 := HS5.out; omega)).cellv (i := 9) rfl⟩
    have HRW9 := hid ((HRW6.out.below rtEn_length HBW8.out).chg rtEn_length hC9 (fun z hz h => by have h1 := HL5.out _ h; have h2 := (HVZ.out z hz).1; omega))
    clear hS hK9 hC9 hF9 HRD HOZ HBW8
    have hS := hS9
    refine hK.out _ _ hS ?_
    clear hK hS9
    refine ord_still 13 rfl (v := ?_) (by kernel_rfl) (fun _ _ _ h => h) rfl (fun W hW => ?_) hS ?_
    rotate_left
    · try dsimp only at hW
      go_simp
      try with_reducible rfl
    simp only [Act.put, List.setIfInBounds_toArray, List.set_cons_zero, List.set_cons_succ]
    refine ord_still 14 rfl (v := ?_) (by kernel_rfl) (fun _ _ _ h => h) rfl (fun W hW => ?_) hS ?_
    rotate_left
    · try dsimp only at hW
      go_simp
      try with_reducible rfl
    simp only [Act.put, List.setIfInBounds_toArray, List.set_cons_zero, List.set_cons_succ]
    refine ord_still 15 rfl (v := ?_) (by kernel_rfl) (fun _ _ _ h => h) rfl (fun W hW => ?_) hS ?_
    rotate_left
    · try dsimp only at hW
      go_simp
      try with_reducible rfl
    simp only [Act.put, List.setIfInBounds_toArray, List.set_cons_zero, List.set_cons_succ]
    refine ord_still 16 rfl (v := ?_) (by kernel_rfl) (fun _ _ _ h => h) rfl (fun W hW => ?_) hS ?_
    rotate_left
    · try dsimp only at hW
      go_simp
      try with_reducible rfl
    simp only [Act.put, List.setIfInBounds_toArray, List.set_cons_zero, List.set_cons_succ]
    refine ord_still 17 rfl (v := ?_) (by kernel_rfl) (fun _ _ _ h => h) rfl (fun W hW => ?_) hS ?_
    rotate_left
    · try dsimp only at hW
      go_simp
      try with_reducible rfl
    simp only [Act.put, List.setIfInBounds_toArray, List.set_cons_zero, List.set_cons_succ]
    have e5 : (er != 0) = true := by simpa using ER.out
    have e6 : decide ((0 : Int) ≤ (i : Int)) = true := decide_eq_true (by omega)
    have e7 : decide ((i : Int) ≤ (k : Int)) = true := decide_eq_true (by have := IK.out; omega)
    refine ord_done (by kernel_rfl) ?_
    clear hS
    clear y0 y1 y2 y3 y4 y5 y6 y7 y8 y9 sl1 sl2 hwn hrem hn0
    go_wp2_with fail
    refine (cn.out _ _).mono ?_
    rintro _ w10 ⟨rfl, rfl⟩
    go_wp2_with fail
    refine (cR.out _ _ _ _ _ HK9.out).mono ?_
    rintro _ w11 ⟨vt, rfl, hO, hb⟩
    have HB11 := hid (held_next HB9.out hb)
    have cS := hid (ref_sameRts w11 vt _ rts3 rts3 hO.rd (HRW9.out.below rtEn_length hb) true (by simp))
    obtain ⟨At, ct, rfl⟩ := hO.form
    clear hO hb
    go_wp2_with fail
    refine cS.out.mono ?_
    rintro _ w12 ⟨rfl, hb⟩
    have HB12 := hid (held_next HB11.out hb)
    clear hb
    go_wp2_with fail
    go_ret
    exact ⟨rfl, HB12.out⟩
  · skip
    go_simp
    have HA := hid (show Below wc.heap.size wc (wc.alloc (.cells #[.int .i64 ek, .int .i64 eh, .int .i64 en, .int .u64 (p1 : Int), .int .u64 (p2 : Int), .int .i64 p3, .int .u64 (a1 : Int), .int .u64 (a2 : Int), .int .u64 (es : Int), .slice bA bm bcap] 53)).drew from ((Below.refl wc.heap.size wc).alloc (Nat.le_refl _) _).drew)
    have HBY := hid (show Blk (wc.alloc (.cells #[.int .i64 ek, .int .i64 eh, .int .i64 en, .int .u64 (p1 : Int), .int .u64 (p2 : Int), .int .i64 p3, .int .u64 (a1 : Int), .int .u64 (a2 : Int), .int .u64 (es : Int), .slice bA bm bcap] 53)).drew wc.heap.size 53 ([(⟨ek, eh, en, ((p1, p2), p3), (a1, a2), es, .slice bA bm bcap⟩ : Cm)].flatMap cmEn) from Blk.new wc (cmEn (⟨ek, eh, en, ((p1, p2), p3), (a1, a2), es, .slice bA bm bcap⟩ : Cm)) _)
    clear hS
    have hS : (wc.alloc (.cells #[.int .i64 ek, .int .i64 eh, .int .i64 en, .int .u64 (p1 : Int), .int .u64 (p2 : Int), .int .i64 p3, .int .u64 (a1 : Int), .int .u64 (a2 : Int), .int .u64 (es : Int), .slice bA bm bcap] 53)).drew.cell? ⟨w5.heap.size + 1, 0, none⟩ = some (.int .i64 ek) ∧ (wc.alloc (.cells #[.int .i64 ek, .int .i64 eh, .int .i64 en, .int .u64 (p1 : Int), .int .u64 (p2 : Int), .int .i64 p3, .int .u64 (a1 : Int), .int .u64 (a2 : Int), .int .u64 (es : Int), .slice bA bm bcap] 53)).drew.cell? ⟨w5.heap.size + 1, 1, none⟩ = some (.int .i64 eh) ∧ (wc.alloc (.cells #[.int .i64 ek, .int .i64 eh, .int .i64 en, .int .u64 (p1 : Int), .int .u64 (p2 : Int), .int .i64 p3, .int .u64 (a1 : Int), .int .u64 (a2 : Int), .int .u64 (es : Int), .slice bA bm bcap] 53)).drew.cell? ⟨w5.heap.size + 1, 2, none⟩ = some (.int .i64 en) ∧ (wc.alloc (.cells #[.int .i64 ek, .int .i64 eh, .int .i64 en, .int .u64 (p1 : Int), .int .u64 (p2 : Int), .int .i64 p3, .int .u64 (a1 : Int), .int .u64 (a2 : Int), .int .u64 (es : Int), .slice bA bm bcap] 53)).drew.cell? ⟨w5.heap.size + 1, 3, none⟩ = some (.int .u64 (p1 : Int)) ∧ (wc.alloc (.cells #[.int .i64 ek, .int .i64 eh, .int .i64 en, .int .u64 (p1 : Int), .int .u64 (p2 : Int), .int .i64 p3, .int .u64 (a1 : Int), .int .u64 (a2 : Int), .int .u64 (es : Int), .slice bA bm bcap] 53)).drew.cell? ⟨w5.heap.size + 1, 4, none⟩ = some (.int .u64 (p2 : Int)) ∧ (wc.alloc (.cells #[.int .i64 ek, .int .i64 eh, .int .i64 en, .int .u64 (p1 : Int), .int .u64 (p2 : Int), .int .i64 p3, .int .u64 (a1 : Int), .int .u64 (a2 : Int), .int .u64 (es : Int), .slice bA bm bcap] 53)).drew.cell? ⟨w5.heap.size + 1, 5, none⟩ = some (.int .i64 p3) ∧ (wc.alloc (.cells #[.int .i64 ek, .int .i64 eh, .int .i64 en, .int .u64 (p1 : Int), .int .u64 (p2 : Int), .int .i64 p3, .int .u64 (a1 : Int), .int .u64 (a2 : Int), .int .u64 (es : Int), .slice bA bm bcap] 53)).drew.cell? ⟨w5.heap.size + 1, 6, none⟩ = some (.int .u64 (a1 : Int)) ∧ (wc.alloc (.cells #[.int .i64 ek, .int .i64 eh, .int .i64 en, .int .u64 (p1 : Int), .int .u64 (p2 : Int), .int .i64 p3, .int .u64 (a1 : Int), .int .u64 (a2 : Int), .int .u64 (es : Int), .slice bA bm bcap] 53)).drew.cell? ⟨w5.heap.size + 1, 7, none⟩ = some (.int .u64 (a2 : Int)) ∧ (wc.alloc (.cells #[.int .i64 ek, .int .i64 eh, .int .i64 en, .int .u64 (p1 : Int), .int .u64 (p2 : Int), .int .i64 p3, .int .u64 (a1 : Int), .int .u64 (a2 : Int), .int .u64 (es : Int), .slice bA bm bcap] 53)).drew.cell? ⟨w5.heap.size + 1, 8, none⟩ = some (.int .u64 (es : Int)) ∧ (wc.alloc (.cells #[.int .i64 ek, .int .i64 eh, .int .i64 en, .int .u64 (p1 : Int), .int .u64 (p2 : Int), .int .i64 p3, .int .u64 (a1 : Int), .int .u64 (a2 : Int), .int .u64 (es : Int), .slice bA bm bcap] 53)).drew.cell? ⟨w5.heap.size + 1, 9, none⟩ = some (.slice bA bm bcap) := ⟨(HBX.out.below' HA.out).cellv (i := 0) rfl, (HBX.out.below' HA.out).cellv (i := 1) rfl, (HBX.out.below' HA.out).cellv (i := 2) rfl, (HBX.out.below' HA.out).cellv (i := 3) rfl, (HBX.out.below' HA.out).cellv (i := 4) rfl, (HBX.out.below' HA.out).cellv (i := 5) rfl, (HBX.out.below' HA.out).cellv (i := 6) rfl, (HBX.out.below' HA.out).cellv (i := 7) rfl, (HBX.out.below' HA.out).cellv (i := 8) rfl, (HBX.out.below' HA.out).cellv (i := 9) rfl⟩
    refine hK.out _ _ hS ?_
    clear hK
    generalize (wc.alloc (.cells #[.int .i64 ek, .int .i64 eh, .int .i64 en, .int .u64 (p1 : Int), .int .u64 (p2 : Int), .int .i64 p3, .int .u64 (a1 : Int), .int .u64 (a2 : Int), .int .u64 (es : Int), .slice bA bm bcap] 53)).drew = wy at *
    have HBW := HA
    refine ord_alone 4 rfl (by kernel_rfl) rfl (fun K hK => ?_)
    refine wp_append_rdl _ _ 45 rfl 53 _ 10 96 Try.underlying45 cm_row rfl (by decide) wc.heap.size (.slice none 0 0) 0 [] rfl (Owns.nil _ _ _ _) _ rfl (l.take k) (Rd.takeS (n := n) (HRN.out.below cmEn_len (HB6.out.trans (HA.out.mono HB6.out.size))) k (by have := HKN.out; have := HN.out; omega)) cmEn_len (fun c hc u hu => cells_cm c (OKL.out c (List.mem_of_mem_take hc)) u hu) ?_ ?_ ?_ ?_
    · have hkn := HKN.out; have hln := HN.out; have hle := HLEN.out; simp only [List.length_take, List.length_drop, List.length_singleton]; unfold maxLen; omega
    · have hkn := HKN.out; have hln := HN.out; have hle := HLEN.out; simp only [List.length_take, List.length_drop, List.length_singleton]; omega
    · exact HBW.out.size
    intro v4 wx hO hC
    have HO4 := hid (show Owns wx wc.heap.size 53 10 v4 k ((l.take k).flatMap cmEn) by
      have h1 : 0 + (l.take k).length = k := by have := HKN.out; have := HN.out; rw [List.length_take]; omega
      rw [h1] at hO; exact hO)
    have HBWx := hid ((HA.out).trans (hC.below (B := wc.heap.size) (HA.out).size (fun z hz h => by simp [Value.ownBlock] at h)))
    have HCX := hid hC
    clear hO hC
    clear hS
    have hS : wx.cell? ⟨w5.heap.size + 1, 0, none⟩ = some (.int .i64 ek) ∧ wx.cell? ⟨w5.heap.size + 1, 1, none⟩ = some (.int .i64 eh) ∧ wx.cell? ⟨w5.heap.size + 1, 2, none⟩ = some (.int .i64 en) ∧ wx.cell? ⟨w5.heap.size + 1, 3, none⟩ = some (.int .u64 (p1 : Int)) ∧ wx.cell? ⟨w5.heap.size + 1, 4, none⟩ = some (.int .u64 (p2 : Int)) ∧ wx.cell? ⟨w5.heap.size + 1, 5, none⟩ = some (.int .i64 p3) ∧ wx.cell? ⟨w5.heap.size + 1, 6, none⟩ = some (.int .u64 (a1 : Int)) ∧ wx.cell? ⟨w5.heap.size + 1, 7, none⟩ = some (.int .u64 (a2 : Int)) ∧ wx.cell? ⟨w5.heap.size + 1, 8, none⟩ = some (.int .u64 (es : Int)) ∧ wx.cell? ⟨w5.heap.size + 1, 9, none⟩ = some (.slice bA bm bcap) := ⟨(HBX.out.below' HBWx.out).cellv (i := 0) rfl, (HBX.out.below' HBWx.out).cellv (i := 1) rfl, (HBX.out.below' HBWx.out).cellv (i := 2) rfl, (HBX.out.below' HBWx.out).cellv (i := 3) rfl, (HBX.out.below' HBWx.out).cellv (i := 4) rfl, (HBX.out.below' HBWx.out).cellv (i := 5) rfl, (HBX.out.below' HBWx.out).cellv (i := 6) rfl, (HBX.out.below' HBWx.out).cellv (i := 7) rfl, (HBX.out.below' HBWx.out).cellv (i := 8) rfl, (HBX.out.below' HBWx.out).cellv (i := 9) rfl⟩
    refine hK.out _ _ hS ?_
    clear hK
    have HBY := hid (HBY.out.chg HCX.out (fun h => by simp [Value.ownBlock] at h))
    clear HCX HA HBW
    refine ord_alone 7 rfl (by kernel_rfl) rfl (fun K hK => ?_)
    have HBW := HBWx
    refine wp_append_rdl _ _ 45 rfl 53 _ 10 96 Try.underlying45 cm_row rfl (by decide) wc.heap.size _ k _ rfl (HO4.out) _ rfl [(⟨ek, eh, en, ((p1, p2), p3), (a1, a2), es, .slice bA bm bcap⟩ : Cm)] (Rd.of_blk (en := cmEn) (l := [(⟨ek, eh, en, ((p1, p2), p3), (a1, a2), es, .slice bA bm bcap⟩ : Cm)]) HBY.out cmEn_len (by unfold maxLen; simp)) cmEn_len (fun c hc u hu => by rw [List.mem_singleton.1 hc] at hu; exact cells_cm _ EOK.out u hu) ?_ ?_ ?_ ?_
    · have hkn := HKN.out; have hln := HN.out; have hle := HLEN.out; simp only [List.length_take, List.length_drop, List.length_singleton]; unfold maxLen; omega
    · have hkn := HKN.out; have hln := HN.out; have hle := HLEN.out; simp only [List.length_take, List.length_drop, List.length_singleton]; omega
    · exact HBW.out.size
    intro v7 w7 hO hC
    have HO7 := hid (show Owns w7 wc.heap.size 53 10 v7 (k + 1) ((l.take k).flatMap cmEn ++ [(⟨ek, eh, en, ((p1, p2), p3), (a1, a2), es, .slice bA bm bcap⟩ : Cm)].flatMap cmEn) from hO)
    have HBW7 := hid (HBW.out.trans (hC.below (B := wc.heap.size) HBW.out.size (fun z hz h => by have := (Owns.base_le HO4.out z h).1; omega)))
    clear hO hC HO4 HBY HBW HBWx
    clear hS
    have hS : w7.cell? ⟨w5.heap.size + 1, 0, none⟩ = some (.int .i64 ek) ∧ w7.cell? ⟨w5.heap.size + 1, 1, none⟩ = some (.int .i64 eh) ∧ w7.cell? ⟨w5.heap.size + 1, 2, none⟩ = some (.int .i64 en) ∧ w7.cell? ⟨w5.heap.size + 1, 3, none⟩ = some (.int .u64 (p1 : Int)) ∧ w7.cell? ⟨w5.heap.size + 1, 4, none⟩ = some (.int .u64 (p2 : Int)) ∧ w7.cell? ⟨w5.heap.size + 1, 5, none⟩ = some (.int .i64 p3) ∧ w7.cell? ⟨w5.heap.size + 1, 6, none⟩ = some (.int .u64 (a1 : Int)) ∧ w7.cell? ⟨w5.heap.size + 1, 7, none⟩ = some (.int .u64 (a2 : Int)) ∧ w7.cell? ⟨w5.heap.size + 1, 8, none⟩ = some (.int .u64 (es : Int)) ∧ w7.cell? ⟨w5.heap.size + 1, 9, none⟩ = some (.slice bA bm bcap) := ⟨(HBX.out.below' HBW7.out).cellv (i := 0) rfl, (HBX.out.below' HBW7.out).cellv (i := 1) rfl, (HBX.out.below' HBW7.out).cellv (i := 2) rfl, (HBX.out.below' HBW7.out).cellv (i := 3) rfl, (HBX.out.below' HBW7.out).cellv (i := 4) rfl, (HBX.out.below' HBW7.out).cellv (i := 5) rfl, (HBX.out.below' HBW7.out).cellv (i := 6) rfl, (HBX.out.below' HBW7.out).cellv (i := 7) rfl, (HBX.out.below' HBW7.out).cellv (i := 8) rfl, (HBX.out.below' HBW7.out).cellv (i := 9) rfl⟩
    refine hK.out _ _ hS ?_
    clear hK
    refine ord_alone 11 rfl (by kernel_rfl) rfl (fun K hK => ?_)
    have HBW := HBW7
    refine wp_append_rdl _ _ 45 rfl 53 _ 10 96 Try.underlying45 cm_row rfl (by decide) wc.heap.size _ (k + 1) _ rfl (HO7.out) _ rfl (l.drop k) (Rd.dropA (HRN.out.below cmEn_len (HB6.out.trans (HBW7.out.mono HB6.out.size))) k (by have := HKN.out; have := HN.out; omega)) cmEn_len (fun c hc u hu => cells_cm c (OKL.out c (List.mem_of_mem_drop hc)) u hu) ?_ ?_ ?_ ?_
    · have hkn := HKN.out; have hln := HN.out; have hle := HLEN.out; simp only [List.length_take, List.length_drop, List.length_singleton]; unfold maxLen; omega
    · have hkn := HKN.out; have hln := HN.out; have hle := HLEN.out; simp only [List.length_take, List.length_drop, List.length_singleton]; omega
    · exact HBW.out.size
    intro v8 w8 hO hC
    have HO8 := hid hO
    have HBW8 := hid (HBW.out.trans (hC.below (B := wc.heap.size) HBW.out.size (fun z hz h => by have := (Owns.base_le HO7.out z h).1; omega)))
    clear hO hC HO7 HBW HBW7
    clear hS
    have hS : w8.cell? ⟨w5.heap.size + 1, 0, none⟩ = some (.int .i64 ek) ∧ w8.cell? ⟨w5.heap.size + 1, 1, none⟩ = some (.int .i64 eh) ∧ w8.cell? ⟨w5.heap.size + 1, 2, none⟩ = some (.int .i64 en) ∧ w8.cell? ⟨w5.heap.size + 1, 3, none⟩ = some (.int .u64 (p1 : Int)) ∧ w8.cell? ⟨w5.heap.size + 1, 4, none⟩ = some (.int .u64 (p2 : Int)) ∧ w8.cell? ⟨w5.heap.size + 1, 5, none⟩ = some (.int .i64 p3) ∧ w8.cell? ⟨w5.heap.size + 1, 6, none⟩ = some (.int .u64 (a1 : Int)) ∧ w8.cell? ⟨w5.heap.size + 1, 7, none⟩ = some (.int .u64 (a2 : Int)) ∧ w8.cell? ⟨w5.heap.size + 1, 8, none⟩ = some (.int .u64 (es : Int)) ∧ w8.cell? ⟨w5.heap.size + 1, 9, none⟩ = some (.slice bA bm bcap) := ⟨(HBX.out.below' HBW8.out).cellv (i := 0) rfl, (HBX.out.below' HBW8.out).cellv (i := 1) rfl, (HBX.out.below' HBW8.out).cellv (i := 2) rfl, (HBX.out.below' HBW8.out).cellv (i := 3) rfl, (HBX.out.below' HBW8.out).cellv (i := 4) rfl, (HBX.out.below' HBW8.out).cellv (i := 5) rfl, (HBX.out.below' HBW8.out).cellv (i := 6) rfl, (HBX.out.below' HBW8.out).cellv (i := 7) rfl, (HBX.out.below' HBW8.out).cellv (i := 8) rfl, (HBX.out.below' HBW8.out).cellv (i := 9) rfl⟩
    refine hK.out _ _ hS ?_
    clear hK
    refine ord_alone 12 rfl (by kernel_rfl) rfl (fun K hK => ?_)
    have hrd : Rd cmEn 10 w8 v8 (l.take k ++ (⟨ek, eh, en, ((p1, p2), p3), (a1, a2), es, .slice bA bm bcap⟩ : Cm) :: l.drop k) := by
      have h1 : k + 1 + (l.drop k).length = (l.take k ++ (⟨ek, eh, en, ((p1, p2), p3), (a1, a2), es, .slice bA bm bcap⟩ : Cm) :: l.drop k).length := by have := HKN.out; have := HN.out; simp only [List.length_append, List.length_take, List.length_drop, List.length_cons]; omega
      have h2 : (l.take k).flatMap cmEn ++ [(⟨ek, eh, en, ((p1, p2), p3), (a1, a2), es, .slice bA bm bcap⟩ : Cm)].flatMap cmEn ++ (l.drop k).flatMap cmEn = (l.take k ++ (⟨ek, eh, en, ((p1, p2), p3), (a1, a2), es, .slice bA bm bcap⟩ : Cm) :: l.drop k).flatMap cmEn := by simp
      have h := HO8.out
      rw [h1, h2] at h
      exact Rd.of_owns h cmEn_len
    have HRD := hid hrd
    have HOZ := hid (fun z hz => Owns.base_le HO8.out z hz)
    obtain ⟨A8, c8, hv8, _⟩ := hrd.form
    generalize (l.take k ++ (⟨ek, eh, en, ((p1, p2), p3), (a1, a2), es, .slice bA bm bcap⟩ : Cm) :: l.drop k).length = n8 at hv8
    subst hv8
    clear hrd HO8
    go_simp
    refine (cD.out w8 b F5 m3 rts3 (HK6.out.below HBW8.out) _ _ HRD.out (fun c hc => ?_) ?_ (fun z hz => ⟨fun h => ?_, (HOZ.out z hz).2⟩)).mono ?_
    · rcases List.mem_append.1 hc with h | h
      · exact OKL.out c (List.mem_of_mem_take h)
      · rcases List.mem_cons.1 h with rfl | h
        · exact EOK.out
        · exact OKL.out c (List.mem_of_mem_drop h)
    · have := HLEN.out; simp only [List.length_append, List.length_take, List.length_drop, List.length_cons]; omega
    · have h1 := HL5.out z h; have h2 := (HOZ.out z hz).1; have h3 := HS5.out; have h4 := HSX.out; omega
    rintro _ w9 ⟨he9, ⟨F9, hF9, hK9⟩, hC9⟩
    rw [DO.out] at he9 hK9
    subst he9
    have HK9 := hid hK9
    have HB9 := hid ((HB6.out.trans (HBW8.out.mono HB6.out.size)).trans (hC9.below (B := W.heap.size) (HB6.out.trans (HBW8.out.mono HB6.out.size)).size (fun z hz h => by have := HF5.out z h; omega)))
    have hS9 : w9.cell? ⟨w5.heap.size + 1, 0, none⟩ = some (.int .i64 ek) ∧ w9.cell? ⟨w5.heap.size + 1, 1, none⟩ = some (.int .i64 eh) ∧ w9.cell? ⟨w5.heap.size + 1, 2, none⟩ = some (.int .i64 en) ∧ w9.cell? ⟨w5.heap.size + 1, 3, none⟩ = some (.int .u64 (p1 : Int)) ∧ w9.cell? ⟨w5.heap.size + 1, 4, none⟩ = some (.int .u64 (p2 : Int)) ∧ w9.cell? ⟨w5.heap.size + 1, 5, none⟩ = some (.int .i64 p3) ∧ w9.cell? ⟨w5.heap.size + 1, 6, none⟩ = some (.int .u64 (a1 : Int)) ∧ w9.cell? ⟨w5.heap.size + 1, 7, none⟩ = some (.int .u64 (a2 : Int)) ∧ w9.cell? ⟨w5.heap.size + 1, 8, none⟩ = some (.int .u64 (es : Int)) ∧ w9.cell? ⟨w5.heap.size + 1, 9, none⟩ = some (.slice bA bm bcap) := ⟨((HBX.out.below' HBW8.out).chg hC9 (fun h => by have h1 := HL5.out _ h; have h3 := HS5.out; omega)).cellv (i := 0) rfl, ((HBX.out.below' HBW8.out).chg hC9 (fun h => by have h1 := HL5.out _ h; have h3 := HS5.out; omega)).cellv (i := 1) rfl, ((HBX.out.below' HBW8.out).chg hC9 (fun h => by have h1 := HL5.out _ h; have h3 := HS5.out; omega)).cellv (i := 2) rfl, ((HBX.out.below' HBW8.out).chg hC9 (fun h => by have h1 := HL5.out _ h; have h3 := HS5.out; omega)).cellv (i := 3) rfl, ((HBX.out.below' HBW8.out).chg hC9 (fun h => by have h1 := HL5.out _ h; have h3 := HS5.out; omega)).cellv (i := 4) rfl, ((HBX.out.below' HBW8.out).chg hC9 (fun h => by have h1 := HL5.out _ h; have h3 := HS5.out; omega)).cellv (i := 5) rfl, ((HBX.out.below' HBW8.out).chg hC9 (fun h => by have h1 := HL5.out _ h; have h3 := HS5.out; omega)).cellv (i := 6) rfl, ((HBX.out.below' HBW8.out).chg hC9 (fun h => by have h1 := HL5.out _ h; have h3 := HS5.out; omega)).cellv (i := 7) rfl, ((HBX.out.below' HBW8.out).chg hC9 (fun h => by have h1 := HL5.out _ h; have h3 := HS5.out; omega)).cellv (i := 8) rfl, ((HBX.out.below' HBW8.out).chg hC9 (fun h => by have h1 := HL5.out _ h; have h3 := HS5.out; omega)).cellv (i := 9) rfl⟩
    have HRW9 := hid ((HRW6.out.below rtEn_length HBW8.out).chg rtEn_length hC9 (fun z hz h => by have h1 := HL5.out _ h; have h2 := (HVZ.out z hz).1; omega))
    clear hS hK9 hC9 hF9 HRD HOZ HBW8
    have hS := hS9
    refine hK.out _ _ hS ?_
    clear hK hS9
    refine ord_still 13 rfl (v := ?_) (by kernel_rfl) (fun _ _ _ h => h) rfl (fun W hW => ?_) hS ?_
    rotate_left
    · try dsimp only at hW
      go_simp
      try with_reducible rfl
    simp only [Act.put, List.setIfInBounds_toArray, List.set_cons_zero, List.set_cons_succ]
    refine ord_still 14 rfl (v := ?_) (by kernel_rfl) (fun _ _ _ h => h) rfl (fun W hW => ?_) hS ?_
    rotate_left
    · try dsimp only at hW
      go_simp
      try with_reducible rfl
    simp only [Act.put, List.setIfInBounds_toArray, List.set_cons_zero, List.set_cons_succ]
    refine ord_still 15 rfl (v := ?_) (by kernel_rfl) (fun _ _ _ h => h) rfl (fun W hW => ?_) hS ?_
    rotate_left
    · try dsimp only at hW
      go_simp
      try with_reducible rfl
    simp only [Act.put, List.setIfInBounds_toArray, List.set_cons_zero, List.set_cons_succ]
    refine ord_still 16 rfl (v := ?_) (by kernel_rfl) (fun _ _ _ h => h) rfl (fun W hW => ?_) hS ?_
    rotate_left
    · try dsimp only at hW
      go_simp
      try with_reducible rfl
    simp only [Act.put, List.setIfInBounds_toArray, List.set_cons_zero, List.set_cons_succ]
    refine ord_still 17 rfl (v := ?_) (by kernel_rfl) (fun _ _ _ h => h) rfl (fun W hW => ?_) hS ?_
    rotate_left
    · try dsimp only at hW
      go_simp
      try with_reducible rfl
    simp only [Act.put, List.setIfInBounds_toArray, List.set_cons_zero, List.set_cons_succ]
    have e5 : (er != 0) = true := by simpa using ER.out
    have e6 : decide ((0 : Int) ≤ (i : Int)) = true := decide_eq_true (by omega)
    have e7 : decide ((i : Int) ≤ (k : Int)) = true := decide_eq_true (by have := IK.out; omega)
    refine ord_done (by kernel_rfl) ?_
    clear hS
    clear y0 y1 y2 y3 y4 y5 y6 y7 y8 y9 sl1 sl2 hwn hrem hn0
    go_wp2_with fail
    refine (cn.out _ _).mono ?_
    rintro _ w10 ⟨rfl, rfl⟩
    go_wp2_with fail
    refine (cR.out _ _ _ _ _ HK9.out).mono ?_
    rintro _ w11 ⟨vt, rfl, hO, hb⟩
    have HB11 := hid (held_next HB9.out hb)
    have cS := hid (ref_sameRts w11 vt _ rts3 rts3 hO.rd (HRW9.out.below rtEn_length hb) true (by simp))
    obtain ⟨At, ct, rfl⟩ := hO.form
    clear hO hb
    go_wp2_with fail
    refine cS.out.mono ?_
    rintro _ w12 ⟨rfl, hb⟩
    have HB12 := hid (held_next HB11.out hb)
    clear hb
    go_wp2_with fail
    go_ret
    exact ⟨rfl, HB12.out⟩
end Go.Proofs.Ytcnecjjgnnkjkaa
