/-
  The walk of the law FilterPlays: for all inputs it returns true and leaves memory alone. No condition.
-/
import Derived.Test.YtpjjijhojcfmnaaFilLaw
import Derived.Test.YtpjjijhojcfmnaaFilRef
import Derived.Test.YtpjjijhojcfmnaaAddrOpen
namespace Go.Proofs.Ytpjjijhojcfmnaa
open Go.RowKit
set_option linter.unusedVariables false
set_option linter.unusedSimpArgs false
set_option maxRecDepth 100000

abbrev FAct := Bool × Pf
def faEn (a : FAct) : List Value := [.bool a.1, .int .u64 (a.2.1.1 : Int), .int .u64 (a.2.1.2 : Int), .int .i64 a.2.2]
theorem faEn_len (a : FAct) : (faEn a).length = 4 := rfl
def FAct.fit (a : FAct) : Prop := a.2.fit
theorem open_fa : Opens Try.prog 46 FAct faEn FAct.fit :=
  (Opens.struct2 Try.underlying46 open_b open_pf ⟨rfl, by kernel_rfl, by kernel_rfl⟩).map (fun x => x)
    (fun a h => rfl) (fun _ => (show 4 = Try.prog.cellsOf 46 by kernel_rfl)) (fun a h => h.2)
theorem fa_cells : Try.prog.cellsOf 46 = 4 := by kernel_rfl

theorem filterPlays_out (W : World) (s : Nat) (k m : Int) (A1 : Option Addr) (c1 n1 : Nat) (h1 : n1 ≤ c1) (hc1 : c1 ≤ maxLen) (p : Pf) (h : (200 < m ∧ m ≤ 65536) ∨ 200 < n1) :
    Calls Try.prog 5 #[.int .u64 (s : Int), .int .i64 k, .int .i64 m, .slice A1 n1 c1, .agg #[.int .u64 (p.1.1 : Int), .int .u64 (p.1.2 : Int), .int .i64 p.2]] W fun e W' => e = .returned (.bool true) ∧ Below W.heap.size W W' := by
  unfold maxLen at hc1
  obtain ⟨⟨pa, pb⟩, pn⟩ := p
  have hb0 := (Below.refl W.heap.size W).alloc (Nat.le_refl _) (.cells #[.int .u64 (pa : Int), .int .u64 (pb : Int), .int .i64 pn] 34)
  have HB0 := hid hb0
  clear hb0
  by_cases h2 : 200 < n1
  · have d1 : decide ((200 : Int) < (n1 : Int)) = true := decide_eq_true (by omega)
    go_enter Try.func5, Try.ntmps5
    go_wp2_with fail
    refine (filter_alive _).mono ?_
    rintro e w1 ⟨rfl, hb⟩
    have HB1 := hid (HB0.out.trans (hb.mono HB0.out.size))
    clear hb
    go_wp2_with fail
    all_goals (go_ret; exact ⟨by simp, HB1.out⟩)
  · have h3 : 200 < m ∧ m ≤ 65536 := by omega
    obtain ⟨h3, h4⟩ := h3
    have d1 : decide ((200 : Int) < (n1 : Int)) = false := decide_eq_false (by omega)
    go_enter Try.func5, Try.ntmps5
    go_wp2_with fail
    refine (filter_alive _).mono ?_
    rintro e w1 ⟨rfl, hb⟩
    have HB1 := hid (HB0.out.trans (hb.mono HB0.out.size))
    clear hb
    go_wp2_with fail
    all_goals (go_ret; exact ⟨by simp, HB1.out⟩)

theorem filterPlays_err (W : World) (s : Nat) (hs : s < 2 ^ 64) (k m : Int) (A1 : Option Addr) (c1 n1 : Nat) (h1 : n1 ≤ c1) (hc1 : c1 ≤ maxLen) (p : Pf) (h : ¬ ((200 < m ∧ m ≤ 65536) ∨ 200 < n1)) (hk : k < 1 ∨ 16 < k ∨ m < 1 ∨ 65536 < m) :
    Calls Try.prog 5 #[.int .u64 (s : Int), .int .i64 k, .int .i64 m, .slice A1 n1 c1, .agg #[.int .u64 (p.1.1 : Int), .int .u64 (p.1.2 : Int), .int .i64 p.2]] W fun e W' => e = .returned (.bool true) ∧ Below W.heap.size W W' := by
  unfold maxLen at hc1
  obtain ⟨⟨pa, pb⟩, pn⟩ := p
  have hb0 := (Below.refl W.heap.size W).alloc (Nat.le_refl _) (.cells #[.int .u64 (pa : Int), .int .u64 (pb : Int), .int .i64 pn] 34)
  have HB0 := hid hb0
  have c1 := hid fun w => filter_new_no s k m hk w
  have c2 := hid fun w => filter_new s hs 3 50 (by decide) (by decide) (by decide) (by decide) w
  have c3 := hid fun w => ref_newFilter_no s k m hk w
  have d1 : decide ((200 : Int) < (n1 : Int)) = false := decide_eq_false (by omega)
  have d2 : (decide (200 < m) && decide (m ≤ 65536)) = false := by
    cases h4 : decide (200 < m)
    · rfl
    · have := of_decide_eq_true h4
      rw [decide_eq_false (by omega)]; rfl
  have hm : m ≤ 200 ∨ 65536 < m := by omega
  clear hb0 h hk
  rcases hm with hm | hm
  · have d3 : decide (200 < m) = false := decide_eq_false (by omega)
    clear hm d2
    go_enter Try.func5, Try.ntmps5
    go_wp2_with fail
    refine (filter_alive _).mono ?_
    rintro e w1 ⟨rfl, hb⟩
    have HB1 := hid (HB0.out.trans (hb.mono HB0.out.size))
    clear hb
    go_wp2_with fail
    refine (c1.out _).mono ?_
    rintro _ w2 ⟨rfl, rfl⟩
    go_wp2_with fail
    refine (c2.out _).mono ?_
    rintro _ w2 ⟨f, F, rfl, hX, hF, hb2⟩
    have HB2 := hid (held_next HB1.out hb2)
    clear hX hF hb2
    go_wp2_with fail
    refine (c3.out _).mono ?_
    rintro _ w3 ⟨rfl, rfl⟩
    go_wp2_with fail
    refine (law9_num _ _).mono ?_
    rintro _ w3 ⟨rfl, rfl⟩
    go_wp2_with fail
    go_ret
    exact ⟨rfl, HB2.out⟩
  · have d3 : decide (200 < m) = true := decide_eq_true (by omega)
    have d4 : decide (m ≤ 65536) = false := decide_eq_false (by omega)
    clear hm d2
    go_enter Try.func5, Try.ntmps5
    go_wp2_with fail
    refine (filter_alive _).mono ?_
    rintro e w1 ⟨rfl, hb⟩
    have HB1 := hid (HB0.out.trans (hb.mono HB0.out.size))
    clear hb
    go_wp2_with fail
    refine (c1.out _).mono ?_
    rintro _ w2 ⟨rfl, rfl⟩
    go_wp2_with fail
    refine (c2.out _).mono ?_
    rintro _ w2 ⟨f, F, rfl, hX, hF, hb2⟩
    have HB2 := hid (held_next HB1.out hb2)
    clear hX hF hb2
    go_wp2_with fail
    refine (c3.out _).mono ?_
    rintro _ w3 ⟨rfl, rfl⟩
    go_wp2_with fail
    refine (law9_num _ _).mono ?_
    rintro _ w3 ⟨rfl, rfl⟩
    go_wp2_with fail
    go_ret
    exact ⟨rfl, HB2.out⟩

/-- Where all stand: the filter and the document's have the same counters; the other filter is anything. -/
structure FPl (W wr : World) (f : Nat) (F : Nat → Prop) (g : Nat) (G : Nat → Prop) (r q : Nat) (s : Nat) (k : Int) (m : Nat) (p : Pf) (c d : List Nat) : Prop where
  x : Flt wr f F s k c
  o : Flt wr g G s 3 d
  rr : RFlt wr r q s k c
  pp : Blk wr W.heap.size 34 [.int .u64 (p.1.1 : Int), .int .u64 (p.1.2 : Int), .int .i64 p.2]
  b : Below W.heap.size W wr
structure FAp (W : World) (F G : Nat → Prop) (r q : Nat) : Prop where
  hf : ∀ x, F x → W.heap.size < x
  hg : ∀ x, G x → W.heap.size < x
  hr : W.heap.size < r
  hq : W.heap.size < q
  fg : ∀ x, F x → ¬ G x
  fr : ¬ F r
  fq : ¬ F q
  gr : ¬ G r
  gq : ¬ G q
theorem FPl.below {W w w' : World} {f g r q s m : Nat} {F G : Nat → Prop} {k : Int} {p : Pf} {c d : List Nat} (h : FPl W w f F g G r q s k m p c d) (hb : Below w.heap.size w w') : FPl W w' f F g G r q s k m p c d :=
  ⟨h.x.below hb, h.o.below hb, h.rr.below hb, h.pp.below' hb, held_next h.b hb⟩
theorem FPl.turnO {W w w' : World} {f g r q s m : Nat} {F G : Nat → Prop} {k : Int} {p : Pf} {c d d' : List Nat} (h : FPl W w f F g G r q s k m p c d) (a : FAp W F G r q) (ho : Flt w' g G s 3 d') (hc : Chg G w w') : FPl W w' f F g G r q s k m p c d' :=
  ⟨h.x.chg hc a.fg, ho, h.rr.chg hc a.gr a.gq, h.pp.chg hc (fun k => by have := a.hg _ k; omega), h.b.trans (hc.below h.b.size fun i hi k => by have := a.hg _ k; omega)⟩
/-- Behind the filter's own turn, before the document's. -/
structure FMid (W wr : World) (f : Nat) (F : Nat → Prop) (g : Nat) (G : Nat → Prop) (r q : Nat) (s : Nat) (k : Int) (m : Nat) (p : Pf) (c' c d : List Nat) : Prop where
  x : Flt wr f F s k c'
  o : Flt wr g G s 3 d
  rr : RFlt wr r q s k c
  pp : Blk wr W.heap.size 34 [.int .u64 (p.1.1 : Int), .int .u64 (p.1.2 : Int), .int .i64 p.2]
  b : Below W.heap.size W wr
theorem FPl.turnX {W w w' : World} {f g r q s m : Nat} {F G : Nat → Prop} {k : Int} {p : Pf} {c c' d : List Nat} (h : FPl W w f F g G r q s k m p c d) (a : FAp W F G r q) (hx : Flt w' f F s k c') (hc : Chg F w w') : FMid W w' f F g G r q s k m p c' c d :=
  ⟨hx, h.o.chg hc (fun x hx hf => a.fg x hf hx), h.rr.chg hc a.fr a.fq, h.pp.chg hc (fun k => by have := a.hf _ k; omega), h.b.trans (hc.below h.b.size fun i hi k => by have := a.hf _ k; omega)⟩
theorem FMid.turnR {W w w' : World} {f g r q s m : Nat} {F G : Nat → Prop} {k : Int} {p : Pf} {c c' d : List Nat} (h : FMid W w f F g G r q s k m p c' c d) (a : FAp W F G r q) (hr : RFlt w' r q s k c') (hc : Chg (· = q) w w') : FPl W w' f F g G r q s k m p c' d :=
  ⟨h.x.chg hc (fun x hx e => a.fq (e ▸ hx)), h.o.chg hc (fun x hx e => a.gq (e ▸ hx)), hr, h.pp.chg hc (fun e => by have := a.hq; omega), h.b.trans (hc.below h.b.size fun i hi e => by have := a.hq; omega)⟩

def FPlRel (W : World) (f : Nat) (F : Nat → Prop) (g : Nat) (G : Nat → Prop) (r q : Nat) (s : Nat) (k : Int) (m : Nat) (p : Pf) (N : Nat) (i : Value) (wr : World) : Prop :=
  ∃ (j : Nat) (c d : List Nat), j ≤ N ∧ i = .int .i64 j ∧ c.length = m ∧ FPl W wr f F g G r q s k m p c d
def FPlEnd (w0 : World) (m : Nat) (i : Value) (wr : World) : Prop := ∃ t : Nat, t ≤ m ∧ i = .int .i64 t ∧ Below w0.heap.size w0 wr

set_option maxHeartbeats 4000000 in
theorem filterPlays_in (W : World) (s : Nat) (hs : s < 2 ^ 64) (k : Int) (m : Nat) (hk1 : 1 ≤ k) (hk2 : k ≤ 16) (hm1 : 1 ≤ m) (hm2 : m ≤ 200) (v1 : Value) (l1 : List FAct) (R1 : Rd faEn 4 W v1 l1)
    (o1 : ∀ p ∈ l1, p.2.1.ok) (hl1 : l1.length ≤ 200) (p : Pf) (hp : p.1.ok) :
    Calls Try.prog 5 #[.int .u64 (s : Int), .int .i64 k, .int .i64 (m : Int), v1, .agg #[.int .u64 (p.1.1 : Int), .int .u64 (p.1.2 : Int), .int .i64 p.2]] W fun e W' => e = .returned (.bool true) ∧ Below W.heap.size W W' := by
  have HR1 := hid fun k x (h : l1[k]? = some x) => R1.get faEn_len (by decide) h
  have O1 := hid fun (k : Nat) (x : FAct) (h : l1[k]? = some x) => o1 x (List.mem_of_getElem? h)
  obtain ⟨A1, k1, rfl, n1, m1⟩ := R1.form
  unfold maxLen at m1
  obtain ⟨N, hN1⟩ : ∃ N, l1.length = N := ⟨_, rfl⟩
  have HN1 := hid hN1
  have HP := hid hp
  rw [hN1] at n1 hl1 ⊢
  have cnew := hid fun w => filter_new s hs k m hk1 hk2 hm1 (by omega) w
  have cnew3 := hid fun w => filter_new s hs 3 50 (by decide) (by decide) (by decide) (by decide) w
  have cref := hid fun w => ref_newFilter s hs k m hk1 hk2 hm1 (by omega) w
  clear R1 o1 hN1 hs hp
  have d1 : decide ((200 : Int) < (m : Int)) = false := decide_eq_false (by omega)
  have d3 : decide ((200 : Int) < (N : Int)) = false := decide_eq_false (by omega)
  obtain ⟨⟨pa, pb⟩, pn⟩ := p
  have HB0 := hid ((Below.refl W.heap.size W).alloc (Nat.le_refl _) (.cells #[.int .u64 (pa : Int), .int .u64 (pb : Int), .int .i64 pn] 34))
  have HP0 := hid (Blk.new_at W #[.int .u64 (pa : Int), .int .u64 (pb : Int), .int .i64 pn] 34 W.heap.size rfl)
  go_enter Try.func5, Try.ntmps5
  go_wp2_with fail
  refine (filter_alive _).mono ?_
  rintro e w1 ⟨rfl, hb⟩
  have HB1 := hid (HB0.out.trans (hb.mono HB0.out.size))
  have HP1 := hid (HP0.out.below' hb)
  clear hb HB0 HP0
  go_wp2_with fail
  refine (cnew.out _).mono ?_
  rintro _ w2 ⟨f, F, rfl, hX, hF, hb2⟩
  have HF := hid hF
  have HX := hid hX
  have HB2 := hid (held_next HB1.out hb2)
  have HP2 := hid (HP1.out.below' hb2)
  have lp1 := HP1.out.lt
  have s2 := hb2.size
  clear hX hF hb2 HB1 cnew HP1
  go_wp2_with fail
  refine (cnew3.out _).mono ?_
  rintro _ w3 ⟨g, G, rfl, hY, hG, hb3⟩
  have HG := hid hG
  have HX3 := hid (HX.out.below hb3)
  have HY := hid hY
  have HB3 := hid (held_next HB2.out hb3)
  have HP3 := hid (HP2.out.below' hb3)
  have s3 := hb3.size
  clear hY hG hb3 HB2 HX cnew3 HP2
  go_wp2_with fail
  refine (cref.out _).mono ?_
  rintro _ w4 ⟨r, q, rfl, hR, hr, hq, hb4⟩
  have HA := hid (show FAp W F G r q from ⟨fun x h => by have := (HF.out x h).1; omega, fun x h => by have := (HG.out x h).1; omega, by omega, by omega,
    fun x h h2 => by have := (HF.out x h).2; have := (HG.out x h2).1; omega, fun h => by have := (HF.out r h).2; omega, fun h => by have := (HF.out q h).2; omega, fun h => by have := (HG.out r h).2; omega, fun h => by have := (HG.out q h).2; omega⟩)
  have HS := hid (show FPl W w4 f F g G r q s k m ((pa, pb), pn) (List.replicate m 0) (List.replicate 50 0) from ⟨HX3.out.below hb4, HY.out.below hb4, hR, HP3.out.below' hb4, held_next HB3.out hb4⟩)
  clear hR hb4 HX3 HY HB3 HP3 cref HF HG lp1 s2 s3 hr hq
  go_wp2_with fail
  refine (law9_num _ _).mono ?_
  rintro _ w5 ⟨rfl, rfl⟩
  go_wp2_with fail
  go_loopw [18] (fun i wr => FPlRel W f F g G r q s k m ((pa, pb), pn) N i wr) (fun i _ => N - (intOf i).toNat)
  case atStart => exact ⟨0, _, _, Nat.zero_le _, rfl, List.length_replicate, HS.out⟩
  case round =>
    clear HS
    obtain ⟨j, c, d, hj, rfl, hlen, hS⟩ := hrel
    have HS := hid hS
    have HLn := hid hlen
    clear hS hlen
    by_cases h1 : j < N
    · obtain ⟨x, hx⟩ : ∃ x, l1[j]? = some x := ⟨_, List.getElem?_eq_getElem (by rw [HN1.out]; exact h1)⟩
      obtain ⟨ba, oa, ca, hv, _, _, la, sa⟩ := HR1.out j x hx
      injection hv with hA hxx hc
      subst hA hc
      have HC := hid (show ∀ w, Below W.heap.size W w → w.cell? ⟨ba, oa + j * 4, none⟩ = some (.bool x.1) ∧ w.cell? ⟨ba, oa + j * 4 + 1, none⟩ = some (.int .u64 (x.2.1.1 : Int)) ∧ w.cell? ⟨ba, oa + j * 4 + 2, none⟩ = some (.int .u64 (x.2.1.2 : Int)) ∧ w.cell? ⟨ba, oa + j * 4 + 3, none⟩ = some (.int .i64 x.2.2) from fun w h =>
        ⟨(h.cell (p := ⟨ba, oa + j * 4, none⟩) la).trans (sa 0 _ rfl), (h.cell (p := ⟨ba, oa + j * 4 + 1, none⟩) la).trans (sa 1 _ rfl), (h.cell (p := ⟨ba, oa + j * 4 + 2, none⟩) la).trans (sa 2 _ rfl), (h.cell (p := ⟨ba, oa + j * 4 + 3, none⟩) la).trans (sa 3 _ rfl)⟩)
      obtain ⟨y0, y1, y2, y3⟩ := HC.out _ HS.out.b
      have xok := hid (O1.out j x hx)
      have cO := hid (filter_add HS.out.o x.2 xok.out)
      obtain ⟨x0, ⟨⟨x1, x2⟩, x3⟩⟩ := x
      simp only at cO xok HC y0 y1 y2 y3
      clear sa hxx hx
      go_wp2_with fail
      refine cO.out.mono ?_
      rintro _ w5 ⟨rfl, hO5, hC5⟩
      have HS5 := hid (HS.out.turnO HA.out hO5 hC5)
      clear hO5 hC5 cO y0 y1 y2 y3 HS
      obtain ⟨y0, y1, y2, y3⟩ := HC.out _ HS5.out.b
      have turned : ∀ (c' : List Nat), c'.length = m → True := fun _ _ => trivial
      clear turned
      cases x0
      · have cX := hid (filter_add HS5.out.x ((x1, x2), x3) xok.out)
        have HL' := hid (show (addC (placesN s ((x1, x2), x3) k c.length) c).length = m by rw [addC_len]; exact HLn.out)
        go_wp2_with fail
        refine cX.out.mono ?_
        rintro _ w6 ⟨rfl, hX6, hC6⟩
        have HS6 := hid (HS5.out.turnX HA.out hX6 hC6)
        have cR := hid (ref_fadd HS6.out.rr ((x1, x2), x3) xok.out)
        clear hX6 hC6 cX HS5 y0 y1 y2 y3
        obtain ⟨y0, y1, y2, y3⟩ := HC.out _ HS6.out.b
        go_wp2_with fail
        refine cR.out.mono ?_
        rintro _ w7 ⟨rfl, hR7, hC7⟩
        have HS7 := hid (HS6.out.turnR HA.out hR7 hC7)
        generalize addC (placesN s ((x1, x2), x3) k c.length) c = c' at HS7 HL' HS6 hR7
        clear hR7 hC7 cR HS6 y0 y1 y2 y3
        obtain ⟨y0, y1, y2, y3⟩ := HC.out _ HS7.out.b
        obtain ⟨B, hB⟩ : ∃ B, mayB (placesN s ((x1, x2), x3) k c'.length) c' = B := ⟨_, rfl⟩
        have cM1 := hid (fun w' (h : Below w7.heap.size w7 w') => filter_may (HS7.out.x.below h) ((x1, x2), x3) xok.out B hB)
        have cM2 := hid (fun w' (h : Below w7.heap.size w7 w') => ref_fmay (HS7.out.rr.below h) ((x1, x2), x3) xok.out B hB)
        have HY := hid (HC.out _ HS7.out.b)
        clear hB HC
        go_wp2_with fail
        refine wp_region_later (fun w' => w'.cell? ⟨ba, oa + j * 4 + 1, none⟩ = some (.int .u64 (x1 : Int)) ∧ w'.cell? ⟨ba, oa + j * 4 + 2, none⟩ = some (.int .u64 (x2 : Int)) ∧ w'.cell? ⟨ba, oa + j * 4 + 3, none⟩ = some (.int .i64 x3))
          (fun z => ⟨z.cell HY.out.2.1, z.cell HY.out.2.2.1, z.cell HY.out.2.2.2⟩) (by kernel_rfl) (by kernel_rfl) (fun HS => ?_)
        repeat (go_big_quiet_step (first
          | (with_reducible exact Later.calls _ (cM1.out _ (Later.below _)))
          | (with_reducible exact Later.calls _ (cM2.out _ (Later.below _)))))
        refine wpQuiet_nil ?_
        rintro _ ⟨⟨w8, hb8⟩, rfl⟩
        have HS8 := hid (HS7.out.below hb8)
        clear hb8 cM1 cM2 HS7 HS y0 y1 y2 y3 HY
        go_wp2_with fail
        go_roundw
        case rel => exact ⟨j + 1, _, _, by omega, by go_num, HL'.out, HS8.out⟩
        case measure => simp [intOf]; omega
      · have cX := hid (filter_remove HS5.out.x ((x1, x2), x3) xok.out)
        have HL' := hid (show (remC (placesN s ((x1, x2), x3) k c.length) c).length = m by rw [remC_len]; exact HLn.out)
        go_wp2_with fail
        refine cX.out.mono ?_
        rintro _ w6 ⟨rfl, hX6, hC6⟩
        have HS6 := hid (HS5.out.turnX HA.out hX6 hC6)
        have cR := hid (ref_fremove HS6.out.rr ((x1, x2), x3) xok.out)
        clear hX6 hC6 cX HS5 y0 y1 y2 y3
        obtain ⟨y0, y1, y2, y3⟩ := HC.out _ HS6.out.b
        go_wp2_with fail
        refine cR.out.mono ?_
        rintro _ w7 ⟨rfl, hR7, hC7⟩
        have HS7 := hid (HS6.out.turnR HA.out hR7 hC7)
        generalize remC (placesN s ((x1, x2), x3) k c.length) c = c' at HS7 HL' HS6 hR7
        clear hR7 hC7 cR HS6 y0 y1 y2 y3
        obtain ⟨y0, y1, y2, y3⟩ := HC.out _ HS7.out.b
        obtain ⟨B, hB⟩ : ∃ B, mayB (placesN s ((x1, x2), x3) k c'.length) c' = B := ⟨_, rfl⟩
        have cM1 := hid (fun w' (h : Below w7.heap.size w7 w') => filter_may (HS7.out.x.below h) ((x1, x2), x3) xok.out B hB)
        have cM2 := hid (fun w' (h : Below w7.heap.size w7 w') => ref_fmay (HS7.out.rr.below h) ((x1, x2), x3) xok.out B hB)
        have HY := hid (HC.out _ HS7.out.b)
        clear hB HC
        go_wp2_with fail
        refine wp_region_later (fun w' => w'.cell? ⟨ba, oa + j * 4 + 1, none⟩ = some (.int .u64 (x1 : Int)) ∧ w'.cell? ⟨ba, oa + j * 4 + 2, none⟩ = some (.int .u64 (x2 : Int)) ∧ w'.cell? ⟨ba, oa + j * 4 + 3, none⟩ = some (.int .i64 x3))
          (fun z => ⟨z.cell HY.out.2.1, z.cell HY.out.2.2.1, z.cell HY.out.2.2.2⟩) (by kernel_rfl) (by kernel_rfl) (fun HS => ?_)
        repeat (go_big_quiet_step (first
          | (with_reducible exact Later.calls _ (cM1.out _ (Later.below _)))
          | (with_reducible exact Later.calls _ (cM2.out _ (Later.below _)))))
        refine wpQuiet_nil ?_
        rintro _ ⟨⟨w8, hb8⟩, rfl⟩
        have HS8 := hid (HS7.out.below hb8)
        clear hb8 cM1 cM2 HS7 HS y0 y1 y2 y3 HY
        go_wp2_with fail
        go_roundw
        case rel => exact ⟨j + 1, _, _, by omega, by go_num, HL'.out, HS8.out⟩
        case measure => simp [intOf]; omega
    · have hjN : j = N := by omega
      subst hjN
      clear h1
      have H0 := hid HS.out.b
      go_wp2_with fail
      go_loopw [19] (fun i w' => FPlEnd wr m i w') (fun i _ => m - (intOf i).toNat)
      case atStart => exact ⟨0, Nat.zero_le _, rfl, Below.refl _ _⟩
      case round =>
        obtain ⟨t, ht, rfl, hbr⟩ := hrel
        have HS2 := hid (HS.out.below hbr)
        have HBR := hid hbr
        clear hbr
        by_cases htm : t < m
        · obtain ⟨z, hz⟩ : ∃ z, c.getD t 0 = z := ⟨_, rfl⟩
          have u0 := HS2.out.rr.cell (i := t) (by rw [HLn.out]; exact htm)
          have t2 := HS2.out.rr.top.cellv (i := 2) rfl
          rw [HLn.out] at t2
          rw [hz] at u0
          have a1 := hid fun n' => filter_counter_q HS2.out.x (t : Int) (z : Int) (by rw [at0_nat, hz]) n'
          have a2 := hid fun n' => filter_on_q HS2.out.x (t : Int) (decide ((0 : Int) < (z : Int))) (by rw [on0_nat, onB_get, hz]; congr 1; simp) n'
          clear hz
          go_wp2_with fail
          go_quiet ((first | (go_at_call 20; exact Calls.quiet_of_same (a1.out _)) | (go_at_call 21; exact Calls.quiet_of_same (a2.out _))))
          go_wp2_with fail
          go_roundw
          case rel => exact ⟨t + 1, by omega, by go_num, HBR.out.drewN _⟩
          case measure => simp [intOf]; omega
        · have P2 := hid HS2.out.pp
          have cF := hid (fun w' (h : Below wr.heap.size wr w') => filter_full (HS2.out.x.below h))
          have cF2 := hid (fun w' (h : Below wr.heap.size wr w') => ref_full (HS2.out.rr.below h))
          have cL := hid (fun w' (h : Below wr.heap.size wr w') => filter_len (HS2.out.x.below h))
          obtain ⟨B, hB⟩ : ∃ B, mayB (placesN s ((pa, pb), pn) k c.length) c = B := ⟨_, rfl⟩
          have cM1 := hid (fun w' (h : Below wr.heap.size wr w') => filter_may (HS2.out.x.below h) ((pa, pb), pn) HP.out B hB)
          have cM2 := hid (fun w' (h : Below wr.heap.size wr w') => ref_fmay (HS2.out.rr.below h) ((pa, pb), pn) HP.out B hB)
          have cC1 := hid (fun w' (h : Below wr.heap.size wr w') => filter_counter (HS2.out.x.below h) (-1) 0 (by rw [at0_out _ _ (by omega)]; rfl))
          have cC2 := hid (fun w' (h : Below wr.heap.size wr w') => filter_counter (HS2.out.x.below h) (m : Int) 0 (by rw [at0_out _ _ (by have := HLn.out; omega)]; rfl))
          have cO1 := hid (fun w' (h : Below wr.heap.size wr w') => filter_on (HS2.out.x.below h) (-1) false (on0_out _ _ (by omega)))
          have cO2 := hid (fun w' (h : Below wr.heap.size wr w') => filter_on (HS2.out.x.below h) (m : Int) false (on0_out _ _ (by rw [onB_length]; have := HLn.out; omega)))
          rw [HLn.out] at cL
          obtain ⟨z, hz⟩ : ∃ z, fulls c = z := ⟨_, rfl⟩
          rw [hz] at cF cF2
          clear hz hB
          go_wp2_with fail
          refine wp_region_later (fun w' => w'.cell? ⟨W.heap.size, 0, none⟩ = some (.int .u64 (pa : Int)) ∧ w'.cell? ⟨W.heap.size, 1, none⟩ = some (.int .u64 (pb : Int)) ∧ w'.cell? ⟨W.heap.size, 2, none⟩ = some (.int .i64 pn))
            (fun z => ⟨z.cell (P2.out.cellv rfl), z.cell (P2.out.cellv rfl), z.cell (P2.out.cellv rfl)⟩) (by kernel_rfl) (by kernel_rfl) (fun HS => ?_)
          repeat (go_big_quiet_step (first
            | (with_reducible exact Later.calls_same _ (cF.out _ (Later.below _)))
            | (with_reducible exact Later.calls_same _ (cF2.out _ (Later.below _)))
            | (with_reducible exact Later.calls_same _ (cL.out _ (Later.below _)))
            | (with_reducible exact Later.calls _ (cM1.out _ (Later.below _)))
            | (with_reducible exact Later.calls _ (cM2.out _ (Later.below _)))
            | (with_reducible exact Later.calls_same _ (cC1.out _ (Later.below _)))
            | (with_reducible exact Later.calls_same _ (cC2.out _ (Later.below _)))
            | (with_reducible exact Later.calls_same _ (cO1.out _ (Later.below _)))
            | (with_reducible exact Later.calls_same _ (cO2.out _ (Later.below _)))))
          refine wpQuiet_nil ?_
          rintro _ ⟨⟨w8, hb8⟩, rfl⟩
          have HB8 := hid (held_next HS2.out.b hb8)
          clear hb8
          go_wp2_with fail
          go_ret
          exact ⟨rfl, HB8.out⟩

theorem filterPlays_walk (W : World) (s : Int) (ws : (Lit.int .u64 s).wf = true) (k : Int) (_ : (Lit.int .i64 k).wf = true) (m : Int) (_ : (Lit.int .i64 m).wf = true) (v1 : Value) (l1 : List FAct) (R1 : Rd faEn 4 W v1 l1) (o1 : ∀ p ∈ l1, FAct.fit p) (p : Pf) (hp : p.fit) :
    Calls Try.prog 5 #[.int .u64 s, .int .i64 k, .int .i64 m, v1, .agg #[.int .u64 (p.1.1 : Int), .int .u64 (p.1.2 : Int), .int .i64 p.2]] W fun e W' => e = .returned (.bool true) ∧ Below W.heap.size W W' := by
  have hs := wf_u64 ws
  obtain ⟨s, rfl⟩ := Int.eq_ofNat_of_zero_le hs.1
  by_cases h : (200 < m ∧ m ≤ 65536) ∨ 200 < l1.length
  · obtain ⟨A1, c1, rfl, n1, m1⟩ := R1.form
    exact filterPlays_out W s k m A1 c1 _ n1 m1 p h
  by_cases hk : k < 1 ∨ 16 < k ∨ m < 1 ∨ 65536 < m
  · obtain ⟨A1, c1, rfl, n1, m1⟩ := R1.form
    exact filterPlays_err W s (by omega) k m A1 c1 _ n1 m1 p h hk
  obtain ⟨m, rfl⟩ := Int.eq_ofNat_of_zero_le (show 0 ≤ m by omega)
  exact filterPlays_in W s (by omega) k m (by omega) (by omega) (by omega) (by omega) v1 l1 R1 (fun p hp => (o1 p hp).1) (by omega) p hp.1

end Go.Proofs.Ytpjjijhojcfmnaa
