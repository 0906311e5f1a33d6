/-
  Contracts of package bucket's functions: Put, Take, Get, All. Conditions: as each theorem says.
-/
import Derived.Test.YtgmknnmcanbfeaaBuck
namespace Go.Proofs.Ytgmknnmcanbfeaa
open Go.RowKit
set_option linter.unusedVariables false
set_option linter.unusedSimpArgs false
set_option maxRecDepth 100000
attribute [local go_sem high] eq_ad eq_pf

theorem Buck.chg {w w' : World} {g : Nat} {ps : List Plc} {S : Nat → Prop} (H : Buck w g ps) (h : Chg S w w') (hg : ¬ S g) : Buck w' g ps := ⟨H.top.chg h hg, H.len⟩
theorem Buck.below {w w' : World} {g : Nat} {ps : List Plc} (H : Buck w g ps) (h : Below w.heap.size w w') : Buck w' g ps := H.chg (Chg.of_below h (fun _ => False)) id

def freeP : List Plc → Nat → Int
  | [], _ => -1
  | x :: xs, i => if x.1 = false then (i : Int) else freeP xs (i + 1)
/-- The place that a key is put to; below 0: none. -/
def putI (ps : List Plc) (p : Pf) : Int := if findP ps p 0 < 0 then freeP ps 0 else findP ps p 0
theorem findP_range : ∀ (ps : List Plc) (p : Pf) (i : Nat), findP ps p i = -1 ∨ (i : Int) ≤ findP ps p i ∧ findP ps p i < i + ps.length
  | [], _, _ => Or.inl rfl
  | x :: xs, p, i => by
    unfold findP
    split
    · right; simp; omega
    · rcases findP_range xs p (i + 1) with h | h
      · left; exact h
      · right; simp; omega
theorem freeP_range : ∀ (ps : List Plc) (i : Nat), freeP ps i = -1 ∨ (i : Int) ≤ freeP ps i ∧ freeP ps i < i + ps.length
  | [], _ => Or.inl rfl
  | x :: xs, i => by
    unfold freeP
    split
    · right; simp; omega
    · rcases freeP_range xs (i + 1) with h | h
      · left; exact h
      · right; simp; omega
def PRel (ps : List Plc) (R F : Int) (j k : Value) : Prop := ∃ (k' : Nat) (j' : Int), k' ≤ 4 ∧ k = .int .i64 k' ∧ j = .int .i64 j' ∧ (0 ≤ R ∧ j' = R ∨ R < 0 ∧ j' = R ∧ freeP (ps.drop k') k' = F ∨ R < 0 ∧ 0 ≤ F ∧ j' = F)

theorem buck_head {w : World} {g : Nat} {ps : List Plc} (H : Buck w g ps) (k : Nat) (hk : k < 4) (x : Plc) (hx : ps[k]? = some x) : w.cell? ⟨g, k * 5, none⟩ = some (.bool x.1) := by
  obtain ⟨a, b, c, d, rfl⟩ := four H.len
  obtain rfl | rfl | rfl | rfl : k = 0 ∨ k = 1 ∨ k = 2 ∨ k = 3 := by omega
  all_goals
    simp at hx; subst hx
    exact H.top.cellv (by simp [plcEn])
theorem buck_cells {w : World} {g : Nat} {ps : List Plc} (H : Buck w g ps) (k : Nat) (hk : k < 4) (x : Plc) (hx : ps[k]? = some x) :
    w.cell? ⟨g, k * 5, none⟩ = some (.bool x.1) ∧ w.cell? ⟨g, k * 5 + 1, none⟩ = some (.int .u64 (x.2.1.1.1 : Int)) ∧ w.cell? ⟨g, k * 5 + 2, none⟩ = some (.int .u64 (x.2.1.1.2 : Int)) ∧ w.cell? ⟨g, k * 5 + 3, none⟩ = some (.int .i64 x.2.1.2) ∧ w.cell? ⟨g, k * 5 + 4, none⟩ = some (.int .i64 x.2.2) := by
  obtain ⟨a, b, c, d, rfl⟩ := four H.len
  obtain rfl | rfl | rfl | rfl : k = 0 ∨ k = 1 ∨ k = 2 ∨ k = 3 := by omega
  all_goals
    simp at hx; subst hx
    exact ⟨H.top.cellv (by simp [plcEn]), H.top.cellv (by simp [plcEn]), H.top.cellv (by simp [plcEn]), H.top.cellv (by simp [plcEn]), H.top.cellv (by simp [plcEn])⟩
theorem buck_set {w : World} {g : Nat} {ps : List Plc} (H : Buck w g ps) (k : Nat) (hk : k < 4) (x : Plc) :
    Buck (((((w.setCell ⟨g, k * 5, none⟩ (.bool x.1)).setCell ⟨g, k * 5 + 1, none⟩ (.int .u64 (x.2.1.1.1 : Int))).setCell ⟨g, k * 5 + 2, none⟩ (.int .u64 (x.2.1.1.2 : Int))).setCell ⟨g, k * 5 + 3, none⟩ (.int .i64 x.2.1.2)).setCell ⟨g, k * 5 + 4, none⟩ (.int .i64 x.2.2)) g (ps.set k x) := by
  refine ⟨?_, by simpa using H.len⟩
  have h := ((((H.top.set (k * 5) (.bool x.1)).set (k * 5 + 1) (.int .u64 (x.2.1.1.1 : Int))).set (k * 5 + 2) (.int .u64 (x.2.1.1.2 : Int))).set (k * 5 + 3) (.int .i64 x.2.1.2)).set (k * 5 + 4) (.int .i64 x.2.2)
  obtain ⟨a, b, c, d, rfl⟩ := four H.len
  obtain rfl | rfl | rfl | rfl : k = 0 ∨ k = 1 ∨ k = 2 ∨ k = 3 := by omega
  all_goals simpa [plcEn] using h

theorem chg5 {w w1 : World} (h : Below w.heap.size w w1) (g o : Nat) (a b c d e : Value) :
    Chg (fun x => x = g) w (((((w1.setCell ⟨g, o, none⟩ a).setCell ⟨g, o + 1, none⟩ b).setCell ⟨g, o + 2, none⟩ c).setCell ⟨g, o + 3, none⟩ d).setCell ⟨g, o + 4, none⟩ e) := by
  have h0 : Chg (fun x => x = g) w w1 := Chg.of_below h _
  have h1 := h0.trans' (Chg.store w1 g o a)
  have h2 := h1.trans' (Chg.store _ g (o + 1) b)
  have h3 := h2.trans' (Chg.store _ g (o + 2) c)
  have h4 := h3.trans' (Chg.store _ g (o + 3) d)
  exact h4.trans' (Chg.store _ g (o + 4) e)

set_option maxHeartbeats 2000000 in
theorem buck_put {w : World} {g : Nat} {ps : List Plc} (H : Buck w g ps) (p : Pf) (v : Int) :
    Calls Try.prog 44 #[.pointer (some ⟨g, 0, none⟩), p.v, .int .i64 v] w fun e w' => e = .returned (.bool (decide (0 ≤ putI ps p))) ∧
      Buck w' g (if 0 ≤ putI ps p then ps.set (putI ps p).toNat (true, p, v) else ps) ∧ Chg (· = g) w w' := by
  obtain ⟨R, hR⟩ : ∃ R, findP ps p 0 = R := ⟨_, rfl⟩
  obtain ⟨F, hF⟩ : ∃ F, freeP ps 0 = F := ⟨_, rfl⟩
  obtain ⟨J, hJ⟩ : ∃ J, putI ps p = J := ⟨_, rfl⟩
  have hJ' : J = if R < 0 then F else R := by rw [← hJ, ← hR, ← hF]; rfl
  rw [hJ]
  have rR := findP_range ps p 0
  have rF := freeP_range ps 0
  rw [hR, H.len] at rR
  rw [hF, H.len] at rF
  unfold Pf.v
  have H1 : Buck (w.alloc (.cells #[.int .u64 (p.1.1 : Int), .int .u64 (p.1.2 : Int), .int .i64 p.2] 32)) g ps := ⟨H.top.alloc _, H.len⟩
  have c1 := buck_find H1 p
  rw [hR] at c1
  unfold Pf.v at c1
  have hbx := Blk.new_at w #[.int .u64 (p.1.1 : Int), .int .u64 (p.1.2 : Int), .int .i64 p.2] 32 w.heap.size rfl
  have hb0 : Below w.heap.size w (w.alloc (.cells #[.int .u64 (p.1.1 : Int), .int .u64 (p.1.2 : Int), .int .i64 p.2] 32)) := (Below.refl _ _).alloc (Nat.le_refl _) _
  have hgl := H.top.lt
  have C1 := hid c1
  have HBX := hid hbx
  have HB0 := hid hb0
  have HH := hid H1
  have HFF := hid hF
  clear c1 hbx hb0 H1 hR hF hJ
  obtain ⟨⟨p1, p2⟩, p3⟩ := p
  simp only at C1 HBX HB0 HH
  go_enter Try.func44, Try.ntmps44
  go_wp2_with fail
  refine C1.out.mono ?_
  rintro e w1 ⟨rfl, hb1⟩
  have HB1 : Buck w1 g ps := HH.out.below hb1
  have hbx1 := HBX.out.below' hb1
  have hc1 : Below w.heap.size w w1 := HB0.out.trans (hb1.mono HB0.out.size)
  have q0 := hbx1.cellv (i := 0) rfl
  have q1 := hbx1.cellv (i := 1) rfl
  have q2 := hbx1.cellv (i := 2) rfl
  have HC1 := hid hc1
  clear hb1 hbx1 hc1 C1 HBX HB0 HH
  have HJ := hid hJ'
  have HR := hid rR
  have HF := hid rF
  clear hJ' rR rF
  go_wp2_with fail
  go_loop [7, 8] (fun j k => PRel ps R F j k) (fun _ k => 4 - (intOf k).toNat)
  case atStart =>
    refine ⟨0, R, by omega, rfl, rfl, ?_⟩
    by_cases h : R < 0
    · right; left; exact ⟨h, rfl, HFF.out⟩
    · left; exact ⟨by omega, rfl⟩
  case round =>
    obtain ⟨k, j, hk, rfl, rfl, hrel⟩ := hrel
    have HREL := hid hrel
    clear hrel
    by_cases hlt : k < 4 ∧ j < 0
    · obtain ⟨hk4, hj⟩ := hlt
      have hr2 : R < 0 ∧ j = R ∧ freeP (ps.drop k) k = F := by rcases HREL.out with h | h | h <;> omega
      obtain ⟨x, hx⟩ : ∃ x, ps[k]? = some x := ⟨_, List.getElem?_eq_getElem (by rw [HB1.len]; exact hk4)⟩
      have hd := buck_head HB1 k hk4 x hx
      have hdr : ps.drop k = x :: ps.drop (k + 1) := by
        have hl : k < ps.length := by rw [HB1.len]; exact hk4
        rw [List.drop_eq_getElem_cons hl]; congr 1
        simpa [List.getElem?_eq_getElem hl] using hx
      rw [hdr] at hr2
      unfold freeP at hr2
      have HR2 := hid hr2
      clear hr2 hdr hx
      obtain ⟨x0, xr⟩ := x
      simp only at HR2 hd
      cases x0
      · go_wp2_with fail
        go_round
        case rel => exact ⟨k + 1, k, by omega, by go_num, rfl, Or.inr (Or.inr ⟨HR2.out.1, by have := HR2.out.2.2; simp at this; omega, by have := HR2.out.2.2; simp at this; omega⟩)⟩
        case measure => simp [intOf]; omega
      · go_wp2_with fail
        go_round
        case rel => exact ⟨k + 1, j, by omega, by go_num, rfl, Or.inr (Or.inl ⟨HR2.out.1, HR2.out.2.1, by have := HR2.out.2.2; simpa using this⟩)⟩
        case measure => simp [intOf]; omega
    · have hjJ : j = J := by
        rcases HREL.out with ⟨h1, h2⟩ | ⟨h1, h2, h3⟩ | ⟨h1, h2, h3⟩
        · rw [HJ.out, if_neg (by omega)]; exact h2
        · have hk4 : k = 4 := by omega
          subst hk4
          have e : ps.drop 4 = [] := by rw [List.drop_eq_nil_of_le (by rw [HB1.len]; omega)]
          rw [e] at h3
          have : F = -1 := h3.symm
          have := HR.out
          rw [HJ.out, if_pos h1]; omega
        · rw [HJ.out, if_pos h1]; exact h3
      have hJr : J < 0 ∨ 0 ≤ J ∧ J < 4 := by have h2 := HR.out; have h3 := HF.out; have h1 := HJ.out; split at h1 <;> omega
      subst hjJ
      clear HREL HJ HR HF HFF
      by_cases h0 : j < 0
      · have hex : k < 4 ∧ j < 0 ∨ ¬ k < 4 := by omega
        have hk4 : ¬ k < 4 := by omega
        clear hlt hex hJr
        go_wp2_with fail
        go_ret
        refine ⟨by first | rfl | (rw [decide_eq_false (by omega)]; rfl), ?_, Chg.of_below HC1.out _⟩
        first | exact HB1 | (rw [if_neg (by omega)]; exact HB1)
      · obtain ⟨m, rfl⟩ := Int.eq_ofNat_of_zero_le (show 0 ≤ j by omega)
        have hm : m < 4 := by omega
        have hs := buck_set HB1 m hm (true, ((p1, p2), p3), v)
        have HS := hid hs
        have f0 := HB1.top.frozen (m * 5)
        have f1 := HB1.top.frozen (m * 5 + 1)
        have f2 := HB1.top.frozen (m * 5 + 2)
        have f3 := HB1.top.frozen (m * 5 + 3)
        have f4 := HB1.top.frozen (m * 5 + 4)
        obtain ⟨y, hy⟩ : ∃ y, ps[m]? = some y := ⟨_, List.getElem?_eq_getElem (by rw [HB1.len]; exact hm)⟩
        obtain ⟨y0, y1, y2, y3, y4⟩ := buck_cells HB1 m hm y hy
        clear hs hlt hJr h0 hy
        have hk' : ¬ ((m : Int) < 0) := by omega
        by_cases hk4 : k < 4
        all_goals
          go_wp2_with fail
          go_region
          go_wp2_with fail
          go_ret
          exact ⟨rfl, ⟨HS.out.top.drew, HS.out.len⟩, (chg5 HC1.out g (m * 5) _ _ _ _ _).drew⟩

set_option maxHeartbeats 2000000 in
theorem buck_take {w : World} {g : Nat} {ps : List Plc} (H : Buck w g ps) (p : Pf) :
    Calls Try.prog 45 #[.pointer (some ⟨g, 0, none⟩), p.v] w fun e w' => e = .returned (.bool (decide (0 ≤ findP ps p 0))) ∧
      Buck w' g (if 0 ≤ findP ps p 0 then ps.set (findP ps p 0).toNat (false, ((0, 0), 0), 0) else ps) ∧ Chg (· = g) w w' := by
  obtain ⟨R, hR⟩ : ∃ R, findP ps p 0 = R := ⟨_, rfl⟩
  rw [hR]
  have rR := findP_range ps p 0
  rw [hR, H.len] at rR
  unfold Pf.v
  have H1 : Buck (w.alloc (.cells #[.int .u64 (p.1.1 : Int), .int .u64 (p.1.2 : Int), .int .i64 p.2] 32)) g ps := ⟨H.top.alloc _, H.len⟩
  have c1 := buck_find H1 p
  rw [hR] at c1
  unfold Pf.v at c1
  have hb0 : Below w.heap.size w (w.alloc (.cells #[.int .u64 (p.1.1 : Int), .int .u64 (p.1.2 : Int), .int .i64 p.2] 32)) := (Below.refl _ _).alloc (Nat.le_refl _) _
  have hgl := H.top.lt
  have C1 := hid c1
  have HB0 := hid hb0
  have HH := hid H1
  clear c1 hb0 H1 hR
  obtain ⟨⟨p1, p2⟩, p3⟩ := p
  simp only at C1 HB0 HH
  have HR := hid rR
  clear rR
  go_enter Try.func45, Try.ntmps45
  go_wp2_with fail
  refine C1.out.mono ?_
  rintro e w1 ⟨rfl, hb1⟩
  have HB1 : Buck w1 g ps := HH.out.below hb1
  have hc1 : Below w.heap.size w w1 := HB0.out.trans (hb1.mono HB0.out.size)
  have HC1 := hid hc1
  clear hb1 hc1 C1 HB0 HH
  by_cases h0 : R < 0
  · go_wp2_with fail
    go_ret
    refine ⟨by first | rfl | (rw [decide_eq_false (by omega)]; rfl), ?_, Chg.of_below HC1.out _⟩
    first | exact HB1 | (rw [if_neg (by omega)]; exact HB1)
  · obtain ⟨m, rfl⟩ := Int.eq_ofNat_of_zero_le (show 0 ≤ R by omega)
    have hm : m < 4 := by have := HR.out; omega
    have hs := buck_set HB1 m hm (false, ((0, 0), 0), 0)
    have HS := hid hs
    have f0 := HB1.top.frozen (m * 5)
    have f1 := HB1.top.frozen (m * 5 + 1)
    have f2 := HB1.top.frozen (m * 5 + 2)
    have f3 := HB1.top.frozen (m * 5 + 3)
    have f4 := HB1.top.frozen (m * 5 + 4)
    obtain ⟨y, hy⟩ : ∃ y, ps[m]? = some y := ⟨_, List.getElem?_eq_getElem (by rw [HB1.len]; exact hm)⟩
    obtain ⟨y0, y1, y2, y3, y4⟩ := buck_cells HB1 m hm y hy
    clear hs h0 hy
    have hk' : ¬ ((m : Int) < 0) := by omega
    go_wp2_with fail
    go_ret
    exact ⟨rfl, HS.out, chg5 HC1.out g (m * 5) _ _ _ _ _⟩

/-- What a key has. -/
def valP (ps : List Plc) (p : Pf) : Int := if 0 ≤ findP ps p 0 then (ps.getD (findP ps p 0).toNat (false, ((0, 0), 0), 0)).2.2 else 0
set_option maxHeartbeats 2000000 in
theorem buck_get {w : World} {g : Nat} {ps : List Plc} (H : Buck w g ps) (p : Pf) :
    Calls Try.prog 63 #[.pointer (some ⟨g, 0, none⟩), p.v] w fun e w' => e = .returned (.tuple #[.int .i64 (valP ps p), .bool (decide (0 ≤ findP ps p 0))]) ∧ Below w.heap.size w w' := by
  obtain ⟨R, hR⟩ : ∃ R, findP ps p 0 = R := ⟨_, rfl⟩
  obtain ⟨V, hV⟩ : ∃ V, valP ps p = V := ⟨_, rfl⟩
  have hV' := hV
  unfold valP at hV'
  rw [hR] at hV' ⊢
  rw [hV]
  have rR := findP_range ps p 0
  rw [hR, H.len] at rR
  unfold Pf.v
  have H1 : Buck (w.alloc (.cells #[.int .u64 (p.1.1 : Int), .int .u64 (p.1.2 : Int), .int .i64 p.2] 32)) g ps := ⟨H.top.alloc _, H.len⟩
  have c1 := buck_find H1 p
  rw [hR] at c1
  unfold Pf.v at c1
  have hb0 : Below w.heap.size w (w.alloc (.cells #[.int .u64 (p.1.1 : Int), .int .u64 (p.1.2 : Int), .int .i64 p.2] 32)) := (Below.refl _ _).alloc (Nat.le_refl _) _
  have hgl := H.top.lt
  have C1 := hid c1
  have HB0 := hid hb0
  have HH := hid H1
  have HV := hid hV'
  clear c1 hb0 H1 hR hV hV'
  obtain ⟨⟨p1, p2⟩, p3⟩ := p
  simp only at C1 HB0 HH
  have HR := hid rR
  clear rR
  go_enter Try.func63, Try.ntmps63
  go_wp2_with fail
  refine C1.out.mono ?_
  rintro e w1 ⟨rfl, hb1⟩
  have HB1 : Buck w1 g ps := HH.out.below hb1
  have hc1 : Below w.heap.size w w1 := HB0.out.trans (hb1.mono HB0.out.size)
  have HC1 := hid hc1
  clear hb1 hc1 C1 HB0 HH
  by_cases h0 : R < 0
  · have hv0 : V = 0 := by rw [← HV.out, if_neg (by omega)]
    subst hv0
    go_wp2_with fail
    go_ret2
    exact ⟨by first | rfl | (rw [decide_eq_false (by omega)]; rfl), HC1.out⟩
  · obtain ⟨m, rfl⟩ := Int.eq_ofNat_of_zero_le (show 0 ≤ R by omega)
    have hm : m < 4 := by have := HR.out; omega
    obtain ⟨y, hy⟩ : ∃ y, ps[m]? = some y := ⟨_, List.getElem?_eq_getElem (by rw [HB1.len]; exact hm)⟩
    obtain ⟨y0, y1, y2, y3, y4⟩ := buck_cells HB1 m hm y hy
    have hv0 : V = y.2.2 := by rw [← HV.out, if_pos (by omega)]; simp [List.getD_eq_getElem?_getD, hy]
    clear h0 hy
    subst hv0
    have hk' : ¬ ((m : Int) < 0) := by omega
    go_wp2_with fail
    go_ret2
    exact ⟨by first | rfl | (rw [decide_eq_true (by omega)]; rfl), HC1.out⟩
end Go.Proofs.Ytgmknnmcanbfeaa
