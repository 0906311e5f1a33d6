/-
  The walk of the law CuckooPlays: for all inputs it returns true and leaves memory alone. No condition.
-/
import Derived.Test.YtpjjijhojcfmnaaRTab6
namespace Go.Proofs.Ytpjjijhojcfmnaa
open Go.RowKit
set_option linter.unusedVariables false
set_option linter.unusedSimpArgs false
set_option maxRecDepth 100000

/-- The two tables, and the prefix of the last look. -/
structure CpQ (W wr : World) (g r : Nat) (TF RF : Nat → Prop) (p : Pf) (t1 t2 : Tb) : Prop where
  tw : TwF wr g TF t1
  rw : RwF wr r RF t2
  pp : Blk wr W.heap.size 34 [.int .u64 (p.1.1 : Int), .int .u64 (p.1.2 : Int), .int .i64 p.2]
  b : Below W.heap.size W wr
  tf : ∀ z, TF z → W.heap.size < z ∧ z < wr.heap.size ∧ ¬ RF z
  rf : ∀ z, RF z → W.heap.size < z ∧ z < wr.heap.size
def Cp (W wr : World) (g r : Nat) (p : Pf) (t1 t2 : Tb) : Prop := ∃ TF RF, CpQ W wr g r TF RF p t1 t2
theorem Cp.below {W wr w' : World} {g r : Nat} {p : Pf} {t1 t2 : Tb} (h : Cp W wr g r p t1 t2) (hb : Below wr.heap.size wr w') : Cp W w' g r p t1 t2 := by
  obtain ⟨TF, RF, h⟩ := h
  exact ⟨TF, RF, h.tw.below hb, h.rw.below hb, h.pp.below' hb, held_next h.b hb, fun z hz => ⟨(h.tf z hz).1, Nat.lt_of_lt_of_le (h.tf z hz).2.1 hb.size, (h.tf z hz).2.2⟩, fun z hz => ⟨(h.rf z hz).1, Nat.lt_of_lt_of_le (h.rf z hz).2 hb.size⟩⟩
theorem Cp.b {W wr : World} {g r : Nat} {p : Pf} {t1 t2 : Tb} (h : Cp W wr g r p t1 t2) : Below W.heap.size W wr := by obtain ⟨_, _, h⟩ := h; exact h.b
theorem Cp.pp {W wr : World} {g r : Nat} {p : Pf} {t1 t2 : Tb} (h : Cp W wr g r p t1 t2) : Blk wr W.heap.size 34 [.int .u64 (p.1.1 : Int), .int .u64 (p.1.2 : Int), .int .i64 p.2] := by obtain ⟨_, _, h⟩ := h; exact h.pp
theorem Cp.turnT {W wr w' : World} {g r : Nat} {p : Pf} {t1 t2 t' : Tb} {TF RF : Nat → Prop} (h : CpQ W wr g r TF RF p t1 t2) (ht : TwF w' g (fun z => TF z ∨ wr.heap.size ≤ z) t') (hc : Chg TF wr w') : Cp W w' g r p t' t2 :=
  ⟨fun z => (TF z ∨ wr.heap.size ≤ z) ∧ z < w'.heap.size, RF, ht.mono (fun z hz k => ⟨k, hz⟩), h.rw.chg hc (fun z _ hz hz2 => (h.tf z hz2).2.2 hz), h.pp.chg hc (fun hz => by have := (h.tf _ hz).1; omega), h.b.trans (hc.below h.b.size fun z hz k => by have := (h.tf z k).1; omega),
    fun z hz => by
      have h1 := h.pp.lt
      rcases hz.1 with k | k
      · exact ⟨(h.tf z k).1, hz.2, (h.tf z k).2.2⟩
      · exact ⟨Nat.lt_of_lt_of_le h1 k, hz.2, fun k2 => by have := (h.rf z k2).2; omega⟩,
    fun z hz => ⟨(h.rf z hz).1, Nat.lt_of_lt_of_le (h.rf z hz).2 hc.size⟩⟩
theorem Cp.turnR {W wr w' : World} {g r : Nat} {p : Pf} {t1 t2 t' : Tb} {TF RF : Nat → Prop} (h : CpQ W wr g r TF RF p t1 t2) (ht : RwF w' r (fun z => RF z ∨ wr.heap.size ≤ z) t') (hc : Chg RF wr w') : Cp W w' g r p t1 t' :=
  ⟨TF, fun z => (RF z ∨ wr.heap.size ≤ z) ∧ z < w'.heap.size, h.tw.chg hc (fun z _ hz hz2 => (h.tf z hz).2.2 hz2), ht.mono (fun z hz k => ⟨k, hz⟩), h.pp.chg hc (fun hz => by have := (h.rf _ hz).1; omega), h.b.trans (hc.below h.b.size fun z hz k => by have := (h.rf z k).1; omega),
    fun z hz => ⟨(h.tf z hz).1, Nat.lt_of_lt_of_le (h.tf z hz).2.1 hc.size, fun k => by
      rcases k.1 with k1 | k1
      · exact (h.tf z hz).2.2 k1
      · have := (h.tf z hz).2.1; omega⟩,
    fun z hz => by
      have h1 := h.pp.lt
      rcases hz.1 with k | k
      · exact ⟨(h.rf z k).1, hz.2⟩
      · exact ⟨Nat.lt_of_lt_of_le h1 k, hz.2⟩⟩
section
variable {W wr : World} {g r : Nat} {p : Pf} {t1 t2 : Tb}
def CpGo (W : World) (g r : Nat) (p : Pf) (t1 t2 : Tb) (v : Value) (e : Ending) (w' : World) : Prop := e = .returned v ∧ Cp W w' g r p t1 t2
theorem Cp.put (h : Cp W wr g r p t1 t2) (hok : t1.Ok) (hlen : (keysT t1).length < 50000000) (k : Pf) (hk : k.1.ok) (x : Int) :
    Calls Try.prog 33 #[.pointer (some ⟨g, 0, none⟩), .agg #[.int .u64 (k.1.1 : Int), .int .u64 (k.1.2 : Int), .int .i64 k.2], .int .i64 x] wr (CpGo W g r p (putT 16 t1 k x) t2 (.tuple #[])) := by
  obtain ⟨TF, RF, h⟩ := h
  exact (ck_put16 h.tw hok hlen k hk x).mono fun e w' ⟨he, ht, hc⟩ => ⟨he, Cp.turnT h ht hc⟩
theorem Cp.rput (h : Cp W wr g r p t1 t2) (hok : t2.Ok) (hlen : (keysT t2).length < 99000) (k : Pf) (hk : k.1.ok) (x : Int) :
    Calls Try.prog 40 #[.pointer (some ⟨r, 0, none⟩), .agg #[.int .u64 (k.1.1 : Int), .int .u64 (k.1.2 : Int), .int .i64 k.2], .int .i64 x] wr (CpGo W g r p t1 (putT 16 t2 k x) (.tuple #[])) := by
  obtain ⟨TF, RF, h⟩ := h
  exact (rk_put16 h.rw hok hlen k hk x).mono fun e w' ⟨he, ht, hc⟩ => ⟨he, Cp.turnR h ht hc⟩
theorem Cp.del (h : Cp W wr g r p t1 t2) (hok : t1.Ok) (hst : t1.st.length ≤ 100000000) (k : Pf) (hk : k.1.ok) :
    Calls Try.prog 38 #[.pointer (some ⟨g, 0, none⟩), .agg #[.int .u64 (k.1.1 : Int), .int .u64 (k.1.2 : Int), .int .i64 k.2]] wr (CpGo W g r p (delT t1 k) t2 (.bool (hasT t1 k))) := by
  obtain ⟨TF, RF, h⟩ := h
  exact (ck_delete h.tw hok hst k hk).mono fun e w' ⟨he, ht, hc⟩ => ⟨he, Cp.turnT h (ht.mono fun z _ hz => .inl hz) hc⟩
theorem Cp.rdel (h : Cp W wr g r p t1 t2) (hok : t2.Ok) (hst : t2.st.length ≤ 100000) (k : Pf) (hk : k.1.ok) :
    Calls Try.prog 39 #[.pointer (some ⟨r, 0, none⟩), .agg #[.int .u64 (k.1.1 : Int), .int .u64 (k.1.2 : Int), .int .i64 k.2]] wr (CpGo W g r p t1 (delT t2 k) (.bool (hasT t2 k))) := by
  obtain ⟨TF, RF, h⟩ := h
  exact (rk_delete h.rw hok hst k hk).mono fun e w' ⟨he, ht, hc⟩ => ⟨he, Cp.turnR h ht hc⟩
theorem Cp.size (h : Cp W wr g r p t1 t2) :
    Calls Try.prog 34 #[.pointer (some ⟨g, 0, none⟩)] wr (CpGo W g r p t1 t2 (.tuple #[.int .u64 (t1.s : Int), .int .i64 (t1.n : Int), .int .i64 (t1.st.length : Int)])) := by
  have h' := h
  obtain ⟨TF, RF, h⟩ := h
  exact (ck_size h.tw).mono fun e w' ⟨he, hb⟩ => ⟨he, h'.below hb⟩
theorem Cp.rsize (h : Cp W wr g r p t1 t2) :
    Calls Try.prog 41 #[.pointer (some ⟨r, 0, none⟩)] wr (CpGo W g r p t1 t2 (.tuple #[.int .u64 (t2.s : Int), .int .i64 (t2.n : Int), .int .i64 (t2.st.length : Int)])) := by
  have h' := h
  obtain ⟨TF, RF, h⟩ := h
  exact (rk_size h.rw).mono fun e w' ⟨he, hb⟩ => ⟨he, h'.below hb⟩
end

theorem cuckooPlays_out (W : World) (s : Nat) (n : Int) (A1 : Option Addr) (c1 m : Nat) (h1 : m ≤ c1) (hc1 : c1 ≤ maxLen) (p : Pf) (h : (40 < n ∧ n ≤ 65536) ∨ 150 < m) :
    Calls Try.prog 9 #[.int .u64 (s : Int), .int .i64 n, .slice A1 m c1, .agg #[.int .u64 (p.1.1 : Int), .int .u64 (p.1.2 : Int), .int .i64 p.2]] W fun e W' => e = .returned (.bool true) ∧ Below W.heap.size W W' := by
  unfold maxLen at hc1
  have hB0 := hid ((Below.refl W.heap.size W).alloc (Nat.le_refl _) (.cells #[.int .u64 (p.1.1 : Int), .int .u64 (p.1.2 : Int), .int .i64 p.2] 34))
  obtain ⟨⟨a, b⟩, i⟩ := p
  by_cases hm : 150 < m
  · have d1 : decide ((150 : Int) < (m : Int)) = true := decide_eq_true (by omega)
    clear h
    go_enter Try.func9, Try.ntmps9
    go_wp2_with fail
    refine (cuckoo_alive _).mono ?_
    rintro e w1 ⟨rfl, hb⟩
    have HB1 := hid (hB0.out.trans (hb.mono hB0.out.size))
    clear hb
    go_wp2_with fail
    all_goals (go_ret; exact ⟨by simp, HB1.out⟩)
  · have h3 : 40 < n ∧ n ≤ 65536 := by omega
    obtain ⟨h3, h4⟩ := h3
    have d1 : decide ((150 : Int) < (m : Int)) = false := decide_eq_false (by omega)
    clear h
    go_enter Try.func9, Try.ntmps9
    go_wp2_with fail
    refine (cuckoo_alive _).mono ?_
    rintro e w1 ⟨rfl, hb⟩
    have HB1 := hid (hB0.out.trans (hb.mono hB0.out.size))
    clear hb
    go_wp2_with fail
    all_goals (go_ret; exact ⟨by simp, HB1.out⟩)

theorem cuckooPlays_err (W : World) (s : Nat) (n : Int) (A1 : Option Addr) (c1 m : Nat) (h1 : m ≤ c1) (hc1 : c1 ≤ maxLen) (p : Pf) (h : ¬ ((40 < n ∧ n ≤ 65536) ∨ 150 < m)) (hk : n < 1 ∨ 65536 < n) :
    Calls Try.prog 9 #[.int .u64 (s : Int), .int .i64 n, .slice A1 m c1, .agg #[.int .u64 (p.1.1 : Int), .int .u64 (p.1.2 : Int), .int .i64 p.2]] W fun e W' => e = .returned (.bool true) ∧ Below W.heap.size W W' := by
  unfold maxLen at hc1
  have hB0 := hid ((Below.refl W.heap.size W).alloc (Nat.le_refl _) (.cells #[.int .u64 (p.1.1 : Int), .int .u64 (p.1.2 : Int), .int .i64 p.2] 34))
  obtain ⟨⟨a, b⟩, i⟩ := p
  have d1 : decide ((150 : Int) < (m : Int)) = false := decide_eq_false (by omega)
  have c1 := hid fun w => ck_new_no w s n hk
  have c3 := hid fun w => rk_new_no w s n hk
  have hk' : n ≤ 40 ∨ 65536 < n := by omega
  clear h hk
  rcases hk' with hm | hm
  · have d3 : decide (40 < n) = false := decide_eq_false (by omega)
    clear hm
    go_enter Try.func9, Try.ntmps9
    go_wp2_with fail
    refine (cuckoo_alive _).mono ?_
    rintro e w1 ⟨rfl, hb⟩
    have HB1 := hid (hB0.out.trans (hb.mono hB0.out.size))
    clear hb
    go_wp2_with fail
    refine (c1.out _).mono ?_
    rintro _ w2 ⟨rfl, hb2⟩
    have HB2 := hid (held_next HB1.out hb2)
    clear hb2
    go_wp2_with fail
    refine (c3.out _).mono ?_
    rintro _ w3 ⟨rfl, hb3⟩
    have HB3 := hid (held_next HB2.out hb3)
    clear hb3
    go_wp2_with fail
    refine (law12_num _ _).mono ?_
    rintro _ w4 ⟨rfl, rfl⟩
    go_wp2_with fail
    go_ret
    exact ⟨rfl, HB3.out⟩
  · have d3 : decide (40 < n) = true := decide_eq_true (by omega)
    have d4 : decide (n ≤ 65536) = false := decide_eq_false (by omega)
    clear hm
    go_enter Try.func9, Try.ntmps9
    go_wp2_with fail
    refine (cuckoo_alive _).mono ?_
    rintro e w1 ⟨rfl, hb⟩
    have HB1 := hid (hB0.out.trans (hb.mono hB0.out.size))
    clear hb
    go_wp2_with fail
    refine (c1.out _).mono ?_
    rintro _ w2 ⟨rfl, hb2⟩
    have HB2 := hid (held_next HB1.out hb2)
    clear hb2
    go_wp2_with fail
    refine (c3.out _).mono ?_
    rintro _ w3 ⟨rfl, hb3⟩
    have HB3 := hid (held_next HB2.out hb3)
    clear hb3
    go_wp2_with fail
    refine (law12_num _ _).mono ?_
    rintro _ w4 ⟨rfl, rfl⟩
    go_wp2_with fail
    go_ret
    exact ⟨rfl, HB3.out⟩

def CpRel (W : World) (g r : Nat) (p : Pf) (t0 : Tb) (l : List CAct) (i : Value) (wr : World) : Prop :=
  ∃ k : Nat, k ≤ l.length ∧ i = .int .i64 k ∧ Cp W wr g r p (runT t0 (l.take k)) (runT t0 (l.take k))
def CpEnd (w0 : World) (m : Nat) (i : Value) (wr : World) : Prop := ∃ k : Nat, k ≤ m ∧ i = .int .i64 k ∧ Below w0.heap.size w0 wr

set_option maxHeartbeats 8000000 in
theorem cuckooPlays_in (W : World) (s : Nat) (hs : s < 2 ^ 64) (n : Nat) (hn1 : 1 ≤ n) (hn2 : n ≤ 40) (v1 : Value) (l : List CAct) (R1 : Rd caEn 5 W v1 l) (o1 : ∀ a ∈ l, a.2.2.1.ok) (hl : l.length ≤ 150) (p : Pf) (hp : p.1.ok) :
    Calls Try.prog 9 #[.int .u64 (s : Int), .int .i64 (n : Int), v1, .agg #[.int .u64 (p.1.1 : Int), .int .u64 (p.1.2 : Int), .int .i64 p.2]] W fun e W' => e = .returned (.bool true) ∧ Below W.heap.size W W' := by
  have HR1 := hid fun k x (h : l[k]? = some x) => R1.get caEn_len (by decide) h
  have O1 := hid fun (k : Nat) (x : CAct) (h : l[k]? = some x) => o1 x (List.mem_of_getElem? h)
  have HRUN := hid (run_ok (newT s n) (newT_ok hs hn1 (by omega)) (newT_rep s n) l o1)
  have HSN := hid fun (k : Nat) (x : CAct) (h : l[k]? = some x) => (run_snoc h (newT s n)).1
  obtain ⟨A1, k1, rfl, n1, m1⟩ := R1.form
  unfold maxLen at m1
  obtain ⟨N, hN1⟩ : ∃ N, l.length = N := ⟨_, rfl⟩
  have HN1 := hid hN1
  have HP := hid hp
  rw [hN1] at n1 hl ⊢
  have cnew := hid fun w => ck_new w s n hn1 (by omega)
  have rnew := hid fun w => rk_new w s n hn1 (by omega)
  clear R1 o1 hN1 hs hp
  generalize newT s n = t0 at *
  have d1 : decide ((40 : Int) < (n : Int)) = false := decide_eq_false (by omega)
  have d3 : decide ((150 : Int) < (N : Int)) = false := decide_eq_false (by omega)
  obtain ⟨⟨pa, pb⟩, pn⟩ := p
  have HB0 := hid ((Below.refl W.heap.size W).alloc (Nat.le_refl _) (.cells #[.int .u64 (pa : Int), .int .u64 (pb : Int), .int .i64 pn] 34))
  have HP0 := hid (Blk.new_at W #[.int .u64 (pa : Int), .int .u64 (pb : Int), .int .i64 pn] 34 W.heap.size rfl)
  go_enter Try.func9, Try.ntmps9
  go_wp2_with fail
  refine (cuckoo_alive _).mono ?_
  rintro e w1 ⟨rfl, hb⟩
  have HB1 := hid (HB0.out.trans (hb.mono HB0.out.size))
  have HP1 := hid (HP0.out.below' hb)
  clear hb HB0 HP0
  go_wp2_with fail
  refine (cnew.out _).mono ?_
  rintro _ w2 ⟨g, rfl, hg, hb2, q, hT, hq⟩
  have HT := hid hT
  have HB2 := hid (held_next HB1.out hb2)
  have HP2 := hid (HP1.out.below' hb2)
  have lp1 := HP1.out.lt
  have s2 := hb2.size
  clear hT hb2 HB1 HP1 cnew
  go_wp2_with fail
  refine (rnew.out _).mono ?_
  rintro _ w3 ⟨r, rfl, hr, hb3, qr, hR, hqr⟩
  have lg := HT.out.top.lt
  have lq := HT.out.bk.lt
  have lr := hR.top.lt
  have lqr := hR.bk.lt
  have hb3s := hb3.size
  have HS := hid (show Cp W w3 g r ((pa, pb), pn) t0 t0 from ⟨fun z => z = g ∨ z = q, fun z => z = r ∨ z = qr,
    ⟨⟨q, _, HT.out.below hb3, .inl rfl, .inr rfl, fun z hz => by simp [Value.ownBlock] at hz⟩, ⟨qr, _, hR, .inl rfl, .inr rfl, fun z hz => by simp [Value.ownBlock] at hz⟩, HP2.out.below' hb3, held_next HB2.out hb3, fun z hz => by omega, fun z hz => by omega⟩⟩)
  clear hR hb3 hqr HT HB2 HP2 rnew lg lq lr lqr hb3s s2 lp1 hg hq hr
  go_wp2_with fail
  refine (law12_num _ _).mono ?_
  rintro _ w4 ⟨rfl, rfl⟩
  go_wp2_with fail
  go_loopw [14] (fun i wr => CpRel W g r ((pa, pb), pn) t0 l i wr) (fun i _ => N - (intOf i).toNat)
  case atStart => exact ⟨0, Nat.zero_le _, rfl, HS.out⟩
  case round =>
    clear HS
    obtain ⟨k, hk, rfl, hS⟩ := hrel
    rw [HN1.out] at hk
    have HRK := hid (HRUN.out k (by rw [HN1.out]; exact hk))
    by_cases h1 : k < N
    · obtain ⟨x, hx⟩ : ∃ x, l[k]? = some x := ⟨_, List.getElem?_eq_getElem (by rw [HN1.out]; exact h1)⟩
      have SN1 := hid (HSN.out k x hx)
      generalize runT t0 (l.take k) = t at *
      generalize runL (l.take k) = now at *
      obtain ⟨ba, oa, ca, hv, _, _, la, sa⟩ := HR1.out k x hx
      injection hv with hA hxx hc
      subst hA hc
      have HC := hid (show ∀ w, Below W.heap.size W w → w.cell? ⟨ba, oa + k * 5, none⟩ = some (.int .i64 x.1) ∧ w.cell? ⟨ba, oa + k * 5 + 1, none⟩ = some (.int .i64 x.2.1) ∧ w.cell? ⟨ba, oa + k * 5 + 2, none⟩ = some (.int .u64 (x.2.2.1.1 : Int)) ∧ w.cell? ⟨ba, oa + k * 5 + 2 + 1, none⟩ = some (.int .u64 (x.2.2.1.2 : Int)) ∧ w.cell? ⟨ba, oa + k * 5 + 2 + 2, none⟩ = some (.int .i64 x.2.2.2) from fun w h =>
        ⟨(h.cell (p := ⟨ba, oa + k * 5, none⟩) la).trans (sa 0 _ rfl), (h.cell (p := ⟨ba, oa + k * 5 + 1, none⟩) la).trans (sa 1 _ rfl), (h.cell (p := ⟨ba, oa + k * 5 + 2, none⟩) la).trans (sa 2 _ rfl), (h.cell (p := ⟨ba, oa + k * 5 + 3, none⟩) la).trans (sa 3 _ rfl), (h.cell (p := ⟨ba, oa + k * 5 + 4, none⟩) la).trans (sa 4 _ rfl)⟩)
      have HS := hid hS
      have hnk := HRK.out.len
      obtain ⟨y0, y1, y2, y3, y4⟩ := HC.out _ HS.out.b
      have xok := hid (O1.out k x hx)
      clear sa hxx hx hS
      have hkl := HRK.out.rep.len
      have hsl := st_le t
      by_cases hw : x.1 = 1
      · have HST' := hid (show stepT t x = delT t x.2.2 from if_pos hw)
        have cD := hid ((HS.out.below (Below.refl wr.heap.size wr).drew).del HRK.out.ok (by omega) x.2.2 xok.out)
        have cR := hid (fun (w' : World) (h : Cp W w' g r ((pa, pb), pn) (delT t x.2.2) t) => h.rdel HRK.out.ok (by omega) x.2.2 xok.out)
        unfold CpGo at cD cR
        generalize hasT t x.2.2 = D at *
        rw [hw] at y0
        generalize hvl : (x.2.2) = p at *
        obtain ⟨⟨p1, p2⟩, p3⟩ := p
        simp only at y2 y3 y4 cD cR xok HC
        go_wp2_with fail
        go_region_held3 (fun w' => w'.cell? ⟨ba, oa + k * 5 + 2, none⟩ = some (.int .u64 (p1 : Int)) ∧ w'.cell? ⟨ba, oa + k * 5 + 2 + 1, none⟩ = some (.int .u64 (p2 : Int)) ∧ w'.cell? ⟨ba, oa + k * 5 + 2 + 2, none⟩ = some (.int .i64 p3)) (first | go_keep | (refine ⟨?_, ?_, ?_⟩ <;> assumption))
          (first
            | (with_reducible refine cD.out.mono ?_
               rintro _ w4 ⟨rfl, hS4⟩
               have HS4 := hid hS4
               obtain ⟨u0, u1, u2, u3, u4⟩ := HC.out _ HS4.out.b)
            | (with_reducible refine (cR.out _ HS4.out).mono ?_
               rintro _ w5 ⟨rfl, hS5⟩
               have HS5 := hid hS5
               obtain ⟨v0, v1, v2, v3, v4⟩ := HC.out _ HS5.out.b))
        rw [HST'.out] at SN1
        generalize delT t ((p1, p2), p3) = t' at *
        clear hS4 hS5 HS4 HS cD cR y0 y1 y2 y3 y4 u0 u1 u2 u3 u4 v0 v1 v2 v3 v4
        have c6 := hid HS5.out.size
        have c7 := hid (fun (w' : World) (h : Cp W w' g r ((pa, pb), pn) t' t') => h.rsize)
        unfold CpGo at c6 c7
        go_wp2_with fail
        refine c6.out.mono ?_
        rintro _ w6 ⟨rfl, hS6⟩
        have HS6 := hid hS6
        clear hS6 c6 HS5
        go_wp2_with fail
        refine (c7.out _ HS6.out).mono ?_
        rintro _ w7 ⟨rfl, hS7⟩
        have HS7 := hid hS7
        clear hS7 c7 HS6
        go_wp2_with fail
        go_roundw
        case rel => exact ⟨k + 1, by rw [HN1.out]; omega, by go_num, by rw [SN1.out]; exact HS7.out⟩
        case measure => simp [intOf]; omega
      · have HST' := hid (show stepT t x = putT 16 t x.2.2 x.2.1 from if_neg hw)
        have cD := hid ((HS.out.below (Below.refl wr.heap.size wr).drew).put HRK.out.ok (by omega) x.2.2 xok.out x.2.1)
        have cR := hid (fun (w' : World) (h : Cp W w' g r ((pa, pb), pn) (putT 16 t x.2.2 x.2.1) t) => (h.below (Below.refl w'.heap.size w').drew).rput HRK.out.ok (by omega) x.2.2 xok.out x.2.1)
        unfold CpGo at cD cR
        generalize hvl : (x.2.2) = p at *
        generalize hvv : (x.2.1) = val at *
        obtain ⟨⟨p1, p2⟩, p3⟩ := p
        simp only at y2 y3 y4 cD cR xok HC
        go_wp2_with fail
        refine wp_region_tail 11 (by kernel_rfl) (by kernel_rfl) ?_
        simp only [List.take_succ_cons, List.take_zero, List.drop_succ_cons, List.drop_zero]
        repeat still_step
        refine wpStill_nil ?_
        go_wp2_with fail
        refine cD.out.mono ?_
        rintro _ w4 ⟨rfl, hS4⟩
        have HS4 := hid hS4
        clear y0 y1 y2 y3 y4 hS4 cD HS
        obtain ⟨y0, y1, y2, y3, y4⟩ := HC.out _ HS4.out.b
        go_wp2_with fail
        refine wp_region_tail 11 (by kernel_rfl) (by kernel_rfl) ?_
        simp only [List.take_succ_cons, List.take_zero, List.drop_succ_cons, List.drop_zero]
        repeat still_step
        refine wpStill_nil ?_
        go_wp2_with fail
        refine (cR.out _ HS4.out).mono ?_
        rintro _ w5 ⟨rfl, hS5⟩
        have HS5 := hid hS5
        rw [HST'.out] at SN1
        generalize putT 16 t ((p1, p2), p3) val = t' at *
        clear hS5 HS4 cR y0 y1 y2 y3 y4
        have c6 := hid HS5.out.size
        have c7 := hid (fun (w' : World) (h : Cp W w' g r ((pa, pb), pn) t' t') => h.rsize)
        unfold CpGo at c6 c7
        go_wp2_with fail
        refine c6.out.mono ?_
        rintro _ w6 ⟨rfl, hS6⟩
        have HS6 := hid hS6
        clear hS6 c6 HS5
        go_wp2_with fail
        refine (c7.out _ HS6.out).mono ?_
        rintro _ w7 ⟨rfl, hS7⟩
        have HS7 := hid hS7
        clear hS7 c7 HS6
        go_wp2_with fail
        go_roundw
        case rel => exact ⟨k + 1, by rw [HN1.out]; omega, by go_num, by rw [SN1.out]; exact HS7.out⟩
        case measure => simp [intOf]; omega
    · have hkN : k = N := by omega
      subst hkN
      clear h1
      generalize runT t0 (l.take k) = t at *
      generalize runL (l.take k) = now at *
      have hlen := HRK.out.rep.len
      have hlk := HRK.out.len
      have hsl := st_le t
      have HS := hid hS
      obtain ⟨m, hm⟩ : ∃ m, now.length = m := ⟨_, rfl⟩
      have HM := hid hm
      rw [hm] at hlen hlk
      clear hS hm
      have HO := hid HRK.out.ok
      obtain ⟨TF, RF, hQ⟩ := HS.out
      have cA := hid (rk_all hQ.rw HO.out (by omega) now HRK.out.rep)
      clear hQ
      go_wp2_with fail
      refine cA.out.mono ?_
      rintro _ w5 ⟨v5, rfl, hO5, hb5⟩
      have HS5 := hid (HS.out.below hb5)
      have HRA := hid hO5.rd
      obtain ⟨A5, c5, hv5, hl5, hm5, _⟩ := Owns.form hO5
      unfold maxLen at hm5
      subst hv5
      obtain ⟨TF, RF, hQ⟩ := HS5.out
      have cB := hid (ck_all hQ.tw HO.out (by omega) now HRK.out.rep)
      rw [HM.out] at HRA hl5 ⊢
      clear hQ hO5 hb5 cA HS
      go_wp2_with fail
      refine cB.out.mono ?_
      rintro _ w6 ⟨v6, rfl, hO6, hb6⟩
      have HS6 := hid (HS5.out.below hb6)
      have HRA6 := hid (HRA.out.below rtEn_length hb6)
      have cS := hid (ref_sameRts w6 _ _ now now hO6.rd HRA6.out true (by simp))
      obtain ⟨A6, c6, hv6⟩ := hO6.form
      subst hv6
      rw [HM.out] at cS ⊢
      clear hO6 hb6 cB HS5 HRA
      go_wp2_with fail
      refine cS.out.mono ?_
      rintro _ w7 ⟨rfl, hb7⟩
      have HS7 := hid (HS6.out.below hb7)
      have HRA7 := hid (HRA6.out.below rtEn_length hb7)
      obtain ⟨TF, RF, hQ⟩ := HS7.out
      have cL := hid (ck_len hQ.tw HO.out (by omega))
      rw [hlen] at cL
      clear hb7 cS HS6 HRA6 hQ
      go_wp2_with fail
      refine cL.out.mono ?_
      rintro _ w8 ⟨rfl, hb8⟩
      have HS8 := hid (HS7.out.below hb8)
      have HRA8 := hid (HRA7.out.below rtEn_length hb8)
      clear hb8 cL HS7 HRA7
      have p0 := HS8.out.pp.cellv (i := 0) rfl
      have p1 := HS8.out.pp.cellv (i := 1) rfl
      have p2 := HS8.out.pp.cellv (i := 2) rfl
      go_wp2_with fail
      have HN0 := hid (Blk.new w8.drew [.int .u64 (pa : Int), .int .u64 (pb : Int), .int .i64 pn, .int .i64 0] 73)
      have hWlt := HS8.out.pp.lt
      have HNL := hid (show now.length = m from HM.out)
      have hmb : m ≤ 150 := by omega
      go_region_held3 (fun w' => w'.cell? ⟨W.heap.size, 0, none⟩ = some (.int .u64 (pa : Int)) ∧ w'.cell? ⟨W.heap.size, 1, none⟩ = some (.int .u64 (pb : Int)) ∧ w'.cell? ⟨W.heap.size, 2, none⟩ = some (.int .i64 pn)) (first | go_keep | (refine ⟨?_, ?_, ?_⟩ <;> assumption))
        (first
          | (refine step_append_rd (by rfl) (.const (.slice none 0 0)) (.tmp 162) 69 (by rfl) 73 _ 4 32 Try.underlying69 rt_row (by rfl) (by decide) w8.heap.size _ 0 [] (by rfl) (Owns.nil _ _ _ _) _ (by rfl) now (by first | exact HRA8.out.below rtEn_length (Below.refl w8.heap.size w8).drew | exact HRA8.out.below rtEn_length ((Below.refl w8.heap.size w8).drew.alloc (Nat.le_refl _) _)) rtEn_length cells_rt (by have h1 := HNL.out; unfold maxLen; omega) (by have h1 := HNL.out; omega) (by first | exact Nat.le_refl _ | omega | (simp; omega) | simp) ?_
             intro vA wA hOA hCA
             have HBA := hid (show Below w8.heap.size w8 wA by first | exact ((Below.refl w8.heap.size w8).drew).trans (hCA.below (Nat.le_refl _) (fun i hi h => by cases h)) | exact (((Below.refl w8.heap.size w8).drew).alloc (Nat.le_refl _) _).trans (hCA.below (by simp) (fun i hi h => by cases h)))
             have HOA := hid hOA
             have HCA := hid hCA
             have q0 := (HBA.out.cell (p := ⟨W.heap.size, 0, none⟩) hWlt).trans p0
             have q1 := (HBA.out.cell (p := ⟨W.heap.size, 1, none⟩) hWlt).trans p1
             have q2 := (HBA.out.cell (p := ⟨W.heap.size, 2, none⟩) hWlt).trans p2
             have hsA := HBA.out.size
             clear hOA hCA)
          | (refine step_append_rd (by rfl) (.tmp 163) (.tmp 166) 69 (by rfl) 73 _ 4 32 Try.underlying69 rt_row (by rfl) (by decide) w8.heap.size _ (0 + now.length) _ (by rfl) (by first | exact HOA.out | exact HOA.out.below ((Below.refl _ _).alloc (Nat.le_refl _) _)) _ (by rfl) [(((pa, pb), pn), (0 : Int))] (by first | exact Rd.of_blk (en := rtEn) (l := [(((pa, pb), pn), (0 : Int))]) (Blk.new wA [.int .u64 (pa : Int), .int .u64 (pb : Int), .int .i64 pn, .int .i64 0] 73) rtEn_length (by unfold maxLen; simp) | exact Rd.of_blk (en := rtEn) (l := [(((pa, pb), pn), (0 : Int))]) (HN0.out.chg HCA.out (fun h => by cases h)) rtEn_length (by unfold maxLen; simp)) rtEn_length cells_rt (by have h1 := HNL.out; unfold maxLen; simp only [List.length_singleton]; omega) (by have h1 := HNL.out; simp only [List.length_singleton]; omega) (by first | exact Nat.le_refl _ | omega | (simp; omega) | simp) ?_
             intro vB wB hOB hCB
             have HCB := hid (show Chg (fun g => vA.ownBlock = some g) wA wB by first | exact hCB | exact (((Chg.refl _ wA).alloc _).trans' hCB))
             have HBB := hid (HBA.out.trans (HCB.out.below hsA (fun i hi h => by have := (HOA.out.base_le i h).1; omega)))
             have HOB := hid hOB
             have r0 := (HBB.out.cell (p := ⟨W.heap.size, 0, none⟩) hWlt).trans p0
             have r1 := (HBB.out.cell (p := ⟨W.heap.size, 1, none⟩) hWlt).trans p1
             have r2 := (HBB.out.cell (p := ⟨W.heap.size, 2, none⟩) hWlt).trans p2
             clear hOB hCB))
      all_goals
        obtain ⟨L2, hL2⟩ : ∃ L2, now ++ [(((pa, pb), pn), (0 : Int))] = L2 := ⟨_, rfl⟩
        have hl2 : L2.length = m + 1 := by rw [← hL2, List.length_append, HM.out]; rfl
        have hO : Owns wB w8.heap.size 73 4 vB L2.length (L2.flatMap rtEn) := by
          have h := HOB.out
          rw [← hL2, List.length_append, List.flatMap_append]
          simpa using h
        have HMEM := hid (show ∀ x ∈ L2, x.1.1.ok from fun x hx => by
          rw [← hL2] at hx
          rcases List.mem_append.1 hx with hx | hx
          · exact HO.out.ok x (keysT_mem.2 (HRK.out.rep.mem.2 hx))
          · rw [List.mem_singleton.1 hx]; exact HP.out)
        have HLL := hid hl2
        obtain ⟨A2, c2, hvB, hlc2, hmc2, _⟩ := Owns.form hO
        unfold maxLen at hmc2
        have HRB := hid (Rd.of_owns (en := rtEn) hO rtEn_length)
        have HSB := hid (HS8.out.below HBB.out)
        subst hvB
        rw [hl2] at HRB hlc2 ⊢
        clear hO hL2 HOB HBB HCB HOA HBA HCA HN0 q0 q1 q2 r0 r1 r2 hsA HS8 HRA8 hl2
        go_wp2_with fail
        go_loopw [23] (fun i w' => CpEnd wB (m + 1) i w') (fun i _ => m + 1 - (intOf i).toNat)
        case atStart => exact ⟨0, Nat.zero_le _, rfl, Below.refl _ _⟩
        case round =>
          obtain ⟨j, hj, rfl, hbr⟩ := hrel
          have HS2 := hid (HSB.out.below hbr)
          have HBR := hid hbr
          by_cases hjm : j < m + 1
          · obtain ⟨x, hx⟩ : ∃ x, L2[j]? = some x := ⟨_, List.getElem?_eq_getElem (by rw [HLL.out]; exact hjm)⟩
            obtain ⟨ba, oa, ca, hv, _, _, la, sa⟩ := (HRB.out.below rtEn_length hbr).get rtEn_length (by decide) hx
            rw [HLL.out] at hv
            injection hv with hA hxx hc
            subst hA hc
            have z0 := sa 0 _ rfl
            have z1 := sa 1 _ rfl
            have z2 := sa 2 _ rfl
            have hok := HMEM.out x (List.mem_of_getElem? hx)
            obtain ⟨TF, RF, hQ⟩ := HS2.out
            have cG := ck_get hQ.tw HO.out (by omega) x.1 hok
            have cR := fun (w' : World) (h : Below wr.heap.size wr w') => rk_get (hQ.rw.below h) HO.out x.1 hok
            unfold CkGet at cG cR
            obtain ⟨⟨⟨x1, x2⟩, x3⟩, x4⟩ := x
            simp only [Nat.add_zero] at z0 z1 z2 cG cR
            have CG := hid cG
            have CR := hid cR
            have hj0 : (0 : Int) ≤ (j : Int) := by omega
            have hj1 : (j : Int) < (m : Int) + 1 := by omega
            generalize valT t ((x1, x2), x3) = VV at *
            generalize hasT t ((x1, x2), x3) = HH at *
            generalize atT t ((x1, x2), x3) = AA at *
            clear sa hxx hx hok cG cR hbr hQ
            go_wp2_with fail
            refine CG.out.mono ?_
            rintro _ w9 ⟨u9, rfl, hU9, hb9⟩
            have HB9 := hid hb9
            have HI9 := hid (RI.of_owns hU9)
            obtain ⟨A9, c9, hu9, _, _, _⟩ := Owns.form hU9
            subst hu9
            have z0 := (hb9.cell (p := ⟨ba, oa + j * 4, none⟩) (World.block_lt_of_cell? _ _ z0)).trans z0
            have z1 := (hb9.cell (p := ⟨ba, oa + j * 4 + 1, none⟩) (World.block_lt_of_cell? _ _ z1)).trans z1
            have z2 := (hb9.cell (p := ⟨ba, oa + j * 4 + 2, none⟩) (World.block_lt_of_cell? _ _ z2)).trans z2
            clear hU9 hb9 CG
            go_wp2_with fail
            refine (CR.out _ HB9.out).mono ?_
            rintro _ wA ⟨uA, rfl, hUA, hbA⟩
            have HBA := hid (held_next HB9.out hbA)
            have hIA := RI.of_owns hUA
            have hI9 := HI9.out.below hbA
            obtain ⟨AA', cA, huA, _, _, _⟩ := Owns.form hUA
            subst huA
            have cI := hid (ref_sameInts_eq wA _ _ AA hI9 hIA)
            clear hUA hbA CR hIA hI9 HI9 z0 z1 z2
            go_wp2_with fail
            refine cI.out.mono ?_
            rintro _ wC ⟨rfl, hbC⟩
            have HBC := hid (HBR.out.trans ((held_next HBA.out hbC).mono HBR.out.size))
            clear hbC cI
            go_wp2_with fail
            go_roundw
            case rel => exact ⟨j + 1, by omega, by go_num, HBC.out⟩
            case measure => simp [intOf]; omega
          · have hjm' : j = m + 1 := by omega
            subst hjm'
            go_wp2_with fail
            go_ret
            exact ⟨by simp, HS2.out.b⟩
theorem cuckooPlays_walk (W : World) (s : Int) (ws : (Lit.int .u64 s).wf = true) (n : Int) (wn : (Lit.int .i64 n).wf = true) (v1 : Value) (l : List CAct) (R1 : Rd caEn 5 W v1 l) (o1 : ∀ a ∈ l, CAct.fit a) (p : Pf) (wp : p.fit) :
    Calls Try.prog 9 #[.int .u64 s, .int .i64 n, v1, .agg (pfEn p).toArray] W fun e W' => e = .returned (.bool true) ∧ Below W.heap.size W W' := by
  have hs := wf_u64 ws
  obtain ⟨z, rfl⟩ := Int.eq_ofNat_of_zero_le hs.1
  by_cases h : (40 < n ∧ n ≤ 65536) ∨ 150 < l.length
  · obtain ⟨A, c, rfl, h1, h2⟩ := R1.form
    exact cuckooPlays_out W z n A c _ h1 h2 p h
  · by_cases hk : n < 1 ∨ 65536 < n
    · obtain ⟨A, c, rfl, h1, h2⟩ := R1.form
      exact cuckooPlays_err W z n A c _ h1 h2 p h hk
    · obtain ⟨m, rfl⟩ := Int.eq_ofNat_of_zero_le (show 0 ≤ n by omega)
      exact cuckooPlays_in W z (by omega) m (by omega) (by omega) v1 l R1 (fun a ha => (o1 a ha).1) (by omega) p wp.1

end Go.Proofs.Ytpjjijhojcfmnaa
