/-
  The walk of the law CuckooKeeps: for all inputs it returns true and leaves memory alone. No condition.
-/
import Derived.Test.YtpjjijhojcfmnaaGTab2
import Derived.Test.YtpjjijhojcfmnaaRowK
namespace Go.Proofs.Ytpjjijhojcfmnaa
open Go.RowKit
set_option linter.unusedVariables false
set_option linter.unusedSimpArgs false
set_option maxRecDepth 100000

/-- The table, and the list that it stands for, in a slice of its own. -/
structure CkSt (W wr : World) (g : Nat) (v : Value) (t : Tb) (now : List Rt) : Prop where
  tw : TwF wr g (fun z => W.heap.size ≤ z ∧ v.ownBlock ≠ some z) t
  st : Owns wr W.heap.size 73 4 v now.length (rtsV now)
  b : Below W.heap.size W wr
theorem CkSt.rd {W wr : World} {g : Nat} {v : Value} {t : Tb} {now : List Rt} (h : CkSt W wr g v t now) : Rd rtEn 4 wr v now := Rd.of_owns (en := rtEn) h.st rtEn_length
theorem CkSt.below {W wr w' : World} {g : Nat} {v : Value} {t : Tb} {now : List Rt} (h : CkSt W wr g v t now) (hb : Below wr.heap.size wr w') : CkSt W w' g v t now :=
  ⟨h.tw.below hb, h.st.below hb, held_next h.b hb⟩
theorem CkSt.turn {W wr w' : World} {g : Nat} {v : Value} {t t' : Tb} {now : List Rt} (h : CkSt W wr g v t now) (ht : TwF w' g (fun z => (W.heap.size ≤ z ∧ v.ownBlock ≠ some z) ∨ wr.heap.size ≤ z) t') (hc : Chg (fun z => W.heap.size ≤ z ∧ v.ownBlock ≠ some z) wr w') : CkSt W w' g v t' now :=
  ⟨ht.mono fun z _ hz => by
      rcases hz with hz | hz
      · exact hz
      · refine ⟨Nat.le_trans h.b.size hz, fun e => ?_⟩
        have := (Owns.base_le h.st z e).2
        omega,
    Owns.chg h.st hc (fun z hz hn => hn.2 hz), h.b.trans (hc.below h.b.size fun z hz hn => by omega)⟩
theorem CkSt.turn' {W wr w' : World} {g : Nat} {v : Value} {t t' : Tb} {now : List Rt} (h : CkSt W wr g v t now) (ht : TwF w' g (fun z => W.heap.size ≤ z ∧ v.ownBlock ≠ some z) t') (hc : Chg (fun z => W.heap.size ≤ z ∧ v.ownBlock ≠ some z) wr w') : CkSt W w' g v t' now :=
  h.turn (ht.mono fun z _ hz => .inl hz) hc
theorem CkSt.list {W wr w' : World} {g : Nat} {v v' : Value} {t : Tb} {now now' : List Rt} (h : CkSt W wr g v t now) (hO : OwnRts wr now' w' v') (hb : Below wr.heap.size wr w') : CkSt W w' g v' t now' :=
  ⟨(h.tw.mono (G := fun z => W.heap.size ≤ z ∧ v'.ownBlock ≠ some z) fun z hz hF => ⟨hF.1, fun e => by have := (Owns.base_le hO z e).1; omega⟩).below hb, Owns.lower hO h.b.size, held_next h.b hb⟩

theorem findI_has (l : List Rt) (p : Pf) : decide (0 ≤ findI l p) = decide (∃ r ∈ l, r.1 = p) := by
  rw [decide_eq_decide]
  unfold findI
  cases h : l.findIdx? (fun r => decide (r.1 = p)) with
  | none =>
    rw [List.findIdx?_eq_none_iff] at h
    simp only
    constructor
    · intro h; omega
    · rintro ⟨r, hr, e⟩; have := h r hr; simp [e] at this
  | some k =>
    simp only
    constructor
    · intro _
      rw [List.findIdx?_eq_some_iff_getElem] at h
      obtain ⟨hk, h1, _⟩ := h
      exact ⟨l[k], List.getElem_mem _, by simpa using h1⟩
    · intro _; omega
theorem at_len12 (t : Tb) (p : Pf) : 1 ≤ (atT t p).length ∧ (atT t p).length ≤ 2 := by unfold atT; split <;> simp

theorem cuckooKeeps_out (W : World) (s : Nat) (n : Int) (A1 : Option Addr) (c1 m : Nat) (h1 : m ≤ c1) (hc1 : c1 ≤ maxLen) (h : n < 1 ∨ 40 < n ∨ 200 < m) :
    Calls Try.prog 10 #[.int .u64 (s : Int), .int .i64 n, .slice A1 m c1] W fun e W' => e = .returned (.bool true) ∧ Below W.heap.size W W' := by
  unfold maxLen at hc1
  have hm : (200 : Int) < m ∨ ¬ (200 : Int) < m := by omega
  have h' : n < 1 ∨ ¬ n < 1 ∧ 40 < n ∨ ¬ n < 1 ∧ ¬ 40 < n ∧ 200 < (m : Int) := by omega
  clear h hm
  rcases h' with h' | ⟨h2, h'⟩ | ⟨h2, h3, h'⟩
  all_goals
    go_enter Try.func10, Try.ntmps10
    go_wp2_with fail
    refine (cuckoo_alive _).mono ?_
    rintro e w1 ⟨rfl, hb⟩
    have HB1 := hid hb
    clear hb
    go_wp2_with fail
    go_ret
    exact ⟨by simp, HB1.out⟩

def KpRel (W : World) (g : Nat) (t0 : Tb) (l : List CAct) (vn i : Value) (wr : World) : Prop :=
  ∃ k : Nat, k ≤ l.length ∧ i = .int .i64 k ∧ CkSt W wr g vn (runT t0 (l.take k)) (runL (l.take k))
def KpEnd (w0 : World) (m : Nat) (i : Value) (wr : World) : Prop := ∃ k : Nat, k ≤ m ∧ i = .int .i64 k ∧ Below w0.heap.size w0 wr

set_option maxHeartbeats 8000000 in
theorem cuckooKeeps_in (W : World) (s : Nat) (hs : s < 2 ^ 64) (n : Nat) (hn1 : 1 ≤ n) (hn2 : n ≤ 40) (v1 : Value) (l : List CAct) (R1 : Rd caEn 5 W v1 l) (o1 : ∀ a ∈ l, a.2.2.1.ok) (hl : l.length ≤ 200) :
    Calls Try.prog 10 #[.int .u64 (s : Int), .int .i64 (n : Int), v1] W fun e W' => e = .returned (.bool true) ∧ Below W.heap.size W W' := by
  have HR1 := hid fun k x (h : l[k]? = some x) => R1.get caEn_len (by decide) h
  have O1 := hid fun (k : Nat) (x : CAct) (h : l[k]? = some x) => o1 x (List.mem_of_getElem? h)
  have HRUN := hid (run_ok (newT s n) (newT_ok hs hn1 (by omega)) (newT_rep s n) l o1)
  have HSN := hid fun (k : Nat) (x : CAct) (h : l[k]? = some x) => run_snoc h (newT s n)
  have HN0 := hid (newT_n s n)
  obtain ⟨A1, k1, rfl, n1, m1⟩ := R1.form
  unfold maxLen at m1
  obtain ⟨N, hN1⟩ : ∃ N, l.length = N := ⟨_, rfl⟩
  have HN1 := hid hN1
  rw [hN1] at n1 hl ⊢
  have cnew := hid fun w => ck_new w s n hn1 (by omega)
  have H0 := hid (show CkSt W W 0 (.slice none 0 0) (newT s n) [] → True from fun _ => trivial)
  clear R1 o1 hN1 hs H0
  generalize newT s n = t0 at *
  have d1 : ¬ ((n : Int) < 1) := by omega
  have d2 : ¬ (40 < (n : Int)) := by omega
  have d3 : ¬ (200 < (N : Int)) := by omega
  go_enter Try.func10, Try.ntmps10
  go_wp2_with fail
  refine (cuckoo_alive _).mono ?_
  rintro e w1 ⟨rfl, hb⟩
  have HB1 := hid hb
  clear hb
  go_wp2_with fail
  refine (cnew.out _).mono ?_
  rintro _ w2 ⟨g, rfl, hg, hb2, q, hT, hq⟩
  have hW1 := HB1.out.size
  have HS := hid (show CkSt W w2 g (.slice none 0 0) t0 [] from ⟨⟨q, _, hT, ⟨by omega, by simp [Value.ownBlock]⟩, ⟨by omega, by simp [Value.ownBlock]⟩, fun z hz => by simp [Value.ownBlock] at hz⟩, Owns.nil _ _ _ _, held_next HB1.out hb2⟩)
  clear hT hq hb2 HB1 cnew
  go_wp2_with fail
  refine (law12_num _ _).mono ?_
  rintro _ w3 ⟨rfl, rfl⟩
  go_wp2_with fail
  go_loopw [10, 11] (fun vn i wr => KpRel W g t0 l vn i wr) (fun _ i _ => N - (intOf i).toNat)
  case atStart => exact ⟨0, Nat.zero_le _, rfl, HS.out⟩
  case round =>
    clear HS
    obtain ⟨k, hk, rfl, hS⟩ := hrel
    rw [HN1.out] at hk
    have HRK := hid (HRUN.out k (by rw [HN1.out]; exact hk))
    by_cases h1 : k < N
    · obtain ⟨x, hx⟩ : ∃ x, l[k]? = some x := ⟨_, List.getElem?_eq_getElem (by rw [HN1.out]; exact h1)⟩
      obtain ⟨sn1, sn2⟩ := HSN.out k x hx
      have SN1 := hid sn1
      have SN2 := hid sn2
      have HRK1 := hid (HRUN.out (k + 1) (by rw [HN1.out]; exact h1))
      generalize runT t0 (l.take k) = t at *
      generalize runL (l.take k) = now at *
      obtain ⟨ba, oa, ca, hv, _, _, la, sa⟩ := HR1.out k x hx
      injection hv with hA hxx hc
      subst hA hc
      have HC := hid (show ∀ w, Below W.heap.size W w → w.cell? ⟨ba, oa + k * 5, none⟩ = some (.int .i64 x.1) ∧ w.cell? ⟨ba, oa + k * 5 + 1, none⟩ = some (.int .i64 x.2.1) ∧ w.cell? ⟨ba, oa + k * 5 + 2, none⟩ = some (.int .u64 (x.2.2.1.1 : Int)) ∧ w.cell? ⟨ba, oa + k * 5 + 2 + 1, none⟩ = some (.int .u64 (x.2.2.1.2 : Int)) ∧ w.cell? ⟨ba, oa + k * 5 + 2 + 2, none⟩ = some (.int .i64 x.2.2.2) from fun w h =>
        ⟨(h.cell (p := ⟨ba, oa + k * 5, none⟩) la).trans (sa 0 _ rfl), (h.cell (p := ⟨ba, oa + k * 5 + 1, none⟩) la).trans (sa 1 _ rfl), (h.cell (p := ⟨ba, oa + k * 5 + 2, none⟩) la).trans (sa 2 _ rfl), (h.cell (p := ⟨ba, oa + k * 5 + 3, none⟩) la).trans (sa 3 _ rfl), (h.cell (p := ⟨ba, oa + k * 5 + 4, none⟩) la).trans (sa 4 _ rfl)⟩)
      have HS := hid hS
      have hst := hS.st
      obtain ⟨An, cn, hvn, hnl, hncm, _⟩ := Owns.form hst
      unfold maxLen at hncm
      have hnk := HRK.out.len
      obtain ⟨y0, y1, y2, y3, y4⟩ := HC.out _ HS.out.b
      have xok := hid (O1.out k x hx)
      clear sa hxx hx hS hst sn1 sn2
      have hkl := HRK.out.rep.len
      have hsl := st_le t
      have hst8 : t.st.length ≤ 100000000 := by omega
      by_cases hw : x.1 = 1
      · have HW := hid hw
        have HST' := hid (show stepT t x = delT t x.2.2 from if_pos hw)
        have HSL' := hid (show stepL now x = withoutL now x.2.2 from if_pos hw)
        have cD := hid (ck_delete (HS.out.tw.below (Below.refl wr.heap.size wr).drew) HRK.out.ok hst8 x.2.2 xok.out)
        have hfi := findI_has now x.2.2
        have HHD := hid (HRK.out.rep.has x.2.2)
        obtain ⟨D, hD⟩ : ∃ D, hasT t x.2.2 = D := ⟨_, rfl⟩
        have HDD := hid hD
        rw [hD] at cD
        rw [← HHD.out, hD] at hfi
        have HFI := hid hfi
        clear hfi hD HHD
        rw [hw] at y0
        generalize hvl : (x.2.2) = p at *
        obtain ⟨⟨p1, p2⟩, p3⟩ := p
        simp only at y2 y3 y4 cD xok HC
        subst hvn
        obtain ⟨f, hf⟩ : ∃ f, findI now ((p1, p2), p3) = f := ⟨_, rfl⟩
        have HF := hid hf
        have hff := HFI.out
        rw [hf] at hff
        clear hf
        go_wp2_with fail
        go_region_held3 (fun w' => w'.cell? ⟨ba, oa + k * 5 + 2, none⟩ = some (.int .u64 (p1 : Int)) ∧ w'.cell? ⟨ba, oa + k * 5 + 2 + 1, none⟩ = some (.int .u64 (p2 : Int)) ∧ w'.cell? ⟨ba, oa + k * 5 + 2 + 2, none⟩ = some (.int .i64 p3)) (first | go_keep | (refine ⟨?_, ?_, ?_⟩ <;> assumption))
          (first
            | (with_reducible refine cD.out.mono ?_
               rintro _ w4 ⟨rfl, hT4, hC4⟩
               have HS4 := hid (HS.out.turn' hT4 ((Chg.refl _ wr).drew.trans' hC4))
               obtain ⟨u0, u1, u2, u3, u4⟩ := HC.out _ HS4.out.b)
            | (with_reducible refine (ref_find _ _ _ HS4.out.rd ((p1, p2), p3)).mono ?_
               rintro _ w5 ⟨rfl, hb5⟩
               rw [HF.out]
               have HS5 := hid (HS4.out.below hb5)
               obtain ⟨t0', t1, t2, t3, t4⟩ := HC.out _ HS5.out.b))
        go_wp2_with fail
        refine (ref_without _ _ now HS5.out.rd (by omega) ((p1, p2), p3)).mono ?_
        rintro _ w6 ⟨v6, rfl, hO6, hb6⟩
        have HS6 := hid (HS5.out.list hO6 hb6)
        obtain ⟨A6, c6, hv6, _, hm6, _⟩ := Owns.form hO6
        unfold maxLen at hm6
        subst hv6
        have hx' : x.2.2 = ((p1, p2), p3) := hvl
        rw [SN1.out, SN2.out] at HRK1
        rw [HST'.out, HSL'.out] at HRK1
        have hlen6 := HRK1.out.rep.len
        have hlk6 := HRK1.out.len
        have cL := hid (ck_len HS6.out.tw HRK1.out.ok (by omega))
        rw [hlen6] at cL
        clear hO6 hb6 HS5 HS4 HS cD y0 y1 y2 y3 y4 u0 u1 u2 u3 u4 t0' t1 t2 t3 t4 hx' hT4 hC4 hb5
        go_wp2_with fail
        refine cL.out.mono ?_
        rintro _ w7 ⟨rfl, hb7⟩
        have HS7 := hid (HS6.out.below hb7)
        clear hb7 cL HS6
        go_wp2_with fail
        go_roundw
        case rel => exact ⟨k + 1, by rw [HN1.out]; omega, by go_num, by rw [SN1.out, SN2.out, HST'.out, HSL'.out]; exact HS7.out⟩
        case measure => simp [intOf]; omega
      · have HST' := hid (show stepT t x = putT 16 t x.2.2 x.2.1 from if_neg hw)
        have HSL' := hid (show stepL now x = intoL now (x.2.2, x.2.1) from if_neg hw)
        have cP := hid (ck_put16 (HS.out.tw.below (Below.refl wr.heap.size wr).drew) HRK.out.ok (by omega) x.2.2 xok.out x.2.1)
        generalize hvl : (x.2.2) = p at *
        generalize hvv : (x.2.1) = val at *
        obtain ⟨⟨p1, p2⟩, p3⟩ := p
        simp only at y2 y3 y4 cP xok HC
        subst hvn
        go_wp2_with fail
        go_region_held3 (fun w' => w'.cell? ⟨ba, oa + k * 5 + 1, none⟩ = some (.int .i64 val) ∧ w'.cell? ⟨ba, oa + k * 5 + 2, none⟩ = some (.int .u64 (p1 : Int)) ∧ w'.cell? ⟨ba, oa + k * 5 + 2 + 1, none⟩ = some (.int .u64 (p2 : Int)) ∧ w'.cell? ⟨ba, oa + k * 5 + 2 + 2, none⟩ = some (.int .i64 p3)) (first | go_keep | (refine ⟨?_, ?_, ?_, ?_⟩ <;> assumption))
          (first
            | (with_reducible refine cP.out.mono ?_
               rintro _ w4 ⟨rfl, hT4, hC4⟩
               have HS4 := hid (HS.out.turn (hT4.mono fun z _ hz => by simpa using hz) ((Chg.refl _ wr).drew.trans' hC4))
               obtain ⟨u0, u1, u2, u3, u4⟩ := HC.out _ HS4.out.b))
        go_wp2_with fail
        have cI := hid (ref_into w4.drew _ now (HS4.out.below (Below.refl w4.heap.size w4).drew).rd (by omega) (((p1, p2), p3), val))
        have v0 : w4.drew.cell? ⟨ba, oa + k * 5 + 1, none⟩ = some (.int .i64 val) := u1
        have v1 : w4.drew.cell? ⟨ba, oa + k * 5 + 2, none⟩ = some (.int .u64 (p1 : Int)) := u2
        have v2 : w4.drew.cell? ⟨ba, oa + k * 5 + 2 + 1, none⟩ = some (.int .u64 (p2 : Int)) := u3
        have v3 : w4.drew.cell? ⟨ba, oa + k * 5 + 2 + 2, none⟩ = some (.int .i64 p3) := u4
        go_region_held3 (fun w' => w'.cell? ⟨ba, oa + k * 5 + 1, none⟩ = some (.int .i64 val) ∧ w'.cell? ⟨ba, oa + k * 5 + 2, none⟩ = some (.int .u64 (p1 : Int)) ∧ w'.cell? ⟨ba, oa + k * 5 + 2 + 1, none⟩ = some (.int .u64 (p2 : Int)) ∧ w'.cell? ⟨ba, oa + k * 5 + 2 + 2, none⟩ = some (.int .i64 p3)) (first | go_keep | (refine ⟨?_, ?_, ?_, ?_⟩ <;> assumption))
          (first
            | (with_reducible refine cI.out.mono ?_
               rintro _ w6 ⟨v6, rfl, hO6, hb6⟩
               have HS6 := hid (HS4.out.list (show OwnRts w4 _ w6 v6 from hO6) (show Below w4.heap.size w4 w6 from (Below.refl w4.heap.size w4).drew.trans hb6))
               obtain ⟨t0', t1, t2, t3, t4⟩ := HC.out _ HS6.out.b))
        obtain ⟨A6, c6, hv6, _, hm6, _⟩ := Owns.form HS6.out.st
        unfold maxLen at hm6
        subst hv6
        rw [SN1.out, SN2.out] at HRK1
        rw [HST'.out, HSL'.out] at HRK1
        have hlen6 := HRK1.out.rep.len
        have hlk6 := HRK1.out.len
        have cL := hid (ck_len HS6.out.tw HRK1.out.ok (by omega))
        rw [hlen6] at cL
        clear hO6 hb6 HS4 HS cP cI y0 y1 y2 y3 y4 u0 u1 u2 u3 u4 t0' t1 t2 t3 t4 v0 v1 v2 v3 hT4 hC4
        go_wp2_with fail
        refine cL.out.mono ?_
        rintro _ w7 ⟨rfl, hb7⟩
        have HS7 := hid (HS6.out.below hb7)
        clear hb7 cL HS6
        go_wp2_with fail
        go_roundw
        case rel => exact ⟨k + 1, by rw [HN1.out]; omega, by go_num, by rw [SN1.out, SN2.out, HST'.out, HSL'.out]; exact HS7.out⟩
        case measure => simp [intOf]; omega
    · have hkN : k = N := by omega
      subst hkN
      clear h1
      have HRK2 := hid (show RunOk t0 k (runT t0 (l.take k)) (runL (l.take k)) from HRK.out)
      generalize runT t0 (l.take k) = t at *
      generalize runL (l.take k) = now at *
      have hlen := HRK2.out.rep.len
      have hlk := HRK2.out.len
      have hsl := st_le t
      obtain ⟨An, cn, hvn, hnl, hncm, _⟩ := Owns.form hS.st
      unfold maxLen at hncm
      have HS := hid hS
      obtain ⟨m, hm⟩ : ∃ m, now.length = m := ⟨_, rfl⟩
      have HM := hid hm
      subst hvn
      rw [hm] at HS hnl hlen hlk ⊢
      clear hS hm
      have HO := hid HRK2.out.ok
      have HRD := hid HS.out.rd
      have H0 := hid HS.out.b
      go_wp2_with fail
      go_loopw [12] (fun i w' => KpEnd wr m i w') (fun i _ => m - (intOf i).toNat)
      case atStart => exact ⟨0, Nat.zero_le _, rfl, Below.refl _ _⟩
      case round =>
        obtain ⟨j, hj, rfl, hbr⟩ := hrel
        have HS2 := hid (HS.out.below hbr)
        have HBR := hid hbr
        clear hbr
        by_cases hjm : j < m
        · obtain ⟨x, hx⟩ : ∃ x, now[j]? = some x := ⟨_, List.getElem?_eq_getElem (by rw [HM.out]; exact hjm)⟩
          obtain ⟨ba, oa, ca, hv, _, _, la, sa⟩ := HS2.out.rd.get rtEn_length (by decide) hx
          rw [HM.out] at hv
          injection hv with hA hxx hc
          subst hA hc
          have z0 := sa 0 _ rfl
          have z1 := sa 1 _ rfl
          have z2 := sa 2 _ rfl
          have z3 := sa 3 _ rfl
          have hok := HO.out.ok x (keysT_mem.2 (HRK2.out.rep.mem.2 (List.mem_of_getElem? hx)))
          have hval := HRK2.out.rep.val HO.out (p := x.1) (u := x.2) (List.mem_of_getElem? hx)
          have cG := ck_get HS2.out.tw HO.out (by omega) x.1 hok
          unfold CkGet at cG
          rw [hval.1, hval.2] at cG
          have CG := hid cG
          have HL12 := hid (at_len12 t x.1)
          obtain ⟨⟨⟨x1, x2⟩, x3⟩, x4⟩ := x
          simp only [Nat.add_zero] at z0 z1 z2 z3 CG
          clear sa hxx hx hok hval cG
          go_wp2_with fail
          refine CG.out.mono ?_
          rintro _ w7 ⟨u, rfl, hU, hb7⟩
          obtain ⟨Au, cu, hu, _, _, _⟩ := Owns.form hU
          subst hu
          have hl1 := HL12.out
          generalize (atT t ((x1, x2), x3)).length = la at *
          obtain ⟨hl1, hl2⟩ := hl1
          have hla1 : ¬ ((la : Int) < 1) := by omega
          have hla2 : ¬ (2 < (la : Int)) := by omega
          have z4 := (hb7.cell (p := ⟨ba, oa + j * 4 + 3, none⟩) (World.block_lt_of_cell? _ _ z3)).trans z3
          have HB7 := hid (held_next HBR.out hb7)
          clear hU hb7 CG z0 z1 z2 z3
          go_wp2_with fail
          go_roundw
          case rel => exact ⟨j + 1, by omega, by go_num, HB7.out⟩
          case measure => simp [intOf]; omega
        · have hjm' : j = m := by omega
          subst hjm'
          have cZ := hid (ck_size HS2.out.tw)
          have hnn := HRK2.out.n
          rw [HN0.out] at hnn
          obtain ⟨tn, htn⟩ : ∃ z, t.n = z := ⟨_, rfl⟩
          have HTN := hid htn
          rw [htn] at hnn cZ
          obtain ⟨ts, hts⟩ : ∃ z, t.st.length = z := ⟨_, rfl⟩
          have HTS := hid hts
          rw [hts] at cZ
          have hn4 : (n : Int) ≤ (tn : Int) := by omega
          have hn5 : (0 : Int) ≤ (ts : Int) := by omega
          clear htn hts
          go_wp2_with fail
          refine cZ.out.mono ?_
          rintro _ w8 ⟨rfl, hb8⟩
          have HS8 := hid (HS2.out.below hb8)
          have cA := hid (ck_all HS8.out.tw HO.out (by rw [HRK2.out.rep.len, HM.out]; omega) now HRK2.out.rep)
          clear hb8 cZ
          go_wp2_with fail
          refine cA.out.mono ?_
          rintro _ w9 ⟨v9, rfl, hO9, hb9⟩
          have HS9 := hid (HS8.out.below hb9)
          have hR9 := hO9.rd
          have cS := ref_sameRts w9 _ _ now now hR9 HS9.out.rd true (by simp)
          obtain ⟨A9, c9, hv9⟩ := hO9.form
          subst hv9
          rw [HM.out] at cS ⊢
          have CS := hid cS
          clear hO9 hb9 cA hR9 cS
          go_wp2_with fail
          refine CS.out.mono ?_
          rintro _ w10 ⟨rfl, hb10⟩
          have HBF := hid (held_next HS9.out.b hb10)
          clear hb10 CS
          go_wp2_with fail
          go_ret
          exact ⟨by simp, HBF.out⟩
theorem cuckooKeeps_walk (W : World) (s : Int) (ws : (Lit.int .u64 s).wf = true) (n : Int) (wn : (Lit.int .i64 n).wf = true) (v1 : Value) (l : List CAct) (R1 : Rd caEn 5 W v1 l) (o1 : ∀ a ∈ l, CAct.fit a) :
    Calls Try.prog 10 #[.int .u64 s, .int .i64 n, v1] W fun e W' => e = .returned (.bool true) ∧ Below W.heap.size W W' := by
  have hs := wf_u64 ws
  obtain ⟨z, rfl⟩ := Int.eq_ofNat_of_zero_le hs.1
  by_cases h : n < 1 ∨ 40 < n ∨ 200 < l.length
  · obtain ⟨A, c, rfl, h1, h2⟩ := R1.form
    exact cuckooKeeps_out W z n A c _ h1 h2 h
  · obtain ⟨m, rfl⟩ := Int.eq_ofNat_of_zero_le (show 0 ≤ n by omega)
    exact cuckooKeeps_in W z (by omega) m (by omega) (by omega) v1 l R1 (fun a ha => (o1 a ha).1) (by omega)

end Go.Proofs.Ytpjjijhojcfmnaa
