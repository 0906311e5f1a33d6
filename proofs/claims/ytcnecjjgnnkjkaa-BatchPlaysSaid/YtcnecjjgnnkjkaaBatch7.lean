/-
  Package batch: Do: all commands, or none. No condition but that words are words.
-/
import Derived.Test.YtcnecjjgnnkjkaaBatch6
namespace Go.Proofs.Ytcnecjjgnnkjkaa
open Go.RowKit
set_option linter.unusedVariables false
set_option linter.unusedSimpArgs false
set_option maxRecDepth 100000

def DoPost (w : World) (b : Nat) (F : Nat → Prop) (m : Lim) (r : Int × Int × List Rt) (e : Ending) (w' : World) : Prop :=
  e = .returned (.tuple #[.int .i64 r.1, .int .i64 r.2.1]) ∧ (∃ F', (∀ z, F' z → F z ∨ w.heap.size ≤ z) ∧ BookAt w' b F' m r.2.2) ∧ Chg F w w'
set_option maxHeartbeats 4000000 in
theorem book_do {w : World} {b : Nat} {F : Nat → Prop} {m : Lim} {R : List Rt} (H : BookAt w b F m R) (v : Value) (cs : List Cm) (hR : Rd cmEn 10 w v cs) (hok : ∀ c ∈ cs, c.ok) (hlen : cs.length ≤ 50000)
    (hv : ∀ z, v.ownBlock = some z → ¬ F z ∧ z < w.heap.size) :
    Calls Try.prog 24 #[.pointer (some ⟨b, 0, none⟩), v] w (DoPost w b F m (doB m R cs)) := by
  have hmf : ∀ (fn : Fn) (first cap : Array Value) (w : World), (Instr.makeFunc fn first cap).run Try.prog w = .ok (.func fn first cap) w := fun _ _ _ _ => rfl
  obtain ⟨F1, hF1, H'⟩ : ∃ F1 : Nat → Prop, (∀ z, F1 z → F z ∧ z < w.heap.size) ∧ BookAt w b F1 m R := ⟨fun z => F z ∧ z < w.heap.size, fun z h => h, H.mono fun z hl h => ⟨h, hl⟩⟩
  have HF1 := hid hF1
  have HBO := hid H'
  have HR := hid hR
  have HOK := hid hok
  have HV := hid (show ∀ z, v.ownBlock = some z → ¬ F1 z ∧ z < w.heap.size from fun z hz => ⟨fun h => (hv z hz).1 (hF1 z h).1, (hv z hz).2⟩)
  have HLEN := hid hlen
  obtain ⟨A, cap, rfl, _⟩ := hR.form
  obtain ⟨d, hd⟩ : ∃ d, doB m R cs = d := ⟨_, rfl⟩
  have HD := hid hd
  rw [hd]
  clear hd H H' hR hok hlen hv hF1
  go_enter_defers Try.func24, Try.ntmps24
  go_wp2_with fail
  have hbb := ((((Blk.new_at w #[.pointer (some ⟨b, 0, none⟩)] 41 w.heap.size rfl).alloc (.cells #[.int .i64 0] 3)).alloc (.cells #[.int .i64 0] 26)).alloc (.cells #[.slice none 0 0] 60))
  have hab := (((Blk.new_at (w.alloc (.cells #[.pointer (some ⟨b, 0, none⟩)] 41)) #[.int .i64 0] 3 (w.heap.size + 1) (by simp)).alloc (.cells #[.int .i64 0] 26)).alloc (.cells #[.slice none 0 0] 60))
  have heb := ((Blk.new_at ((w.alloc (.cells #[.pointer (some ⟨b, 0, none⟩)] 41)).alloc (.cells #[.int .i64 0] 3)) #[.int .i64 0] 26 (w.heap.size + 1 + 1) (by simp)).alloc (.cells #[.slice none 0 0] 60))
  have hu := Blk.new_at (((w.alloc (.cells #[.pointer (some ⟨b, 0, none⟩)] 41)).alloc (.cells #[.int .i64 0] 3)).alloc (.cells #[.int .i64 0] 26)) #[.slice none 0 0] 60 (w.heap.size + 1 + 1 + 1) (by simp)
  have hb4 : Below w.heap.size w ((((w.alloc (.cells #[.pointer (some ⟨b, 0, none⟩)] 41)).alloc (.cells #[.int .i64 0] 3)).alloc (.cells #[.int .i64 0] 26)).alloc (.cells #[.slice none 0 0] 60)) := ((((Below.refl _ _).alloc (Nat.le_refl _) _).alloc (by simp) _).alloc (by simp; omega) _).alloc (by simp; omega) _
  have hs4 : ((((w.alloc (.cells #[.pointer (some ⟨b, 0, none⟩)] 41)).alloc (.cells #[.int .i64 0] 3)).alloc (.cells #[.int .i64 0] 26)).alloc (.cells #[.slice none 0 0] 60)).heap.size = w.heap.size + 4 := by simp
  generalize ((((w.alloc (.cells #[.pointer (some ⟨b, 0, none⟩)] 41)).alloc (.cells #[.int .i64 0] 3)).alloc (.cells #[.int .i64 0] 26)).alloc (.cells #[.slice none 0 0] 60)) = w4 at *
  have HBB := hid hbb
  have HAB := hid hab
  have HEB := hid heb
  have HU := hid hu
  have HB4 := hid hb4
  have HS4 := hid hs4
  have hnF : ∀ k, w.heap.size ≤ k → ¬ F1 k := fun k hk h => by have := (HF1.out k h).2; omega
  have HNF := hid hnF
  have cA := hid (book_all (HBO.out.below hb4) (.slice A cs.length cap) cs (HR.out.below cmEn_len hb4) HOK.out HLEN.out hu (hnF _ (by omega)) (fun z hz => ⟨(HV.out z hz).1, by have := (HV.out z hz).2; omega⟩))
  clear hbb hab heb hu hb4 hs4 hnF
  refine cA.out.mono ?_
  rintro e w5 ⟨he, ⟨F', hF', hB5, hU5⟩, hC5⟩
  have HF' := hid (fun z hz => (hF' z hz).imp id (fun h => show w.heap.size + 4 ≤ z by have := HS4.out; omega))
  have HB5 := hid hB5
  have HU5 := hid hU5
  have hCb : ∀ k, w.heap.size ≤ k → k < w.heap.size + 3 → ¬ (F1 k ∨ k = w.heap.size + 1 + 1 + 1) := fun k h1 h2 h => h.elim (HNF.out k h1) (fun h => by omega)
  have HBB5 := hid (HBB.out.chg hC5 (hCb _ (by omega) (by omega)))
  have HAB5 := hid (HAB.out.chg hC5 (hCb _ (by omega) (by omega)))
  have HEB5 := hid (HEB.out.chg hC5 (hCb _ (by omega) (by omega)))
  have hcw : Chg F w w5 := (Chg.of_below HB4.out F).trans hC5 (fun z hz h => h.elim (fun h => (HF1.out z h).1) (fun h => by omega))
  have HC5 := hid hcw
  have hs5 := hC5.size
  have hs4 := HS4.out
  have hF'n : ∀ k, w.heap.size ≤ k → k < w.heap.size + 4 → ¬ F' k := fun k h1 h2 h => (HF'.out k h).elim (HNF.out k h1) (fun h => by omega)
  have HFN := hid hF'n
  have hd := HD.out
  unfold doB at hd
  clear HD
  clear hF' hB5 hU5 hC5 hCb hcw cA hF'n
  generalize runB m R cs = run at *
  obtain ⟨o, R'⟩ := run
  cases o with
  | none =>
    simp only at he HB5 hd
    have HD := hid hd
    subst he
    have ya := HAB5.out.cellv (i := 0) rfl
    have yaf := HAB5.out.frozen 0
    have ye := HEB5.out.cellv (i := 0) rfl
    have yef := HEB5.out.frozen 0
    have hc1 := Chg.store w5 (w.heap.size + 1) 0 (.int .i64 (-1))
    have hc2 := Chg.store (w5.setCell ⟨w.heap.size + 1, 0, none⟩ (.int .i64 (-1))) (w.heap.size + 1 + 1) 0 (.int .i64 0)
    have hA9 := (HAB5.out.set 0 (.int .i64 (-1))).set_ne (a := ⟨w.heap.size + 1 + 1, 0, none⟩) (by simp) (.int .i64 0)
    have hE9 := (HEB5.out.set_ne (a := ⟨w.heap.size + 1, 0, none⟩) (by simp) (.int .i64 (-1))).set 0 (.int .i64 0)
    have HB9 := hid ((HB5.out.chg hc1 (fun z _ hz k => HFN.out _ (by omega) (by omega) (k ▸ hz))).chg hc2 (fun z _ hz k => HFN.out _ (by omega) (by omega) (k ▸ hz)))
    have HC9 := hid ((HC5.out.trans hc1 (fun z hz k => by omega)).trans hc2 (fun z hz k => by omega))
    have HA9 := hid (hA9.cellv (i := 0) (v := .int .i64 (-1)) rfl)
    have HE9 := hid (hE9.cellv (i := 0) (v := .int .i64 0) rfl)
    clear hd hc1 hc2 hA9 hE9
    go_wp2_with fail
    refine leaves_cons (f := 39) (args := #[.pointer (some ⟨w.heap.size + 1 + 1 + 1, 0, none⟩), .pointer (some ⟨w.heap.size, 0, none⟩), .pointer (some ⟨w.heap.size + 1, 0, none⟩), .pointer (some ⟨w.heap.size + 1 + 1, 0, none⟩)]) (by simp) (by simp [go_sem]) ?_
    refine (do1_idle _ _ _ _ _).mono ?_
    rintro e u' w'' ⟨rfl, rfl, rfl⟩
    have q1 := HA9.out
    have q2 := HE9.out
    refine ⟨.tuple #[.int .i64 (-1), .int .i64 0], ?_, ?_⟩
    · simp [results, Try.results24, go_sem, q1, q2]
    · rw [← HD.out]
      exact ⟨rfl, ⟨F', fun z hz => (HF'.out z hz).imp (fun h => (HF1.out z h).1) (fun h => by omega), HB9.out⟩, HC9.out⟩
  | some x =>
    obtain ⟨i, er⟩ := x
    simp only at he HB5 HU5 hd
    have HD := hid hd
    subst he
    clear hd
    obtain ⟨vu, U, hub, huo, hbk, hud, hul⟩ := HU5.out.own
    have hown := fun z hz => (huo.base_le z hz)
    have cD := hid (do1_panicking HB5.out hub huo hbk HBB5.out _ _ HAB5.out HEB5.out ⟨HFN.out _ (by omega) (by omega), HFN.out _ (by omega) (by omega), HFN.out _ (by omega) (by omega), HFN.out _ (by omega) (by omega), fun z hz => (hud z hz).1⟩ ⟨by omega, by omega, by omega, by omega, by omega⟩ hul i er)
    clear hub huo hbk hud hul hown
    go_wp2_with fail
    refine leaves_cons (f := 39) (args := #[.pointer (some ⟨w.heap.size + 1 + 1 + 1, 0, none⟩), .pointer (some ⟨w.heap.size, 0, none⟩), .pointer (some ⟨w.heap.size + 1, 0, none⟩), .pointer (some ⟨w.heap.size + 1 + 1, 0, none⟩)]) (by simp) (by simp [go_sem]) ?_
    refine cD.out.mono ?_
    rintro e u' w'' ⟨rfl, rfl, hA, hE, ⟨F9, hF9, hB9⟩, hC9⟩
    have q1 := hA.cellv (i := 0) rfl
    have q2 := hE.cellv (i := 0) rfl
    refine ⟨.tuple #[.int .i64 (i : Int), .int .i64 er], ?_, ?_⟩
    · simp [results, Try.results24, go_sem, q1, q2]
    · rw [← HD.out]
      refine ⟨rfl, ⟨F9, fun z hz => ?_, hB9⟩, HC5.out.trans hC9 (fun z hz k => ?_)⟩
      · rcases hF9 z hz with h | h
        · exact (HF'.out z h).imp (fun h => (HF1.out z h).1) (fun h => by omega)
        · exact .inr (by omega)
      · rcases k with k | k | k
        · exact (HF'.out z k).elim (fun h => (HF1.out z h).1) (fun h => by omega)
        · omega
        · omega
end Go.Proofs.Ytcnecjjgnnkjkaa
