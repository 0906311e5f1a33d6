/-
  A trie that holds routes in order: what its calls answer and leave. No condition but that there are fewer than 10^6 of them.
-/
import Derived.Test.YtcnecjjgnnkjkaaTrieAll
namespace Go.Proofs.Ytcnecjjgnnkjkaa
open Go.RowKit
set_option linter.unusedVariables false
set_option linter.unusedSimpArgs false

/-- The trie at block g holds the routes R; its blocks are in F. -/
def TrR (w : World) (g : Nat) (F : Nat → Prop) (R : List Rt) : Prop := Srt R ∧ ∃ FT N, TrieN w g FT N (mapOf R) (R.length : Int) ∧ ∀ z, FT z → F z
theorem TrR.srt {w : World} {g : Nat} {F : Nat → Prop} {R : List Rt} (h : TrR w g F R) : Srt R := h.1
theorem TrR.chg {w w' : World} {g : Nat} {F S : Nat → Prop} {R : List Rt} (h : TrR w g F R) (k : Chg S w w') (hS : ∀ z, F z → ¬ S z) : TrR w' g F R :=
  ⟨h.1, let ⟨FT, N, H, hf⟩ := h.2; ⟨FT, N, H.chg k (fun b hb => hS b (hf b hb)), hf⟩⟩
theorem TrR.below {w w' : World} {g : Nat} {F : Nat → Prop} {R : List Rt} (h : TrR w g F R) (k : Below w.heap.size w w') : TrR w' g F R := h.chg (Chg.of_below k fun _ => False) fun _ _ h => h
theorem TrR.mono {w : World} {g : Nat} {F G : Nat → Prop} {R : List Rt} (h : TrR w g F R) (hs : ∀ z, z < w.heap.size → F z → G z) : TrR w g G R :=
  ⟨h.1, let ⟨FT, N, H, hf⟩ := h.2; ⟨FT, N, H, fun z hz => hs z (H.lt z hz) (hf z hz)⟩⟩
theorem TrR.rootF {w : World} {g : Nat} {F : Nat → Prop} {R : List Rt} (h : TrR w g F R) : F g ∧ g < w.heap.size := let ⟨FT, N, H, hf⟩ := h.2; ⟨hf g H.rootF, H.lt g H.rootF⟩
theorem TrR.next {w w' : World} {g : Nat} {F FT : Nat → Prop} {R : List Rt} {m : Ad → Nat → Option Int} {n : Int} (h : TrieNext w g FT m n w') (hs : Srt R) (hm : m = mapOf R) (hn : n = (R.length : Int)) (hf : ∀ z, FT z → F z) : TrR w' g (fun z => F z ∨ w.heap.size ≤ z) R ∧ Chg F w w' := by
  subst hm hn
  obtain ⟨F', N', H, hC, hF'⟩ := h
  exact ⟨⟨hs, F', N', H, fun z hz => (hF' z hz).imp (hf z) id⟩, hC.mono fun i _ hi => hf i hi⟩
theorem trr_new (w : World) : TrR (w.alloc (.cells #[.bool false, .int .i64 0, .pointer none, .pointer none, .int .i64 0] 76)) w.heap.size (fun z => z = w.heap.size) [] :=
  ⟨Srt.nil, _, _, TrieN.new w, fun z hz => hz⟩
theorem trr_get {w : World} {g : Nat} {F : Nat → Prop} {R : List Rt} (h : TrR w g F R) (p : Pf) (hp : p.1.ok) :
    Calls Try.prog 36 #[.pointer (some ⟨g, 0, none⟩), .agg #[.int .u64 (p.1.1 : Int), .int .u64 (p.1.2 : Int), .int .i64 p.2]] w (GetPost w (getV (mapOf R) p)) :=
  let ⟨FT, N, H, hf⟩ := h.2; trie_get H p hp
theorem trr_len {w : World} {g : Nat} {F : Nat → Prop} {R : List Rt} (h : TrR w g F R) :
    Calls Try.prog 48 #[.pointer (some ⟨g, 0, none⟩)] w fun e w' => e = .returned (.int .i64 (R.length : Int)) ∧ w = w' :=
  let ⟨FT, N, H, hf⟩ := h.2; trie_len H
def TrRNext (w : World) (g : Nat) (F : Nat → Prop) (R : List Rt) (v : Option Int) (e : Ending) (w' : World) : Prop :=
  e = .returned (.tuple #[.int .i64 (v.getD 0), .bool v.isSome]) ∧ TrR w' g (fun z => F z ∨ w.heap.size ≤ z) R ∧ Chg F w w'
theorem trr_delete {w : World} {g : Nat} {F : Nat → Prop} {R : List Rt} (h : TrR w g F R) (hl : R.length ≤ 1000000) (p : Pf) (hp : p.1.ok) :
    Calls Try.prog 53 #[.pointer (some ⟨g, 0, none⟩), .agg #[.int .u64 (p.1.1 : Int), .int .u64 (p.1.2 : Int), .int .i64 p.2]] w (TrRNext w g F (withoutL R p) (getV (mapOf R) p)) := by
  obtain ⟨hs, FT, N, H, hf⟩ := h
  refine (trie_delete H (by omega) (by omega) p hp).mono fun e w' ⟨he, hn⟩ => ⟨he, ?_⟩
  have hm := hs.without_map p
  exact TrR.next hn (hs.without p) hm.1 hm.2 hf
theorem trr_put {w : World} {g : Nat} {F : Nat → Prop} {R : List Rt} (h : TrR w g F R) (hl : R.length ≤ 1000000) (p : Pf) (hp : p.1.ok) (hr : p.right) (hop : Int) :
    Calls Try.prog 55 #[.pointer (some ⟨g, 0, none⟩), .agg #[.int .u64 (p.1.1 : Int), .int .u64 (p.1.2 : Int), .int .i64 p.2], .int .i64 hop] w (TrRNext w g F (intoL R (p, hop)) (getV (mapOf R) p)) := by
  obtain ⟨hs, FT, N, H, hf⟩ := h
  refine (trie_put H (by omega) (by omega) p hp hop).mono fun e w' ⟨he, hn⟩ => ⟨he, ?_⟩
  have hm := hs.into_map hop hp hr
  exact TrR.next hn (hs.into (r := (p, hop)) ⟨hp, hr⟩) hm.1 hm.2 hf
theorem Srt.says {R : List Rt} (h : Srt R) : Says (mapOf R) R := fun c k v =>
  ⟨fun e => ⟨(h.map c k v).1 e, (h.ok _ ((h.map c k v).1 e)).2⟩, fun e => (h.map c k v).2 e.1⟩
theorem Srt.all {R : List Rt} (h : Srt R) : (R.filter fun r => decide r.1.right) = R := List.filter_eq_self.2 fun r hr => decide_eq_true (h.ok r hr).2
theorem trr_all {w : World} {g : Nat} {F : Nat → Prop} {R : List Rt} (h : TrR w g F R) (hl : R.length ≤ 1000000) :
    Calls Try.prog 44 #[.pointer (some ⟨g, 0, none⟩)] w (RetRts w R) := by
  obtain ⟨hs, FT, N, H, hf⟩ := h
  have := trie_all H R hs.ord hs.says (fun r hr => (hs.ok r hr).1) hl
  rwa [hs.all] at this
/-- Routes with one taken out, or put in. -/
theorem without_perm' {l : List Rt} (hs : Srt l) {p : Pf} {u : Int} (h : (p, u) ∈ l) : l.Perm ((p, u) :: withoutL l p) := by
  have hone := fun (x : Rt) (hx : x ∈ l) (e : x.1 = p) => hs.one hx h e
  have hnd : l.Nodup := hs.ord.imp (fun {a b} h e => by subst e; exact pf_lt_irrefl _ h)
  clear hs
  induction l with
  | nil => simp at h
  | cons x l ih =>
    unfold withoutL
    rw [List.filter_cons]
    by_cases e : x.1 = p
    · have hx := hone x (by simp) e
      subst hx
      rw [if_neg (by simp)]
      have hno : ∀ y ∈ l, y.1 ≠ p := fun y hy e2 => by
        have := hone y (by simp [hy]) e2
        subst this
        exact (List.nodup_cons.1 hnd).1 hy
      rw [List.filter_eq_self.2 (fun y hy => decide_eq_true (hno y hy))]
    · rw [if_pos (decide_eq_true e)]
      have hm : (p, u) ∈ l := by
        rcases List.mem_cons.1 h with h | h
        · subst h; exact absurd rfl e
        · exact h
      have := ih hm (fun y hy e2 => hone y (by simp [hy]) e2) (List.nodup_cons.1 hnd).2
      exact (this.cons x).trans (.swap _ _ _)
theorem into_perm' {l : List Rt} (r : Rt) (h : ∀ x ∈ l, x.1 ≠ r.1) : (intoL l r).Perm (r :: l) := by
  induction l with
  | nil => exact .refl _
  | cons x l ih =>
    have hx := h x (by simp)
    unfold intoL
    simp only [hx, if_false, if_neg]
    split
    · exact ((ih fun y hy => h y (by simp [hy])).cons x).trans (.swap _ _ _)
    · exact .refl _
end Go.Proofs.Ytcnecjjgnnkjkaa
