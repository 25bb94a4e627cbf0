/- References: those that are owned. -/
import Derived.Test.YtijiffgfodlepaaU
import Derived.Maps.AppendAt
import Derived.OwnWalkIn
namespace Go.Proofs.Ytijiffgfodlepaa
open Go.RowKit Go.Shelf Go.MapKept
attribute [local go_sem] Oper.semAt_some

theorem own_block {W W' : World} {row : Option Nat} {k t : Nat} {c : Array Value} {f : Nat × Nat} (h : W.heap[k]? = some (.cells c t f)) (hg : W.grownBy W' row) (hr : ∀ r, row = some r → ∃ o : Obj, W.heap[r]? = some o ∧ o.isCells = false) :
    W'.heap[k]? = some (.cells c t f) := by
  rw [hg.block k (lt_of_block h) (fun e => by
    obtain ⟨o, ho, hc⟩ := hr k e.symm
    rw [h] at ho
    cases ho
    cases hc)]
  exact h

theorem row_apart {W : World} {base e size n k t : Nat} {v : Value} {xs : List Value} {c : Array Value} {f : Nat × Nat} (h : W.ownsRow base e size v n xs) (hk : W.heap[k]? = some (.cells c t f)) (ht : t ≠ e) : some k ≠ v.ownBlock := by
  intro he
  rcases h.2 with ⟨rfl, _⟩ | ⟨g, cap, cur, rfl, _, h4, _⟩
  · cases he
  · simp only [Value.ownBlock, Option.some.injEq] at he
    subst he
    rw [h4] at hk
    simp only [Option.some.injEq, Obj.cells.injEq] at hk
    exact ht hk.2.1.symm

theorem own_row {W W' : World} {row : Option Nat} {base e size n : Nat} {v : Value} {xs : List Value} (h : W.ownsRow base e size v n xs) (hg : W.grownBy W' row) (hr : ∀ r, row = some r → ∃ o : Obj, W.heap[r]? = some o ∧ o.isCells = false) : W'.ownsRow base e size v n xs := by
  obtain ⟨h1, h2⟩ := h
  refine ⟨h1, ?_⟩
  rcases h2 with h2 | ⟨g, cap, cur, rfl, h3, h4, h5⟩
  · exact .inl h2
  · exact .inr ⟨g, cap, cur, rfl, h3, own_block h4 hg hr, h5⟩

theorem IsR.own {W W' : World} {row : Option Nat} {R base : Nat} {v : Value} {l : List Rf} (h : IsR W R base v l) (hg : W.grownBy W' row) (hr : ∀ r, row = some r → ∃ o : Obj, W.heap[r]? = some o ∧ o.isCells = false) : IsR W' R base v l :=
  ⟨own_block h.bl hg hr, own_row h.row hg hr, h.ge⟩

theorem IsR.reads {W : World} {R base : Nat} {ad : Option Addr} {cap : Nat} {l : List Rf} (h : IsR W R base (.slice ad l.length cap) l) {br bk : Nat} {kd : Int} (h1 : W.heap[br]? = some (.cells #[.pointer (some ⟨R, 0, none⟩)] 24 (0, 0)))
    (h2 : W.heap[bk]? = some (.cells #[.int .u8 kd] 5 (0, 0))) (pre : List Nat) : Reads br bk R kd ad cap l pre W := by
  refine ⟨cell_of_block h1 rfl, cell_of_block h2 rfl, cell_of_block h.bl rfl, fun i x hx _ => ?_⟩
  obtain ⟨A, cap', e, _, _, _, c0, c1, c2, _⟩ := h.at hx
  simp only [Value.slice.injEq] at e
  exact ⟨A, e.1, c0, c1, c2⟩

set_option maxHeartbeats 400000 in
theorem are_in (F : Fence) (n : Nat) (h22 : F.fn 22) (hro : F.round = none) (R : Nat) (kd : Int) (w : World) :
    CallsIn F n Try.prog 22 #[.pointer (some ⟨R, 0, none⟩), .int .u8 kd] w fun e w' =>
      e = .returned (.func (.func 29) #[] #[.pointer (some ⟨w.heap.size, 0, none⟩), .pointer (some ⟨w.heap.size + 1, 0, none⟩)]) ∧ w' = (w.alloc (.cells #[.pointer (some ⟨R, 0, none⟩)] 24)).alloc (.cells #[.int .u8 kd] 5) := by
  refine callsIn_of_wp Try.func22 rfl h22 ?_ hro
  simp only [Try.ntmps22, List.size_toArray, List.length_cons, List.length_nil, Nat.reduceAdd, Nat.reduceSub, Array.replicate_succ, Array.replicate_zero, List.push_toArray, List.append_toArray, List.nil_append, List.cons_append]
  gi_wp2
  go_ret
  exact ⟨rfl, rfl⟩

theorem Try.info26 : (Try.prog.info? 26).map (fun i => (i.zero, i.size, i.bytes)) = some (some (.int .u64 0), 1, 8) := by kernel_rfl

def num1 (i : Nat) : Value := .int .u64 ((i : Int) + 1)
def nums (l : List Nat) : List Value := l.map num1
theorem nums_snoc (l : List Nat) (i : Nat) : nums (l ++ [i]) = nums l ++ [.int .u64 ((i : Int) + 1)] := by simp [nums, num1]
theorem ofKind_len (l : List Rf) (kd : Int) (m : Nat) : (ofKind l kd m).length ≤ m := by
  unfold ofKind
  exact Nat.le_trans (List.length_filter_le _ _) (by simp)

set_option maxRecDepth 100000 in
set_option maxHeartbeats 1000000 in
theorem owned_in (F : Fence) (n : Nat) (h7 : F.fn 7) (h22 : F.fn 22) (h29 : F.fn 29) (hro : F.round = none) (hn : 3 ≤ n) {R base : Nat} {v : Value} {l : List Rf} (w : World) (h : IsR w R base v l) (hlen : l.length ≤ 1000) :
    CallsIn F n Try.prog 7 #[.pointer (some ⟨R, 0, none⟩)] w fun e w' => ∃ q, e = .returned q ∧ w'.ownsRow w.heap.size 26 1 q (ofKind l 1 l.length).length (nums (ofKind l 1 l.length)) ∧ (ofKind l 1 l.length = [] → q = .slice none 0 0) ∧ Below w.heap.size w w' := by
  have h1 : 1 ≤ n := by omega
  obtain ⟨ad, cap, rfl, _⟩ := h.form
  have H := Lib.hid h
  clear h
  refine callsIn_of_wp_marks Try.func7 rfl h7 ?_ hro
  simp only [Try.ntmps7, List.size_toArray, List.length_cons, List.length_nil, Nat.reduceAdd, Nat.reduceSub, Array.replicate_succ, Array.replicate_zero, List.push_toArray, List.append_toArray, List.nil_append, List.cons_append]
  gi_wp2_with (gi_at_call 22; refine (are_in F (n - 1) h22 hro _ _ _).mono ?_; rintro e w' ⟨rfl, rfl⟩)
  obtain ⟨W0, hW0⟩ : ∃ W0, W0 = (((w.alloc (.cells #[.slice none 0 0] 32)).alloc (.cells #[.pointer (some ⟨R, 0, none⟩)] 24)).alloc (.cells #[.int .u8 1] 5)) := ⟨_, rfl⟩
  rw [← hW0]
  have hs0 : W0.heap.size = w.heap.size + 3 := by rw [hW0]; simp
  have hb0 : Below w.heap.size w W0 := by rw [hW0]; exact (((Below.refl _ w).alloc (Nat.le_refl _) _).alloc (by simp) _).alloc (by simp; omega) _
  have hr0 : W0.heap[w.heap.size]? = some (.cells #[.slice none 0 0] 32 (0, 0)) := by
    rw [hW0, Below.heap_alloc _ _ _ (by simp; omega), Below.heap_alloc _ _ _ (by simp)]; exact (heap_alloc w _).1
  have hr1 : W0.heap[w.heap.size + 1]? = some (.cells #[.pointer (some ⟨R, 0, none⟩)] 24 (0, 0)) := by
    rw [hW0, Below.heap_alloc _ _ _ (by simp)]
    have := (heap_alloc (w.alloc (.cells #[.slice none 0 0] 32)) (.cells #[.pointer (some ⟨R, 0, none⟩)] 24)).1
    rw [World.size_alloc] at this
    exact this
  have hr2 : W0.heap[w.heap.size + 1 + 1]? = some (.cells #[.int .u8 1] 5 (0, 0)) := by
    rw [hW0]
    have := (heap_alloc ((w.alloc (.cells #[.slice none 0 0] 32)).alloc (.cells #[.pointer (some ⟨R, 0, none⟩)] 24)) (.cells #[.int .u8 1] 5)).1
    rw [World.size_alloc, World.size_alloc] at this
    exact this
  have hI0 := H.out.below hb0
  clear hW0
  refine range_rd (I := fun pre W => (∃ q, W.heap[w.heap.size]? = some (.cells #[q] 32 (0, 0)) ∧ W.ownsRow w.heap.size 26 1 q pre.length (nums pre) ∧ (pre = [] → q = .slice none 0 0)) ∧ IsR W R base (.slice ad l.length cap) l ∧
      W.heap[w.heap.size + 1]? = some (.cells #[.pointer (some ⟨R, 0, none⟩)] 24 (0, 0)) ∧ W.heap[w.heap.size + 1 + 1]? = some (.cells #[.int .u8 1] 5 (0, 0)) ∧ Below w.heap.size w W)
    hro h1 (gf := 29) (lb := #[.pointer (some ⟨w.heap.size + 1, 0, none⟩), .pointer (some ⟨w.heap.size + 1 + 1, 0, none⟩)]) rfl h29 (enters_of Try.func29 (by kernel_rfl) rfl)
    (are1_in F (n - 1) h29 hro (by omega) _ _ R 1 ad cap l hlen _ (fun pre W hi => hi.2.1.reads hi.2.2.1 hi.2.2.2.1 pre) W0) (fun _ => rfl) ?own
    ⟨⟨_, hr0, World.ownsRow_nil _ _ _ _, fun _ => rfl⟩, hI0, hr1, hr2, hb0⟩
    (fun x => { tmps := #[.pointer (some ⟨R, 0, none⟩), undef, .pointer (some ⟨w.heap.size, 0, none⟩), .int .u64 ((x : Int) + 1), .pointer (some ⟨R, 0, none⟩), .func (.func 29) #[] #[.pointer (some ⟨w.heap.size + 1, 0, none⟩), .pointer (some ⟨w.heap.size + 1 + 1, 0, none⟩)], .int .u64 ((x : Int) + 1), undef, undef, undef, undef, undef], defers := [] }) ?assign ?body ?done
  case own =>
    rintro pre W W' row ⟨⟨q, ha, hb, hnil⟩, hc, hd, he, hf⟩ hg hr
    have hr' : ∀ r, row = some r → ∃ o : Obj, W.heap[r]? = some o ∧ o.isCells = false := fun r e => (hr r e).2
    exact ⟨⟨q, own_block ha hg hr', own_row hb hg hr', hnil⟩, hc.own hg hr', own_block hd hg hr', own_block he hg hr', hf.grown hg hf.size (fun k e => by have := (hr k e).1; omega)⟩
  case assign =>
    intro lo x W K hK
    gi_wp2
    exact hK
  case body =>
    rintro lo pre x W ⟨⟨q, ha, hb, _⟩, hc, hd, he, hf⟩ ⟨hpre, y, hy, _⟩
    have hx : x < l.length := (List.getElem?_eq_some_iff.1 hy).1
    have hpl : pre.length ≤ 1000 := by rw [hpre]; have := ofKind_len l 1 x; omega
    obtain ⟨i0, hi, hz0, hz1, hz2⟩ := info_parts Try.info26
    have hc0 := cell_of_block (j := 0) ha rfl
    have hf0 := frozen_of_block (j := 0) ha
    have x1 : ∀ u ∈ [Value.int .u64 ((x : Int) + 1)], u.oneCell' = true := by simp [Value.oneCell']
    have x2 : pre.length + 1 ≤ maxLen := by unfold maxLen; omega
    have x3 : (pre.length + 1) * 8 ≤ 140737488355328 := by omega
    have hz := lt_of_block ha
    have x4 : w.heap.size ≤ (W.alloc (.cells #[.int .u64 ((x : Int) + 1)] 26)).heap.size := by simp; omega
    have HNB := Lib.hid (row_apart hb ha (by decide))
    have hnd := row_apart hb hd (by decide)
    have hne := row_apart hb he (by decide)
    have hnR := row_apart hb hc.bl (by decide)
    have hnA : ∀ k, (Value.slice ad l.length cap).ownBlock = some k → some k ≠ q.ownBlock ∧ k < W.heap.size ∧ k ≠ w.heap.size := fun k hk => by
      obtain ⟨g, hg⟩ : ∃ g, W.heap[k]? = some (.cells g 63 (0, 0)) := by
        rcases hc.row.2 with ⟨e, _⟩ | ⟨g, cc, cur, e, _, h4, _⟩
        · rw [e] at hk; cases hk
        · rw [e] at hk; simp only [Value.ownBlock, Option.some.injEq] at hk; subst hk; exact ⟨_, h4⟩
      refine ⟨row_apart hb hg (by decide), lt_of_block hg, fun e => ?_⟩
      rw [e, ha] at hg
      simp at hg
    have hRb : R ≠ w.heap.size := fun e => by
      have := hc.bl
      rw [e, ha] at this
      simp at this
    have HND := Lib.hid hnd
    have HNE := Lib.hid hne
    have HNR := Lib.hid hnR
    have HNA := Lib.hid hnA
    clear hnd hne hnR hnA
    have HA := Lib.hid ha
    have HC := Lib.hid hc
    have HD := Lib.hid hd
    have HE := Lib.hid he
    have HF := Lib.hid hf
    clear ha hc hd he hf hpre hy
    gi_wp2_with (gi_at_builtin; go_must (refine wpListIn_append_own _ rfl _ _ 32 rfl w.heap.size 26 i0 (.int .u64 0) 1 8 Try.underlying32 hi hz0 hz1 hz2 rfl (by decide) _ _ _ rfl (hb.alloc _) ⟨W.heap.size, 0, none⟩ 1 1 [.int .u64 ((x : Int) + 1)] rfl rfl (cell_one_new _ _ _) x1 x2 x3 x4 ?_; intro v' w1 hown' hgrow _; obtain ⟨g', cap', rfl⟩ := ownsRow_succ hown'; have k0 := (hgrow.block w.heap.size (Nat.lt_of_lt_of_le hz (by simp)) HNB.out).trans ((Below.heap_alloc W (.cells #[.int .u64 ((x : Int) + 1)] 26) _ hz).trans HA.out); have k1 := cell_of_block (j := 0) k0 rfl; have k2 := frozen_of_block (j := 0) k0; have HK0 := Lib.hid k0; have HOW := Lib.hid hown'; have HGR := Lib.hid hgrow; have hz1 := lt_of_block k0; clear k0 hown' hgrow))
    have hsz : W.heap.size ≤ (W.alloc (.cells #[.int .u64 ((x : Int) + 1)] 26)).heap.size := by simp
    have keep : ∀ k, k < W.heap.size → k ≠ w.heap.size → some k ≠ q.ownBlock → ∀ u : Value, (w1.setCell ⟨w.heap.size, 0, none⟩ u).heap[k]? = W.heap[k]? := fun k hk hk1 hk2 u => by
      rw [set_other _ hk1, HGR.out.block k (Nat.lt_of_lt_of_le hk hsz) hk2, Below.heap_alloc _ _ _ hk]
    refine ⟨?_, ⟨.slice (some ⟨g', 0, none⟩) (pre.length + 1) cap', set_same _ HK0.out, ?_, fun e => by simp at e⟩, ?_, ?_, ?_, ?_⟩
    · exact ((KeepsOthers.alloc W _).trans (KeepsOthers.of_grownBy HGR.out (fun j o e ho => by
        rcases hb.2 with ⟨rfl, _⟩ | ⟨g, cc, cur, rfl, _, h4, _⟩
        · cases e
        · have e' : (Value.slice (some ⟨g, 0, none⟩) pre.length cc).ownBlock = some j := e
          simp only [Value.ownBlock, Option.some.injEq] at e'
          subst e'
          rw [Below.heap_alloc W _ _ (lt_of_block h4), h4] at ho
          cases ho
          rfl))).trans (KeepsOthers.setCell _ _ _)
    · rw [List.length_append, nums_snoc]
      exact ownsRow_keep HOW.out fun p hp => by
        simp only [Value.ownBlock, Option.some.injEq] at hp
        subst hp
        refine set_other _ fun e => ?_
        have := row_apart HOW.out HK0.out (by decide)
        simp [Value.ownBlock, e] at this
    · refine HC.out.heap fun k hk => ?_
      simp only [rown, List.mem_cons, Option.mem_toList] at hk
      rcases hk with rfl | hk
      · exact keep _ (lt_of_block HC.out.bl) hRb HNR.out _
      · obtain ⟨n1, n2, n3⟩ := HNA.out k hk
        exact keep _ n2 n3 n1 _
    · rw [keep _ (lt_of_block HD.out) (by omega) HND.out]; exact HD.out
    · rw [keep _ (lt_of_block HE.out) (by omega) HNE.out]; exact HE.out
    · exact ((HF.out.alloc HF.out.size _).grown HGR.out x4 (fun p hp => (hb.lt p hp).1)).setCell (Nat.le_refl _) _
  case done =>
    rintro D ys W hD rfl ⟨⟨q, ha, hb, hnil⟩, hc, hd, he, hf⟩ hK
    obtain ⟨qa, qc, hq⟩ : ∃ qa qc, q = .slice qa (ofKind l 1 l.length).length qc := by
      rcases hb.2 with ⟨e, e1⟩ | ⟨g, cc, _, e, _⟩
      · exact ⟨none, 0, by rw [e, e1]⟩
      · exact ⟨_, cc, e⟩
    subst hq
    have c0 := cell_of_block (j := 0) ha rfl
    have f0 := frozen_of_block (j := 0) ha
    have hz := lt_of_block ha
    have HNIL := Lib.hid hnil
    clear hnil
    have HB := Lib.hid hb
    have HF := Lib.hid hf
    have HA := Lib.hid ha
    have HK := Lib.hid hK
    clear hb hf ha hc hd he hK hI0 hr0 hr1 hr2 hb0
    gi_wp2_with fail
    have hk3 := (KeepsOthers.setCell W ⟨w.heap.size, 0, none⟩ (.slice qa (ofKind l 1 l.length).length qc)).same D _ HK.out rfl
    have hb3 := set_same (j := 0) (.slice qa (ofKind l 1 l.length).length qc) HA.out
    have hrow3 := row_apart HB.out HA.out (by decide)
    obtain ⟨W3, hW3⟩ : ∃ W3, W3 = W.setCell ⟨w.heap.size, 0, none⟩ (.slice qa (ofKind l 1 l.length).length qc) := ⟨_, rfl⟩
    rw [← hW3] at hk3 hb3 ⊢
    have hg : W3.grownBy (W3.putObj D (.deferred none)) (some D) := grownBy_putObj' _ D (.deferred none)
    have hnc : ∀ r, some D = some r → ∃ o : Obj, W3.heap[r]? = some o ∧ o.isCells = false := fun r e => by cases e; exact ⟨_, hk3, rfl⟩
    have hb4 := own_block hb3 hg hnc
    have c4 := cell_of_block (j := 0) hb4 rfl
    have hrow4 : W3.ownsRow w.heap.size 26 1 (.slice qa (ofKind l 1 l.length).length qc) (ofKind l 1 l.length).length (nums (ofKind l 1 l.length)) := by
      rw [hW3]
      exact ownsRow_keep HB.out fun p hp => set_other _ fun e => by
        apply hrow3
        rw [hp, e]
    have hbel : Below w.heap.size w W3 := by rw [hW3]; exact HF.out.setCell (Nat.le_refl _) _
    have hsD : W3.heap.size = W.heap.size := by rw [hW3]; simp
    have hbel4 : Below w.heap.size w (W3.putObj D (.deferred none)) := hbel.grown hg hbel.size (fun k e => by cases e; omega)
    clear hW3
    refine ⟨by simp, .inl ⟨_, _, rfl, run_takeDeferred hk3, ?_⟩⟩
    exact ⟨.slice qa (ofKind l 1 l.length).length qc, by simp [results, Try.results7, go_sem, c4], _, rfl, own_row hrow4 hg hnc, HNIL.out, hbel4⟩

end Go.Proofs.Ytijiffgfodlepaa
