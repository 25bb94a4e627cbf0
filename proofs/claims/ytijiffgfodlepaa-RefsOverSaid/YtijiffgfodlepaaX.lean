/- References: those that are lent come to their end. -/
import Derived.Test.YtijiffgfodlepaaV
namespace Go.Proofs.Ytijiffgfodlepaa
open Go.RowKit Go.Shelf Go.MapKept
attribute [local go_sem] Oper.semAt_some

def turnL (l : List Rf) (pre : List Nat) : List Rf := l.mapIdx fun i x => if i ∈ pre then ⟨x.s, x.g, 3⟩ else x
def endL (l : List Rf) : List Rf := l.map fun x => if x.k = 2 then ⟨x.s, x.g, 3⟩ else x

theorem turnL_len (l : List Rf) (pre : List Nat) : (turnL l pre).length = l.length := by simp [turnL]
theorem turnL_at {l : List Rf} {pre : List Nat} {i : Nat} {x : Rf} (h : l[i]? = some x) (hn : i ∉ pre) : (turnL l pre)[i]? = some x := by simp [turnL, h, hn]
theorem turnL_nil (l : List Rf) : turnL l [] = l := by
  apply List.ext_getElem?
  intro j
  simp only [turnL, List.getElem?_mapIdx]
  cases l[j]? <;> simp
theorem turnL_snoc {l : List Rf} {pre : List Nat} {i : Nat} {x : Rf} (h : l[i]? = some x) : turnL l (pre ++ [i]) = (turnL l pre).set i ⟨x.s, x.g, 3⟩ := by
  apply List.ext_getElem?
  intro j
  rw [List.getElem?_set]
  by_cases e : i = j
  · subst e
    obtain ⟨hi, hx⟩ := List.getElem?_eq_some_iff.1 h
    simp [turnL, hi, hx]
  · rw [if_neg e]
    have e' : ¬ j = i := fun h => e h.symm
    simp [turnL, e']
theorem mem_ofKind {l : List Rf} {kd : Int} {m i : Nat} : i ∈ ofKind l kd m ↔ i < m ∧ ∃ x, l[i]? = some x ∧ x.k = kd := by
  unfold ofKind
  rw [List.mem_filter, List.mem_range]
  cases l[i]? <;> simp
theorem turnL_end (l : List Rf) : turnL l (ofKind l 2 l.length) = endL l := by
  apply List.ext_getElem?
  intro j
  simp only [turnL, endL, List.getElem?_mapIdx, List.getElem?_map]
  cases h : l[j]? with
  | none => rfl
  | some x =>
    obtain ⟨hj, hx⟩ := List.getElem?_eq_some_iff.1 h
    have : j ∈ ofKind l 2 l.length ↔ x.k = 2 := by rw [mem_ofKind]; simp [hj, hx]
    simp [this]

set_option maxRecDepth 100000 in
set_option maxHeartbeats 1000000 in
theorem endLent_in (F : Fence) (n : Nat) (h12 : F.fn 12) (h22 : F.fn 22) (h29 : F.fn 29) (hro : F.round = none) (hn : 3 ≤ n) {R base : Nat} {v : Value} {l : List Rf} (w : World) (h : IsR w R base v l) (hlen : l.length ≤ 1000) :
    CallsIn F n Try.prog 12 #[.pointer (some ⟨R, 0, none⟩)] w fun e w' => e = .returned (.int .i64 (ofKind l 2 l.length).length) ∧ IsR w' R base v (endL l) ∧ Fr (rown R v) w w' := by
  have h1 : 1 ≤ n := by omega
  obtain ⟨ad, cap, rfl, hA⟩ := h.form
  have H := Lib.hid h
  have HA := Lib.hid hA
  clear h hA
  refine callsIn_of_wp_marks Try.func12 rfl h12 ?_ hro
  simp only [Try.ntmps12, List.size_toArray, List.length_cons, List.length_nil, Nat.reduceAdd, Nat.reduceSub, Array.replicate_succ, Array.replicate_zero, List.push_toArray, List.append_toArray, List.nil_append, List.cons_append]
  gi_wp2_with (gi_at_call 22; refine (are_in F (n - 1) h22 hro _ _ _).mono ?_; rintro e w' ⟨rfl, rfl⟩)
  obtain ⟨W0, hW0⟩ : ∃ W0, W0 = ((((w.alloc (.cells #[.pointer (some ⟨R, 0, none⟩)] 24)).alloc (.cells #[.int .i64 0] 3)).alloc (.cells #[.pointer (some ⟨R, 0, none⟩)] 24)).alloc (.cells #[.int .u8 2] 5)) := ⟨_, rfl⟩
  rw [← hW0]
  have hs0 : W0.heap.size = w.heap.size + 4 := by rw [hW0]; simp
  have hb0 : Below w.heap.size w W0 := by rw [hW0]; exact ((((Below.refl _ w).alloc (Nat.le_refl _) _).alloc (by simp) _).alloc (by simp <;> omega) _).alloc (by simp <;> omega) _
  have hr0 : W0.heap[w.heap.size]? = some (.cells #[.pointer (some ⟨R, 0, none⟩)] 24 (0, 0)) := by
    rw [hW0, Below.heap_alloc _ _ _ (by simp <;> omega), Below.heap_alloc _ _ _ (by simp <;> omega), Below.heap_alloc _ _ _ (by simp)]; exact (heap_alloc w _).1
  have hr1 : W0.heap[w.heap.size + 1]? = some (.cells #[.int .i64 0] 3 (0, 0)) := by
    rw [hW0, Below.heap_alloc _ _ _ (by simp <;> omega), Below.heap_alloc _ _ _ (by simp)]
    have := (heap_alloc (w.alloc (.cells #[.pointer (some ⟨R, 0, none⟩)] 24)) (.cells #[.int .i64 0] 3)).1
    rw [World.size_alloc] at this
    exact this
  have hr2 : W0.heap[w.heap.size + 1 + 1]? = some (.cells #[.pointer (some ⟨R, 0, none⟩)] 24 (0, 0)) := by
    rw [hW0, Below.heap_alloc _ _ _ (by simp)]
    have := (heap_alloc ((w.alloc (.cells #[.pointer (some ⟨R, 0, none⟩)] 24)).alloc (.cells #[.int .i64 0] 3)) (.cells #[.pointer (some ⟨R, 0, none⟩)] 24)).1
    rw [World.size_alloc, World.size_alloc] at this
    exact this
  have hr3 : W0.heap[w.heap.size + 1 + 1 + 1]? = some (.cells #[.int .u8 2] 5 (0, 0)) := by
    rw [hW0]
    have := (heap_alloc (((w.alloc (.cells #[.pointer (some ⟨R, 0, none⟩)] 24)).alloc (.cells #[.int .i64 0] 3)).alloc (.cells #[.pointer (some ⟨R, 0, none⟩)] 24)) (.cells #[.int .u8 2] 5)).1
    rw [World.size_alloc, World.size_alloc, World.size_alloc] at this
    exact this
  have hI0 := H.out.below hb0
  have hlt := rown_lt H.out
  have HLT := Lib.hid hlt
  clear hW0 hlt
  refine range_rd (I := fun pre W => W.heap[w.heap.size + 1]? = some (.cells #[.int .i64 pre.length] 3 (0, 0)) ∧ IsR W R base (.slice ad l.length cap) (turnL l pre) ∧ W.heap[w.heap.size]? = some (.cells #[.pointer (some ⟨R, 0, none⟩)] 24 (0, 0)) ∧
      W.heap[w.heap.size + 1 + 1]? = some (.cells #[.pointer (some ⟨R, 0, none⟩)] 24 (0, 0)) ∧ W.heap[w.heap.size + 1 + 1 + 1]? = some (.cells #[.int .u8 2] 5 (0, 0)) ∧ Fr (rown R (.slice ad l.length cap)) w W)
    hro h1 (gf := 29) (lb := #[.pointer (some ⟨w.heap.size + 1 + 1, 0, none⟩), .pointer (some ⟨w.heap.size + 1 + 1 + 1, 0, none⟩)]) rfl h29 (enters_of Try.func29 (by kernel_rfl) rfl)
    (are1_in F (n - 1) h29 hro (by omega) _ _ R 2 ad cap l hlen _ ?reads W0) (fun _ => rfl) ?own
    ⟨hr1, by rw [turnL_nil]; exact hI0, hr0, hr2, hr3, Fr.of_below hb0 _⟩
    (fun x => { tmps := #[.pointer (some ⟨R, 0, none⟩), .pointer (some ⟨w.heap.size, 0, none⟩), .pointer (some ⟨w.heap.size + 1, 0, none⟩), .int .u64 ((x : Int) + 1), .pointer (some ⟨R, 0, none⟩), .func (.func 29) #[] #[.pointer (some ⟨w.heap.size + 1 + 1, 0, none⟩), .pointer (some ⟨w.heap.size + 1 + 1 + 1, 0, none⟩)], .int .u64 ((x : Int) + 1), undef, undef, undef, undef, undef, undef, undef, undef, undef, undef, undef], defers := [] }) ?assign ?body ?done
  case reads =>
    rintro pre W ⟨_, hi, _, hb, hc, _⟩
    refine ⟨cell_of_block hb rfl, cell_of_block hc rfl, cell_of_block hi.bl rfl, fun i x hx hy => ?_⟩
    obtain ⟨A, cap', e, _, _, _, c0, c1, c2, _⟩ := hi.at (turnL_at hx (fun hm => Nat.lt_irrefl _ (hy i hm)))
    simp only [Value.slice.injEq] at e
    exact ⟨A, e.1, c0, c1, c2⟩
  case own =>
    rintro pre W W' row ⟨ha, hb, hc, hd, he, hf⟩ hg hr
    have hr' : ∀ r, row = some r → ∃ o : Obj, W.heap[r]? = some o ∧ o.isCells = false := fun r e => (hr r e).2
    refine ⟨own_block ha hg hr', hb.own hg hr', own_block hc hg hr', own_block hd hg hr', own_block he hg hr', ⟨hg.os.trans hf.os, hg.tape.trans hf.tape, hg.output.trans hf.output, Nat.le_trans hf.size hg.size, fun k hk hn => ?_⟩⟩
    rw [hg.block k (Nat.lt_of_lt_of_le hk hf.size) (fun e => by have := (hr k e.symm).1; omega)]
    exact hf.block k hk hn
  case assign =>
    intro lo x W K hK
    gi_wp2
    exact hK
  case body =>
    rintro lo pre x W ⟨ha, hb, hc, hd, he, hf⟩ ⟨hpre, y, hy, hyk⟩
    have hx : x < l.length := (List.getElem?_eq_some_iff.1 hy).1
    have hnp : x ∉ pre := fun hm => by rw [hpre] at hm; exact Nat.lt_irrefl _ (ofKind_lt hm)
    have hpl : pre.length ≤ 1000 := by rw [hpre]; have := ofKind_len l 2 x; omega
    have hyt := turnL_at hy hnp
    have hbl := hb.bl
    have hturn : ∃ A, ad = some ⟨A, 0, none⟩ := HA.out (by omega)
    obtain ⟨A, rfl⟩ := hturn
    have hT : IsR (W.setCell ⟨A, x * 3 + 2, none⟩ (.int .u8 3)) R base (.slice (some ⟨A, 0, none⟩) l.length cap) (turnL l (pre ++ [x])) := by
      rw [turnL_snoc hy]
      have hb' := hb
      rw [show l.length = (turnL l pre).length from (turnL_len l pre).symm] at hb' ⊢
      exact hb'.turn hyt 3
    obtain ⟨A', cap', e, hAl, hAR, _, c0, c1, c2, c3⟩ := hb.at hyt
    simp only [Value.slice.injEq, Option.some.injEq, Addr.mk.injEq, and_true, turnL_len, true_and] at e
    obtain ⟨rfl, rfl⟩ := e
    have d1 := cell_of_block (j := 1) hbl rfl
    have b0 := cell_of_block (j := 0) ha rfl
    have b1 := frozen_of_block (j := 0) ha
    have b2 := cell_of_block (j := 0) hc rfl
    have hx1 : (x : Int) < (l.length : Int) := by omega
    have hA1 : A ≠ w.heap.size + 1 := fun e => by
      have := (HLT.out A (by simp [rown, Value.ownBlock])).2
      omega
    have hA1' := hA1.symm
    have hA0 : A ≠ w.heap.size := fun e => by
      have := (HLT.out A (by simp [rown, Value.ownBlock])).2
      omega
    have HT := Lib.hid hT
    have HAA := Lib.hid ha
    have HC := Lib.hid hc
    have HD := Lib.hid hd
    have HE := Lib.hid he
    have HF := Lib.hid hf
    clear hT ha hb hc hd he hf hpre hy hyt hbl hnp hyk
    gi_wp2_with fail
    have hAb : ∀ k, k ≠ A → k ≠ w.heap.size + 1 → ∀ u u' : Value, ((W.setCell ⟨A, x * 3 + 2, none⟩ u).setCell ⟨w.heap.size + 1, 0, none⟩ u').heap[k]? = W.heap[k]? := fun k h1 h2 u u' => by
      rw [set_other _ h2, set_other _ h1]
    have hA2 : A < w.heap.size := (HLT.out A (by simp [rown, Value.ownBlock])).2
    have hR2 : R < w.heap.size := (HLT.out R (by simp [rown])).2
    refine ⟨(KeepsOthers.setCell _ _ _).trans (KeepsOthers.setCell _ _ _), ?_, ?_, ?_, ?_, ?_, ?_⟩
    · have : ((W.setCell ⟨A, x * 3 + 2, none⟩ (.int .u8 3)).setCell ⟨w.heap.size + 1, 0, none⟩ (.int .i64 ((pre.length : Int) + 1))).heap[w.heap.size + 1]? = _ := set_same _ ((set_other _ hA1').trans HAA.out)
      rw [this]
      simp
    · refine HT.out.heap fun k hk => set_other _ ?_
      have := (HLT.out k hk).2
      show k ≠ w.heap.size + 1
      omega
    · rw [hAb _ (by omega) (by omega)]; exact HC.out
    · rw [hAb _ (by omega) (by omega)]; exact HD.out
    · rw [hAb _ (by omega) (by omega)]; exact HE.out
    · exact (HF.out.setCell _ _ (.inl (by simp [rown, Value.ownBlock]))).setCell _ _ (.inr (by simp))
  case done =>
    rintro D ys W hD rfl ⟨ha, hb, hc, hd, he, hf⟩ hK
    rw [turnL_end] at hb
    have c0 := cell_of_block (j := 0) ha rfl
    have f0 := frozen_of_block (j := 0) ha
    have HAA := Lib.hid ha
    have HB := Lib.hid hb
    have HF := Lib.hid hf
    have HK := Lib.hid hK
    clear ha hb hc hd he hf hK hI0 hr0 hr1 hr2 hr3 hb0
    gi_wp2_with fail
    have hk3 := (KeepsOthers.setCell W ⟨w.heap.size + 1, 0, none⟩ (.int .i64 (ofKind l 2 l.length).length)).same D _ HK.out rfl
    have hb3 := set_same (j := 0) (.int .i64 (ofKind l 2 l.length).length) HAA.out
    have hI3 : IsR (W.setCell ⟨w.heap.size + 1, 0, none⟩ (.int .i64 (ofKind l 2 l.length).length)) R base (.slice ad l.length cap) (endL l) := HB.out.heap fun k hk => set_other _ (by have := (HLT.out k hk).2; show k ≠ w.heap.size + 1; omega)
    have hF3 : Fr (rown R (.slice ad l.length cap)) w (W.setCell ⟨w.heap.size + 1, 0, none⟩ (.int .i64 (ofKind l 2 l.length).length)) := HF.out.setCell _ _ (.inr (by simp))
    obtain ⟨W3, hW3⟩ : ∃ W3, W3 = W.setCell ⟨w.heap.size + 1, 0, none⟩ (.int .i64 (ofKind l 2 l.length).length) := ⟨_, rfl⟩
    have hsD : W3.heap.size = W.heap.size := by rw [hW3]; simp
    rw [← hW3] at hk3 hb3 hI3 hF3 ⊢
    have hg : W3.grownBy (W3.putObj D (.deferred none)) (some D) := grownBy_putObj' _ D (.deferred none)
    have hnc : ∀ r, some D = some r → ∃ o : Obj, W3.heap[r]? = some o ∧ o.isCells = false := fun r e => by cases e; exact ⟨_, hk3, rfl⟩
    have hb4 := own_block hb3 hg hnc
    have c4 := cell_of_block (j := 0) hb4 rfl
    have hF4 : Fr (rown R (.slice ad l.length cap)) w (W3.putObj D (.deferred none)) :=
      ⟨hg.os.trans hF3.os, hg.tape.trans hF3.tape, hg.output.trans hF3.output, Nat.le_trans hF3.size hg.size, fun k hk hn => by
        rw [hg.block k (Nat.lt_of_lt_of_le hk hF3.size) (fun e => by cases e; omega)]
        exact hF3.block k hk hn⟩
    clear hW3
    refine ⟨by simp, .inl ⟨_, _, rfl, run_takeDeferred hk3, ?_⟩⟩
    exact ⟨.int .i64 (ofKind l 2 l.length).length, by simp [results, Try.results12, go_sem, c4], rfl, hI3.own hg hnc, hF4⟩

end Go.Proofs.Ytijiffgfodlepaa
