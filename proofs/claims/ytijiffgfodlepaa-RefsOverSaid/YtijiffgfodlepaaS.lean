/- References: what they are in memory; the contracts of those functions that make and change one. -/
import Derived.Test.YtijiffgfodlepaaD
import Derived.Deep.AppendLies
import Derived.Deep.RegionLaw
import Derived.Test.YtijiffgfodlepaaR
namespace Go.Proofs.Ytijiffgfodlepaa
open Go.RowKit Go.BigFrame Go.MapKept

def rcells (l : List Rf) : List Value := l.flatMap fun x => [.int .i64 x.s, .int .u64 x.g, .int .u8 x.k]

structure IsR (w : World) (R base : Nat) (v : Value) (l : List Rf) : Prop where
  bl : w.heap[R]? = some (.cells #[.bool true, v] 54 (0, 0))
  row : w.ownsRow base 63 3 v l.length (rcells l)
  ge : base ≤ R

def rown (R : Nat) (v : Value) : List Nat := R :: v.ownBlock.toList

theorem IsR.form {w : World} {R base : Nat} {v : Value} {l : List Rf} (h : IsR w R base v l) : ∃ ad cap, v = .slice ad l.length cap ∧ (0 < l.length → ∃ A, ad = some ⟨A, 0, none⟩) := by
  rcases h.row.2 with ⟨e, e1⟩ | ⟨g, cc, _, e, _⟩
  · exact ⟨none, 0, by rw [e, e1], fun h => by omega⟩
  · exact ⟨_, cc, e, fun _ => ⟨g, rfl⟩⟩

theorem rcells_at {l : List Rf} : ∀ {i : Nat} {x : Rf}, l[i]? = some x → (rcells l)[i * 3]? = some (.int .i64 x.s) ∧ (rcells l)[i * 3 + 1]? = some (.int .u64 x.g) ∧ (rcells l)[i * 3 + 2]? = some (.int .u8 x.k) := by
  induction l with
  | nil => intro i x h; cases h
  | cons y r ih =>
    intro i x h
    cases i with
    | zero => simp at h; subst h; exact ⟨rfl, rfl, rfl⟩
    | succ i =>
      have := ih (i := i) (x := x) (by simpa using h)
      have e : (i + 1) * 3 = i * 3 + 1 + 1 + 1 := by omega
      rw [e]
      simpa [rcells] using this

theorem rcells_len (l : List Rf) : (rcells l).length = l.length * 3 := by
  induction l with
  | nil => rfl
  | cons x r ih => simp [rcells] at ih ⊢; omega

theorem rcells_snoc (l : List Rf) (x : Rf) : rcells (l ++ [x]) = rcells l ++ [.int .i64 x.s, .int .u64 x.g, .int .u8 x.k] := by simp [rcells]

theorem rown_lt {w : World} {R base : Nat} {v : Value} {l : List Rf} (h : IsR w R base v l) : ∀ k ∈ rown R v, base ≤ k ∧ k < w.heap.size := by
  intro k hk
  simp only [rown, List.mem_cons, Option.mem_toList] at hk
  rcases hk with rfl | hk
  · exact ⟨h.ge, lt_of_block h.bl⟩
  · exact h.row.lt k hk

theorem row_ne {w : World} {R base : Nat} {v : Value} {l : List Rf} (h : IsR w R base v l) : v.ownBlock ≠ some R := by
  intro e
  rcases h.row.2 with ⟨rfl, _⟩ | ⟨g, cap, cur, rfl, _, h4, _⟩
  · cases e
  · simp only [Value.ownBlock, Option.some.injEq] at e
    subst e
    have := h.bl
    rw [h4] at this
    simp at this

theorem ownsRow_keep {w w' : World} {base e size n : Nat} {v : Value} {xs : List Value} (h : w.ownsRow base e size v n xs) (hq : ∀ q, v.ownBlock = some q → w'.heap[q]? = w.heap[q]?) : w'.ownsRow base e size v n xs := by
  obtain ⟨h1, h2⟩ := h
  refine ⟨h1, ?_⟩
  rcases h2 with h2 | ⟨g, cap, cur, rfl, h3, h4, h5⟩
  · exact .inl h2
  · exact .inr ⟨g, cap, cur, rfl, h3, (hq g rfl).trans h4, h5⟩

theorem IsR.heap {w w' : World} {R base : Nat} {v : Value} {l : List Rf} (h : IsR w R base v l) (hw : ∀ k ∈ rown R v, w'.heap[k]? = w.heap[k]?) : IsR w' R base v l :=
  ⟨(hw R (by simp [rown])).trans h.bl, ownsRow_keep h.row fun q hq => hw q (by simp [rown, hq]), h.ge⟩
theorem IsR.below {w w' : World} {R base : Nat} {v : Value} {l : List Rf} (h : IsR w R base v l) (hb : Below w.heap.size w w') : IsR w' R base v l :=
  h.heap fun k hk => hb.block k (rown_lt h k hk).2

theorem Try.info63 : (Try.prog.info? 63).map (fun i => (i.zero, i.size, i.bytes)) = some (some (.agg #[.int .i64 0, .int .u64 0, .int .u8 0]), 3, 24) := by kernel_rfl

set_option maxHeartbeats 400000 in
theorem rnew_any (w : World) :
    Calls Try.prog 6 #[] w fun e w' => e = .returned (.pointer (some ⟨w.heap.size, 0, none⟩)) ∧ IsR w' w.heap.size w.heap.size (.slice none 0 0) [] ∧ Below w.heap.size w w' := by
  go_enter Try.func6, Try.ntmps6
  go_wp2
  go_ret
  exact ⟨rfl, ⟨(heap_alloc w _).1, World.ownsRow_nil _ _ _ _, Nat.le_refl _⟩, below_alloc w _⟩

set_option maxRecDepth 100000 in
set_option maxHeartbeats 1600000 in
theorem comes_any {R base : Nat} {v : Value} {l : List Rf} {w : World} (h : IsR w R base v l) (hlen : l.length ≤ 1000) (hbase : base ≤ w.heap.size) (s g kd : Int) :
    Calls Try.prog 23 #[.pointer (some ⟨R, 0, none⟩), ky s g, .int .u8 kd] w fun e w' => e = .returned (.tuple #[.int .u64 (l.length + 1), .int .i64 0]) ∧ ∃ v', IsR w' R base v' (l ++ [⟨s, g, kd⟩]) ∧ Fr (rown R v) w w' := by
  obtain ⟨ad, cap, rfl, _⟩ := h.form
  have c0 := cell_of_block (j := 0) h.bl rfl
  have c1 := cell_of_block (j := 1) h.bl rfl
  have f1 := frozen_of_block (j := 1) h.bl
  have hlt := lt_of_block h.bl
  have H := Lib.hid h
  have hlen' : (l.length : Int) ≤ 1000 := by omega
  have hg : ¬ (131072 : Int) ≤ (l.length : Int) := by omega
  obtain ⟨i0, hi, hz0, hz1, hz2⟩ := info_parts Try.info63
  unfold ky
  clear h
  go_enter Try.func23, Try.ntmps23
  go_wp2_with fail
  have hrow := H.out.row
  have hne := row_ne H.out
  have x1 : ∀ u ∈ [Value.int .i64 s, Value.int .u64 g, Value.int .u8 kd], u.oneCell' = true := by simp [Value.oneCell']
  have x2 : l.length + 1 ≤ maxLen := by unfold maxLen; omega
  have x3 : (l.length + 1) * 24 ≤ 140737488355328 := by omega
  have hnw : (((w.alloc (.cells #[.int .i64 s, .int .u64 g] 29)).alloc (.cells #[.int .i64 s, .int .u64 g, .int .u8 kd] 63)).drew).heap[w.heap.size + 1]? = some (.cells #[.int .i64 s, .int .u64 g, .int .u8 kd] 63 (0, 0)) := by
    have := (heap_alloc (w.alloc (.cells #[.int .i64 s, .int .u64 g] 29)) (.cells #[.int .i64 s, .int .u64 g, .int .u8 kd] 63)).1
    rw [World.size_alloc] at this
    exact this
  have hbs : base ≤ (((w.alloc (.cells #[.int .i64 s, .int .u64 g] 29)).alloc (.cells #[.int .i64 s, .int .u64 g, .int .u8 kd] 63)).drew).heap.size := by simp; omega
  have hz2' : (((w.alloc (.cells #[.int .i64 s, .int .u64 g] 29)).alloc (.cells #[.int .i64 s, .int .u64 g, .int .u8 kd] 63)).drew).heap.size = w.heap.size + 2 := by simp
  have hbel : Below w.heap.size w (((w.alloc (.cells #[.int .i64 s, .int .u64 g] 29)).alloc (.cells #[.int .i64 s, .int .u64 g, .int .u8 kd] 63)).drew) := (((Below.refl _ w).alloc (Nat.le_refl _) _).alloc (by simp) _).drew
  have HBL := Lib.hid hbel
  have hcR := (hbel.cell (p := ⟨R, 1, none⟩) hlt).trans c1
  have hfR := (hbel.frozen (p := ⟨R, 1, none⟩) hlt).trans f1
  have HCR := Lib.hid hcR
  have HFR := Lib.hid hfR
  have HRL := Lib.hid (Nat.lt_of_lt_of_le hlt hbel.size)
  have HNE := Lib.hid hne
  clear hcR hfR hbel hne
  have HNW := Lib.hid hnw
  have HBS := Lib.hid hbs
  have HZ := Lib.hid hz2'
  clear hnw hbs hz2'
  go_region_law (refine step_append_lies _ (by rfl) _ _ _ (by rfl) base 63 i0 _ 3 24 Try.underlying52 hi hz0 hz1 hz2 rfl (by omega) (.slice ad l.length cap) l.length (rcells l) (by rfl) (((hrow.alloc _).alloc _).drew) ⟨w.heap.size + 1, 0, none⟩ 1 1 [.int .i64 s, .int .u64 g, .int .u8 kd] (by rfl) (by rfl) (World.news_of_block (cs := #[.int .i64 s, .int .u64 g, .int .u8 kd]) (t := 63) (fr := (0, 0)) HNW.out) x1 (by omega) x2 x3 HBS.out (w.heap.size + 2) HZ.out ?_; intro gg cc w1 hown1 hgrow1 hat hlt1; have g1 := (hgrow1.cell_far ⟨R, 1, none⟩ HRL.out (Ne.symm HNE.out)).trans HCR.out; have g2 := (hgrow1.frozen_far ⟨R, 1, none⟩ HRL.out (Ne.symm HNE.out)).trans HFR.out; have g3 := Nat.lt_of_lt_of_le HRL.out hgrow1.size)
  all_goals
    have HO1 := Lib.hid hown1
    have HG1 := Lib.hid hgrow1
    have HAT := Lib.hid hat
    clear hown1 hgrow1 hat
    have hgR : gg ≠ R := by
      rcases HAT.out with h1 | h1
      · exact fun e => HNE.out (by rw [h1, e])
      · omega
    have hcl : ((l.length + 1 : Nat) : Int) = (l.length : Int) + 1 := by omega
    go_wp2
    go_ret2
    refine ⟨by simp, .slice (some ⟨gg, 0, none⟩) (l.length + 1) cc, ⟨?_, ?_, H.out.ge⟩, ?_⟩
    · have hb1 : w1.heap[R]? = some (.cells #[.bool true, .slice ad l.length cap] 54 (0, 0)) := by
        rw [HG1.out.block R HRL.out (Ne.symm HNE.out), HBL.out.block R hlt]; exact H.out.bl
      exact set_same _ hb1
    · rw [List.length_append, rcells_snoc]
      exact ownsRow_keep HO1.out fun q hq => by
        simp only [Value.ownBlock, Option.some.injEq] at hq
        subst hq
        exact set_other _ hgR
    · refine ⟨HG1.out.os.trans HBL.out.os, HG1.out.tape.trans HBL.out.tape, HG1.out.output.trans HBL.out.output, ?_, fun k hk hnk => ?_⟩
      · simp; exact Nat.le_trans HBL.out.size HG1.out.size
      · simp only [rown, List.mem_cons, Option.mem_toList, not_or] at hnk
        rw [set_other _ hnk.1, HG1.out.block k (Nat.lt_of_lt_of_le hk HBL.out.size) (fun e => hnk.2 e.symm), HBL.out.block k hk]

set_option maxHeartbeats 800000 in
theorem own_any {R base : Nat} {v : Value} {l : List Rf} {w : World} (h : IsR w R base v l) (hlen : l.length ≤ 1000) (hbase : base ≤ w.heap.size) (s g : Int) :
    Calls Try.prog 8 #[.pointer (some ⟨R, 0, none⟩), ky s g] w fun e w' => e = .returned (.tuple #[.int .u64 (l.length + 1), .int .i64 0]) ∧ ∃ v', IsR w' R base v' (l ++ [⟨s, g, 1⟩]) ∧ Fr (rown R v) w w' := by
  have hb := below_alloc w (.cells #[.int .i64 s, .int .u64 g] 29)
  have hC := comes_any (h.below hb) hlen (Nat.le_trans hbase hb.size) s g 1
  have HB := Lib.hid hb
  unfold ky at *
  clear h hb
  go_enter Try.func8, Try.ntmps8
  go_wp2_with fail
  refine hC.mono ?_
  rintro e w1 ⟨rfl, v', hI, hF⟩
  have HI := Lib.hid hI
  have HF := Lib.hid hF
  clear hI hF hC
  dsimp only
  go_wp2_with fail
  go_ret2
  exact ⟨rfl, v', HI.out, (Fr.of_below HB.out _).trans HF.out⟩

set_option maxHeartbeats 800000 in
theorem lent_any {R base : Nat} {v : Value} {l : List Rf} {w : World} (h : IsR w R base v l) (hlen : l.length ≤ 1000) (hbase : base ≤ w.heap.size) (s g : Int) :
    Calls Try.prog 9 #[.pointer (some ⟨R, 0, none⟩), ky s g] w fun e w' => e = .returned (.tuple #[.int .u64 (l.length + 1), .int .i64 0]) ∧ ∃ v', IsR w' R base v' (l ++ [⟨s, g, 2⟩]) ∧ Fr (rown R v) w w' := by
  have hb := below_alloc w (.cells #[.int .i64 s, .int .u64 g] 29)
  have hC := comes_any (h.below hb) hlen (Nat.le_trans hbase hb.size) s g 2
  have HB := Lib.hid hb
  unfold ky at *
  clear h hb
  go_enter Try.func9, Try.ntmps9
  go_wp2_with fail
  refine hC.mono ?_
  rintro e w1 ⟨rfl, v', hI, hF⟩
  have HI := Lib.hid hI
  have HF := Lib.hid hF
  clear hI hF hC
  dsimp only
  go_wp2_with fail
  go_ret2
  exact ⟨rfl, v', HI.out, (Fr.of_below HB.out _).trans HF.out⟩

end Go.Proofs.Ytijiffgfodlepaa
