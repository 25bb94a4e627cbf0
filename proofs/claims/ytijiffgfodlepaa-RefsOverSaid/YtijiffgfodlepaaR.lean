/- A range over a function whose body may write what the iterator reads: the statement's rule where the caller's invariant tells the iterator what it reads; the contract of the iterator over references of a kind. -/
import Derived.RangeFuncNested
import Derived.RangeFuncBound
import Derived.RangeFuncCalls
import Derived.RangeFuncLeaves
import Derived.Shelf.Abstract
import Derived.Shelf.RegionOpen
import Derived.WalkKit
import Derived.WalkSpells
import Derived.WalkLawsBesides
import Derived.OwnWalkIn
import Derived.TacticsInMore
import Derived.LoopNIn
import Derived.LoopIn
import Derived.Lib.Hide
import Derived.Test.YtijiffgfodlepaaProg
namespace Go.Proofs.Ytijiffgfodlepaa
open Go.RowKit Go.Shelf
attribute [local go_sem] Oper.semAt_some

/-- The iterator's promise to a caller whose invariant is I: it hands on elements that are due, in its order, each once; all of them in the end. -/
def SeqRd {α : Type} (F : Fence) (n : Nat) (P : Program) (g : Nat) (lb : Array Value) (encs : α → Array Value) (I : List α → World → Prop) (Ok : List α → α → Prop) (S : List α → Prop) (w : World) : Prop :=
  ∀ (l : Nat) (J : List α → World → Prop) (W : World), Below w.heap.size w W → AbidesFrom W.heap.size J → (∀ pre W1, J pre W1 → I pre W1) →
    (∀ pre x W1, J pre W1 → Ok pre x → YieldAt F (n - 1) P l (encs x) W1 fun e W' => e = .returned (.bool true) ∧ J (pre ++ [x]) W') →
    J [] W → CallsIn F n P g (#[.func (.yield l) #[] #[]] ++ lb) W fun e W' => (∃ v, e = .returned v) ∧ ∃ xs, S xs ∧ J xs W'

/-- How a round may end: it goes on. -/
def goesOn {α : Type} (I : List α → World → Prop) (xs : List α) (W : World) : Exit → Act → World → Prop
  | .normal, _, W' => KeepsOthers W W' ∧ I xs W'
  | _, _, _ => False

variable {F : Fence} {n : Nat} {P : Program}

theorem range_rd {α : Type} {g : Operand} {ps : Array Tmp} {assign body : Code} {Q : Exit → Act → World → Prop} {a : Act} {w : World}
    (hro : F.round = none) (h1 : 1 ≤ n) {gf : Nat} {lb : Array Value} (hg : a.eval g = .func (.func gf) #[] lb) (hFg : F.fn gf) (eg : ∀ args w, (callFunc gf args).run P w = .ok (.enter gf args) w)
    {encs : α → Array Value} {I : List α → World → Prop} {Ok : List α → α → Prop} {S : List α → Prop} (hseq : SeqRd F (n - 1) P gf lb encs I Ok S w) (hps : ∀ x, (encs x).size = ps.size)
    (hI : OwnFrom w.heap.size I) (h0 : I [] w) (a₁ : α → Act)
    (hassign : ∀ (l : Nat) (x : α) (W : World) (K : Act → World → Prop), K (a₁ x) W →
      assign.wpIn (F.inRound l) (n - 1 - 1) P (Exit.then K (fun _ _ _ => False)) { tmps := (ps.zip (encs x)).foldl (fun t (p, v) => t.setIfInBounds p v) a.tmps, defers := [] } W)
    (hbody : ∀ (l : Nat) (pre : List α) (x : α) (W : World), I pre W → Ok pre x → body.wpIn (F.inRound l) (n - 1 - 1) P (goesOn I (pre ++ [x]) W) (a₁ x) W)
    (hdone : ∀ (D : Nat) (xs : List α) (W : World), w.heap.size ≤ D → S xs → I xs W → W.heap[D]? = some (.deferred (some [])) → Q .normal { a with defers := { target := .collected D, args := #[] } :: a.defers } W) :
    (Code.rangeFunc g ps assign body).wpIn F n P Q a w := by
  refine wpIn_rangeFunc fun fn hfn => ?_
  rw [hro]
  obtain ⟨rec, hrec⟩ : ∃ rec : LoopState → Option Code → Loop, rec = fun st pe => { state := st, pending := pe, fn, tmps := a.tmps, params := ps, assign, body, defers := w.heap.size } := ⟨_, rfl⟩
  obtain ⟨W1, hW1⟩ : ∃ W1, (w.alloc (.deferred (some []))).alloc (.loop (rec .ready none)) = W1 := ⟨_, rfl⟩
  have hL1 : W1.heap[w.heap.size + 1]? = some (.loop (rec .ready none)) := by
    have := World.alloc_heap_new (w.alloc (.deferred (some []))) (.loop (rec .ready none))
    rw [World.size_alloc] at this
    rw [← hW1]; exact this
  have hK1 : W1.heap[w.heap.size]? = some (.deferred (some [])) := by
    rw [← hW1, Below.heap_alloc _ _ _ (by simp)]; exact World.alloc_heap_new w _
  have hb1 : Below w.heap.size w W1 := by rw [← hW1]; exact ((Below.refl _ w).alloc (Nat.le_refl _) _).alloc (by simp) _
  have hI1 : I [] W1 := by rw [← hW1]; exact hI.alloc _ (hI.alloc _ h0)
  have hs1 : w.heap.size + 2 = W1.heap.size := by rw [← hW1]; simp
  refine ⟨w.heap.size + 1, [{ target := .collected w.heap.size, args := #[] }], W1, { target := .fn (.func gf) lb, args := #[.func (.yield (w.heap.size + 1)) #[] #[]] }, W1, gf,
    #[.func (.yield (w.heap.size + 1)) #[] #[]] ++ lb, W1, ?_, ?_, ?_, ?_, fun _ => h1, ?_⟩
  · rw [← hW1, hrec]; exact run_enterLoop_outer _ _ _ _ _
  · simp only [resolve, hg]; simp [go_sem]
  · intro f' hf'; simp [Target.leads] at hf'; subst hf'; exact hFg
  · simp [invoke, go_sem, eg]
  · refine (hseq (w.heap.size + 1) (fun pre W => I pre W ∧ W.heap[w.heap.size + 1]? = some (.loop (rec .ready none)) ∧ W.heap[w.heap.size]? = some (.deferred (some []))) W1 hb1 ?_ (fun _ _ h => h.1) ?_ ⟨hI1, hL1, hK1⟩).mono ?_
    · intro s A B row hs hg' hr
      refine ⟨hI s A B row hs.1 hg' fun r e => ?_, (grownBy_keeps hg' (fun r e => (hr r e).2) hs.2.1 rfl).trans hs.2.1, (grownBy_keeps hg' (fun r e => (hr r e).2) hs.2.2 rfl).trans hs.2.2⟩
      obtain ⟨hB, o, ho, hw⟩ := hr r e
      exact ⟨by omega, o, ho, Obj.not_cells_of_walk hw⟩
    · rintro pre x W ⟨hi, hl, hk⟩ hok
      have hlt : w.heap.size + 1 < W.heap.size := (Array.getElem?_eq_some_iff.1 hl).1
      have hy := run_yield (P := P) (args := encs x) hl (by rw [hrec]; exact hps x)
      rw [hrec] at hy
      refine ⟨fn, _, assign, body, hy, roundIn_of_wpIn hfn (hassign _ x W _ ⟨_, run_beginRound hl (by rw [hrec]), ?_⟩)⟩
      have hl2 : (W.putObj (w.heap.size + 1) (.loop { rec .ready none with state := .busy })).heap[w.heap.size + 1]? = some (.loop { rec .ready none with state := .busy }) := World.putObj_heap_same hlt
      have hk2 : (W.putObj (w.heap.size + 1) (.loop { rec .ready none with state := .busy })).heap[w.heap.size]? = some (.deferred (some [])) := (World.putObj_heap_other (by omega)).trans hk
      refine wpIn_mono (hbody _ pre x _ (hI.putObj _ hi (by omega) hl rfl) hok) ?_
      rintro e a3 W3 hp
      cases e with
      | normal =>
        obtain ⟨hk3, hi3⟩ := hp
        have hl3 := hk3.same _ _ hl2 rfl
        have hend := run_endRound (P := P) none hl3
        rw [hrec] at hend hl3
        refine ⟨_, _, hend, rfl, hI.putObj _ hi3 (by omega) hl3 rfl, ?_, (World.putObj_heap_other (by omega)).trans (hk3.same _ _ hk2 rfl)⟩
        rw [hrec]
        exact World.putObj_heap_same (Array.getElem?_eq_some_iff.1 hl3).1
      | _ => exact hp.elim
    · rintro e W2 ⟨⟨v, rfl⟩, xs, hS, hi, hl, hk⟩
      have hend := run_endLoop (P := P) hl (by rw [hrec]; simp)
      rw [hrec] at hend
      exact ⟨none, _, hend, hdone _ xs _ (Nat.le_refl _) hS (hI.putObj _ hi (by omega) hl rfl) ((World.putObj_heap_other (by omega)).trans hk)⟩

structure Rf where
  s : Int
  g : Int
  k : Int

/-- What the iterator reads, when those of 'pre' have come. -/
def Reads (br bk R : Nat) (kd : Int) (ad : Option Addr) (cap : Nat) (l : List Rf) (pre : List Nat) (W : World) : Prop :=
  W.cell? ⟨br, 0, none⟩ = some (.pointer (some ⟨R, 0, none⟩)) ∧ W.cell? ⟨bk, 0, none⟩ = some (.int .u8 kd) ∧ W.cell? ⟨R, 1, none⟩ = some (.slice ad l.length cap) ∧
  ∀ (i : Nat) (x : Rf), l[i]? = some x → (∀ y ∈ pre, y < i) → ∃ A, ad = some ⟨A, 0, none⟩ ∧
    W.cell? ⟨A, i * 3, none⟩ = some (.int .i64 x.s) ∧ W.cell? ⟨A, i * 3 + 1, none⟩ = some (.int .u64 x.g) ∧ W.cell? ⟨A, i * 3 + 2, none⟩ = some (.int .u8 x.k)

/-- Those of a kind, rising, below a place. -/
def ofKind (l : List Rf) (kd : Int) (m : Nat) : List Nat := (List.range m).filter fun i => match l[i]? with | some x => x.k == kd | none => false

theorem ofKind_succ_yes {l : List Rf} {kd : Int} {i : Nat} {x : Rf} (h : l[i]? = some x) (hk : x.k = kd) : ofKind l kd (i + 1) = ofKind l kd i ++ [i] := by
  unfold ofKind
  rw [List.range_succ, List.filter_append]
  simp [h, hk]
theorem ofKind_succ_no {l : List Rf} {kd : Int} {i : Nat} {x : Rf} (h : l[i]? = some x) (hk : ¬ x.k = kd) : ofKind l kd (i + 1) = ofKind l kd i := by
  unfold ofKind
  rw [List.range_succ, List.filter_append]
  simp [h, hk]
theorem ofKind_lt {l : List Rf} {kd : Int} {m y : Nat} (h : y ∈ ofKind l kd m) : y < m := by
  unfold ofKind at h
  exact List.mem_range.1 (List.mem_filter.1 h).1

set_option maxRecDepth 100000 in
set_option maxHeartbeats 1000000 in
theorem are1_in (F : Fence) (n : Nat) (h29 : F.fn 29) (hro : F.round = none) (hn : 1 ≤ n) (br bk R : Nat) (kd : Int) (ad : Option Addr) (cap : Nat) (l : List Rf) (hlen : l.length ≤ 1000)
    (I : List Nat → World → Prop) (hR : ∀ pre W, I pre W → Reads br bk R kd ad cap l pre W) (w : World) :
    SeqRd F n Try.prog 29 #[.pointer (some ⟨br, 0, none⟩), .pointer (some ⟨bk, 0, none⟩)] (fun i : Nat => #[.int .u64 (i + 1)]) I
      (fun pre i => pre = ofKind l kd i ∧ ∃ x, l[i]? = some x ∧ x.k = kd) (fun xs => xs = ofKind l kd l.length) w := by
  intro lo J W hW hJ hJI hY h0
  refine callsIn_of_wp Try.func29 rfl h29 ?_ hro
  simp only [Try.ntmps29, List.size_toArray, List.length_cons, List.length_nil, Nat.reduceAdd, Nat.reduceSub, Array.replicate_succ, Array.replicate_zero, List.push_toArray, List.append_toArray, List.nil_append, List.cons_append]
  obtain ⟨r0, r1, r2, _⟩ := hR _ _ (hJI _ _ h0)
  gi_wp2_with fail
  gi_loopw [13] (fun i wr => ∃ k : Nat, k ≤ l.length ∧ i = .int .i64 k ∧ J (ofKind l kd k) wr) (fun i _ => l.length - (intOf i).toNat)
  case atStart => exact ⟨0, Nat.zero_le _, rfl, h0⟩
  case round =>
    obtain ⟨k, hk, rfl, hJk⟩ := hrel
    obtain ⟨q0, q1, q2, q3⟩ := hR _ _ (hJI _ _ hJk)
    have HJ := Lib.hid hJk
    have Q3 := Lib.hid q3
    clear r0 r1 r2 hJk q3
    by_cases hlt : k < l.length
    · obtain ⟨x, hx⟩ : ∃ x, l[k]? = some x := ⟨_, List.getElem?_eq_getElem hlt⟩
      obtain ⟨A, rfl, c0, c1, c2⟩ := Q3.out k x hx (fun y hy => ofKind_lt hy)
      have hkk : (k : Int) < (l.length : Int) := by omega
      have HX := Lib.hid hx
      clear hx
      have hbk := World.block_lt_of_cell? wr _ q1
      have hJ2 : ∀ o, J (ofKind l kd k) (wr.alloc o) := fun o => hJ _ wr _ none HJ.out (World.grownBy_alloc wr o none) (fun r e => by cases e)
      by_cases hkd : x.k = kd
      · have hb : (x.k == kd) = true := by simpa using hkd
        have hy1 := hY (ofKind l kd k) k (wr.alloc (.cells #[.int .i64 x.s, .int .u64 x.g, .int .u8 x.k] 63)) (hJ2 _) ⟨rfl, x, HX.out, hkd⟩
        obtain ⟨fn, tmps, assign, body, hy, hRn⟩ := hy1
        have HKD := Lib.hid hkd
        clear hkd
        gi_wp2_with fail
        refine hRn.mono ?_
        rintro e W' ⟨rfl, hJ3⟩
        have HJ3 := Lib.hid hJ3
        clear hJ3 hJ2 hRn hy
        dsimp only
        gi_wp2_with fail
        go_roundw
        case rel => exact ⟨k + 1, by omega, by go_num, by rw [ofKind_succ_yes HX.out HKD.out]; exact HJ3.out⟩
        case measure => simp [intOf]; omega
      · have hb : (x.k == kd) = false := by simpa using hkd
        have HKD := Lib.hid hkd
        clear hkd
        gi_wp2_with fail
        refine ⟨fun _ h => (by cases h), ?_⟩
        gi_wp2_with fail
        go_roundw
        case rel => exact ⟨k + 1, by omega, by go_num, by rw [ofKind_succ_no HX.out HKD.out]; exact hJ2 _⟩
        case measure => simp [intOf]; omega
    · obtain rfl : k = l.length := by omega
      have hkk : ¬ (l.length : Int) < (l.length : Int) := by omega
      gi_wp2_with fail
      go_end0
      exact ⟨⟨_, rfl⟩, HJ.out⟩

end Go.Proofs.Ytijiffgfodlepaa
