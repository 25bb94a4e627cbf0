/- For every slice of handles, and both flags: what is pushed at one end and popped at the other comes in the order in which it was pushed, and at the same end the other way about. -/
import Derived.Test.YtijiffgfodlepaaRows
import Derived.Test.YtijiffgfodlepaaJ
import Derived.ProofKit
import Derived.OpenShut
import Derived.ChangeOld
import Derived.Below
import Derived.Deep.Slices
import Derived.ChangeSame
namespace Go.Proofs.Ytijiffgfodlepaa
open Go.ChangeShapes Go.WideShapes Go.ChangeAt Go.RowKit Go.Deep

theorem ownKnobTry : ownKnob Try.prog.godebug = none := by kernel_rfl
theorem laidOutTry : laidOutB Try.prog = true := by kernel_rfl
theorem cells29 : Try.prog.cellsOf 29 = 2 := by kernel_rfl
theorem cells3 : Try.prog.cellsOf 3 = 1 := by kernel_rfl
theorem cells26 : Try.prog.cellsOf 26 = 1 := by kernel_rfl

/-- What the walk is told of a slice of handles that came in. -/
def Hands (w : World) (a : Option Addr) (len : Nat) : Prop :=
  ∃ (b off : Nat) (S G : Nat → Int), (0 < len → a = some ⟨b, off, none⟩ ∧ b < w.heap.size) ∧
    ∀ i, i < len → w.cell? ⟨b, off + 2 * i, none⟩ = some (.int .i64 (S i)) ∧ w.cell? ⟨b, off + (2 * i + 1), none⟩ = some (.int .u64 (G i)) ∧ Wf (S i) (G i)

theorem turned_any (a : Option Addr) (len cap : Nat) (push pop : Bool) (w : World) (h : Hands w a len) :
    Calls Try.prog 4 #[.slice a len cap, .bool push, .bool pop] w fun e w' => e = .returned (.bool true) ∧ Below w.heap.size w w' := by
  obtain ⟨b, off, S, G, ha, hc⟩ := h
  rcases Nat.lt_or_ge 300 len with h1 | h1
  · exact turned_long a len cap push pop w h1
  · exact turned_some a b off len cap S G push pop w h1 ha hc

theorem add_none {b off j : Nat} : (⟨b, off, none⟩ : Addr).add j = ⟨b, off + j, none⟩ := by
  unfold Addr.add
  split
  · rename_i h; subst h; rfl
  · rfl

theorem hands_of {H : Type} {enc : TypeId × Value → H} {w : World} {fuel : Nat} {a : Option Addr} {len cap : Nat} {x : DataW H × List MemPlace}
    (h : DataW.trod enc Try.prog w 0 (fun _ => true) true fuel 42 [.slice a len cap] = some x) : Hands w a len := by
  rcases open_slice Try.underlying42 h with ⟨hcs, _⟩ | ⟨ad, l, c, m, n, D, Pl, hcs, _, hl, _, hm, _, hel⟩
  · simp only [List.cons.injEq, Value.slice.injEq, and_true] at hcs
    obtain ⟨rfl, rfl, rfl⟩ := hcs
    exact ⟨0, 0, fun _ => 0, fun _ => 0, fun h => absurd h (Nat.lt_irrefl 0), fun i hi => absurd hi (Nat.not_lt_zero i)⟩
  · simp only [List.cons.injEq, Value.slice.injEq, and_true] at hcs
    obtain ⟨rfl, rfl, rfl⟩ := hcs
    simp only [if_true] at hm
    subst hm
    have key : ∀ i, i < len → ∃ s g : Int, w.cell? (ad.add (i * 2)) = some (.int .i64 s) ∧ w.cell? ((ad.add (i * 2)).add 1) = some (.int .u64 g) ∧ Wf s g := by
      intro i hi
      obtain ⟨cs, hcs, ht⟩ := hel i (by omega)
      rw [cells29] at hcs
      obtain ⟨_, hlen, hat⟩ := World.cells?_some hcs
      obtain ⟨y0, y1, k, _, _, h0, h1⟩ := trod_struct2 Try.underlying29 ht
      match cs, hlen with
      | [c0, c1], _ =>
        simp only [cells3, cells26, List.drop_zero, List.drop_succ_cons, List.take_succ_cons, List.take_zero] at h0 h1
        obtain ⟨s, e0, _, w0⟩ := DataW.trod_int Try.underlying3 h0
        obtain ⟨g, e1, _, w1⟩ := DataW.trod_int Try.underlying26 h1
        simp only [List.cons.injEq, and_true] at e0 e1
        subst e0 e1
        have a0 := hat 0 (by omega)
        have a1 := hat 1 (by omega)
        exact ⟨s, g, by simpa [Addr.add] using a0, by simpa using a1, w0, w1⟩
    rcases Nat.eq_zero_or_pos len with rfl | hpos
    · exact ⟨0, 0, fun _ => 0, fun _ => 0, fun h => absurd h (Nat.lt_irrefl 0), fun i hi => absurd hi (Nat.not_lt_zero i)⟩
    · obtain ⟨s, g, k0, _, _⟩ := key 0 hpos
      have hsp : ad.spot = none := by
        unfold World.cell? at k0
        simp only [Nat.zero_mul, Addr.add, if_true] at k0
        split at k0
        · cases hs : ad.spot with
          | none => rfl
          | some _ => simp [hs] at k0
        · cases k0
      obtain ⟨b, off, sp⟩ := ad
      simp only at hsp
      subst hsp
      have key' : ∀ i, i < len → ∃ s g : Int, w.cell? ⟨b, off + 2 * i, none⟩ = some (.int .i64 s) ∧ w.cell? ⟨b, off + (2 * i + 1), none⟩ = some (.int .u64 g) ∧ Wf s g := fun i hi => by
        have := key i hi
        simp only [add_none] at this
        rw [Nat.mul_comm 2 i, ← Nat.add_assoc]
        exact this
      clear key
      refine ⟨b, off, fun i => if h : i < len then Classical.choose (key' i h) else 0, fun i => if h : i < len then Classical.choose (Classical.choose_spec (key' i h)) else 0, fun _ => ⟨rfl, ?_⟩, fun i hi => ?_⟩
      · have := World.block_lt_of_cell? w _ k0
        simpa [Addr.add] using this
      · simp only [dif_pos hi]
        exact Classical.choose_spec (Classical.choose_spec (key' i hi))

set_option maxRecDepth 100000 in
theorem turned_lifted (os : Os) (started : os.Started) (H : Type) (enc : TypeId × Value → H) :
    ReturnsInHanded {} Try.checked os 4 .any (Rows.listTurnedSpec.pre6 enc Try.prog Try.f4 Rows.listTurnedRow.domain false) (Rows.listTurnedSpec.post enc Try.prog Try.f4 false true false false) := by
  refine returnsInHanded_of_change (C := Try.checked) ownKnobTry started (by kernel_rfl) Try.func4
    (ChangeSpec.witness6 (enc := enc) (C := Try.checked) false ⟨#[], #[.slice none 0 0, .bool false, .bool false], []⟩ 8 (by kernel_rfl) (by kernel_rfl) (by kernel_rfl) (by kernel_rfl)) ?_
  intro W base args ds gs before hval0 hW hcnd _
  have hval : ∀ (j : Nat) t v, Try.f4.params[j]? = some t → args[j]? = some v → Value.okWide Try.prog W .any base t v := hval0
  have hW' := hW
  obtain ⟨p, q, hA0, hV, rfl, hfz, hnd⟩ := hW
  have hA : DataW.TrodAll enc Try.prog W 0 (fun _ => true) true Try.f4.params.toList args.toList ds p := hA0
  rw [Try.params4] at hA hval
  obtain ⟨v0, vs0, d0, ds0, p0, q0, hargs, rfl, rfl, h0, r0⟩ := trodAll_cons hA
  obtain ⟨v1, vs1, d1, ds1, p1, q1, rfl, rfl, rfl, h1, r1⟩ := trodAll_cons r0
  obtain ⟨v2, vs2, d2, ds2, p2, q2, rfl, rfl, rfl, h2, r2⟩ := trodAll_cons r1
  obtain ⟨rfl, rfl, rfl⟩ := trodAll_nil r2
  obtain rfl : args = #[v0, v1, v2] := by cases args; simp_all
  obtain ⟨rfl, rfl⟩ := trodVars_none hV
  obtain ⟨a0, len0, cap0, rfl⟩ := okWide_slice Try.underlying42 (hval 0 42 v0 rfl rfl)
  have k0 := h0
  have lt0 : ∀ x ∈ p0, x.block < W.heap.size := by obtain ⟨m, hm⟩ := k0; exact DataW.trod_lt m _ _ _ hm
  have w0 : Hands W a0 len0 := by
    obtain ⟨fuel, hf⟩ := h0
    exact hands_of hf
  obtain ⟨a1, rfl, rfl, rfl⟩ := open_bool Try.underlying4 (hval 1 4 v1 rfl rfl) h1
  obtain ⟨a2, rfl, rfl, rfl⟩ := open_bool Try.underlying4 (hval 2 4 v2 rfl rfl) h2
  clear hA0 hval0
  refine (turned_any a0 len0 cap0 a1 a2 W w0).mono fun e W' ⟨he, bel⟩ => ?_
  subst he
  exact ⟨_, rfl, _, _, _, [], _, [], hW', trodAll_mk1 (shut_bool Try.underlying4 _), (trodAll_cons_mk (Below.trod laidOutTry (by kernel_rfl) (of_decide_eq_true (by kernel_rfl)) k0 bel lt0) (trodAll_cons_mk (shut_bool Try.underlying4 _) (trodAll_cons_mk (shut_bool Try.underlying4 _) trodAll_mk0))), rfl, bel.frame _, fun h => by cases h⟩

theorem listTurned_holds : Rows.ListTurnedSaid :=
  OpenClaim.holds_of_wide 4 Try.f4 rfl rfl rfl rfl rfl rfl rfl ⟨rfl, rfl, rfl, rfl, rfl⟩ rfl rfl rfl rfl rfl (by kernel_rfl) Try.func4 (by kernel_rfl)
    (of_decide_eq_true (by kernel_rfl)) (by unfold Func.isWrapper; first | (rw [if_pos (by decide +kernel)]; kernel_rfl) | (rw [if_neg (by decide +kernel)]; exact ⟨rfl, rfl⟩))
    (fun os started H enc _ => turned_lifted os started H enc)

#print axioms listTurned_holds
end Go.Proofs.Ytijiffgfodlepaa
