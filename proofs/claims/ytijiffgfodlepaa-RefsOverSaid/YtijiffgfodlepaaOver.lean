/- For every script: no number is given twice, whoever is over stays so, behind EndLent none is lent, and all that were owned are. -/
import Derived.Test.YtijiffgfodlepaaRows
import Derived.Test.YtijiffgfodlepaaZ
import Derived.ProofKit
import Derived.OpenShut
import Derived.ChangeOld
import Derived.Below
import Derived.Deep.Slices
import Derived.Deep.Strs
import Derived.ChangeSame
namespace Go.Proofs.Ytijiffgfodlepaa.Over
open Go.ChangeShapes Go.WideShapes Go.ChangeAt Go.RowKit Go.Deep

theorem ownKnobTry : ownKnob Try.prog.godebug = none := by kernel_rfl
theorem laidOutTry : laidOutB Try.prog = true := by kernel_rfl
theorem cells31 : Try.prog.cellsOf 31 = 4 := by kernel_rfl
theorem cells29 : Try.prog.cellsOf 29 = 2 := by kernel_rfl
theorem cells3 : Try.prog.cellsOf 3 = 1 := by kernel_rfl
theorem cells26 : Try.prog.cellsOf 26 = 1 := by kernel_rfl

theorem u64_bounds {r : Int} (h : (Lit.int .u64 r).wf = true) : 0 ≤ r ∧ r < 18446744073709551616 := by
  have e1 : IntKind.u64.min = 0 := rfl
  have e2 : IntKind.u64.max = 18446744073709551615 := rfl
  simp only [Lit.wf, e1, e2, Bool.and_eq_true, decide_eq_true_eq] at h
  omega

/-- What the walk is told of a slice of steps that came in. -/
def Steps (w : World) (a : Option Addr) (len : Nat) : Prop :=
  ∃ (b off : Nat) (Dd S G R : Nat → Int), (0 < len → a = some ⟨b, off, none⟩ ∧ b < w.heap.size) ∧ ∀ i, i < len → stepAt w b off i (Dd i) (S i) (G i) (R i)

set_option maxHeartbeats 400000 in
theorem over_long (a : Option Addr) (n cap : Nat) (w : World) (hn : 200 < n) :
    Calls Try.prog 3 #[.slice a n cap] w fun e w' => e = .returned (.bool true) ∧ Below w.heap.size w w' := by
  have hn' : (200 : Int) < (n : Int) := by omega
  have hW := rworks_any w
  go_enter Try.func3, Try.ntmps3
  go_wp2_with fail
  refine hW.mono ?_
  rintro e w3 ⟨rfl, hb3⟩
  dsimp only
  go_wp2_with fail
  go_ret
  exact ⟨rfl, hb3⟩

theorem over_any (a : Option Addr) (len cap : Nat) (w : World) (h : Steps w a len) :
    Calls Try.prog 3 #[.slice a len cap] w fun e w' => e = .returned (.bool true) ∧ Below w.heap.size w w' := by
  obtain ⟨b, off, Dd, S, G, R, ha, hc⟩ := h
  rcases Nat.lt_or_ge 200 len with h1 | h1
  · exact over_long a len cap w h1
  · exact over_walk (H := Unit) a b off len cap Dd S G R w h1 ha hc

theorem add_none {b off j : Nat} : (⟨b, off, none⟩ : Addr).add j = ⟨b, off + j, none⟩ := by
  unfold Addr.add
  split
  · rename_i h; subst h; rfl
  · rfl

theorem steps_of {H : Type} {enc : TypeId × Value → H} {w : World} {fuel : Nat} {a : Option Addr} {len cap : Nat} {x : DataW H × List MemPlace}
    (h : DataW.trod enc Try.prog w 0 (fun _ => true) true fuel 22 [.slice a len cap] = some x) : Steps w a len := by
  rcases open_slice Try.underlying22 h with ⟨hcs, _⟩ | ⟨ad, l, c, m, n, D, Pl, hcs, _, hl, _, hm, _, hel⟩
  · simp only [List.cons.injEq, Value.slice.injEq, and_true] at hcs
    obtain ⟨rfl, rfl, rfl⟩ := hcs
    exact ⟨0, 0, fun _ => 0, fun _ => 0, fun _ => 0, fun _ => 0, fun h => absurd h (Nat.lt_irrefl 0), fun i hi => absurd hi (Nat.not_lt_zero i)⟩
  · simp only [List.cons.injEq, Value.slice.injEq, and_true] at hcs
    obtain ⟨rfl, rfl, rfl⟩ := hcs
    simp only [if_true] at hm
    subst hm
    have key : ∀ i, i < len → ∃ d s g r : Int, w.cell? (ad.add (i * 4)) = some (.int .i64 d) ∧ w.cell? ((ad.add (i * 4)).add 1) = some (.int .i64 s) ∧ w.cell? ((ad.add (i * 4)).add 2) = some (.int .u64 g) ∧ w.cell? ((ad.add (i * 4)).add 3) = some (.int .u64 r) ∧ (0 ≤ r ∧ r < 18446744073709551616) := by
      intro i hi
      obtain ⟨cs, hcs, ht⟩ := hel i (by omega)
      rw [cells31] at hcs
      obtain ⟨_, hlen, hat⟩ := World.cells?_some hcs
      obtain ⟨y0, y1, y2, k, _, _, f0, f1, f2⟩ := trod_struct3 Try.underlying31 ht
      match cs, hlen with
      | [c0, c1, c2, c3], _ =>
        simp only [cells3, cells26, cells29, List.drop_zero, List.drop_succ_cons, List.take_succ_cons, List.take_zero] at f0 f1 f2
        obtain ⟨d, e0, _, _⟩ := DataW.trod_int Try.underlying3 f0
        obtain ⟨z0, z1, k', _, _, h0, h1⟩ := trod_struct2 Try.underlying29 f1
        simp only [cells3, cells26, List.drop_zero, List.drop_succ_cons, List.take_succ_cons, List.take_zero] at h0 h1
        obtain ⟨s, e1, _, _⟩ := DataW.trod_int Try.underlying3 h0
        obtain ⟨g, e2, _, _⟩ := DataW.trod_int Try.underlying26 h1
        obtain ⟨r, e3, _, w3⟩ := DataW.trod_int Try.underlying26 f2
        simp only [List.cons.injEq, and_true] at e0 e1 e2 e3
        subst e0 e1 e2 e3
        have a0 := hat 0 (by omega)
        have a1 := hat 1 (by omega)
        have a2 := hat 2 (by omega)
        have a3 := hat 3 (by omega)
        exact ⟨d, s, g, r, by simpa [Addr.add] using a0, by simpa using a1, by simpa using a2, by simpa using a3, u64_bounds w3⟩
    rcases Nat.eq_zero_or_pos len with rfl | hpos
    · exact ⟨0, 0, fun _ => 0, fun _ => 0, fun _ => 0, fun _ => 0, fun h => absurd h (Nat.lt_irrefl 0), fun i hi => absurd hi (Nat.not_lt_zero i)⟩
    · obtain ⟨d, s, g, r, k0, _⟩ := key 0 hpos
      have hsp : ad.spot = none := by
        unfold World.cell? at k0
        simp only [Nat.zero_mul, Addr.add, if_true] at k0
        split at k0
        · cases hs : ad.spot with
          | none => rfl
          | some _ => simp [hs] at k0
        · cases k0
      obtain ⟨b, off, sp⟩ := ad
      simp only at hsp
      subst hsp
      have key' : ∀ i, ∃ d s g r : Int, i < len → stepAt w b off i d s g r := fun i => by
        by_cases hi : i < len
        · obtain ⟨d, s, g, r, h0, h1, h2, h3, h4⟩ := key i hi
          simp only [add_none] at h0 h1 h2 h3
          exact ⟨d, s, g, r, fun _ => ⟨h0, h1, h2, h3, h4⟩⟩
        · exact ⟨0, 0, 0, 0, fun h => absurd h hi⟩
      obtain ⟨Dd, h1⟩ := Classical.axiomOfChoice key'
      obtain ⟨S, h2⟩ := Classical.axiomOfChoice h1
      obtain ⟨G, h3⟩ := Classical.axiomOfChoice h2
      obtain ⟨R, h4⟩ := Classical.axiomOfChoice h3
      refine ⟨b, off, Dd, S, G, R, fun _ => ⟨rfl, ?_⟩, h4⟩
      have := World.block_lt_of_cell? w _ k0
      simpa [Addr.add] using this

set_option maxRecDepth 100000 in
theorem over_lifted (os : Os) (started : os.Started) (H : Type) (enc : TypeId × Value → H) :
    ReturnsInHanded {} Try.checked os 3 .any (Rows.refsOverSpec.pre6 enc Try.prog Try.f3 Rows.refsOverRow.domain false) (Rows.refsOverSpec.post enc Try.prog Try.f3 false true false false) := by
  refine returnsInHanded_of_change (C := Try.checked) ownKnobTry started (by kernel_rfl) Try.func3
    (ChangeSpec.witness6 (enc := enc) (C := Try.checked) false ⟨#[], #[.slice none 0 0], []⟩ 8 (by kernel_rfl) (by kernel_rfl) (by kernel_rfl) (by kernel_rfl)) ?_
  intro W base args ds gs before hval0 hW hcnd _
  have hval : ∀ (j : Nat) t v, Try.f3.params[j]? = some t → args[j]? = some v → Value.okWide Try.prog W .any base t v := hval0
  have hW' := hW
  obtain ⟨p, q, hA0, hV, rfl, hfz, hnd⟩ := hW
  have hA : DataW.TrodAll enc Try.prog W 0 (fun _ => true) true Try.f3.params.toList args.toList ds p := hA0
  rw [Try.params3] at hA hval
  obtain ⟨v0, vs0, d0, ds0, p0, q0, hargs, rfl, rfl, h0, r0⟩ := trodAll_cons hA
  obtain ⟨rfl, rfl, rfl⟩ := trodAll_nil r0
  obtain rfl : args = #[v0] := by cases args; simp_all
  obtain ⟨rfl, rfl⟩ := trodVars_none hV
  obtain ⟨a0, len0, cap0, rfl⟩ := okWide_slice Try.underlying22 (hval 0 22 v0 rfl rfl)
  have k0 := h0
  have lt0 : ∀ x ∈ p0, x.block < W.heap.size := by obtain ⟨m, hm⟩ := k0; exact DataW.trod_lt m _ _ _ hm
  have w0 : Steps W a0 len0 := by
    obtain ⟨fuel, hf⟩ := h0
    exact steps_of hf
  clear hA0 hval0
  refine (over_any a0 len0 cap0 W w0).mono fun e W' ⟨he, bel⟩ => ?_
  subst he
  exact ⟨_, rfl, _, _, _, [], _, [], hW', trodAll_mk1 (shut_bool Try.underlying4 _), (trodAll_cons_mk (Below.trod laidOutTry (by kernel_rfl) (of_decide_eq_true (by kernel_rfl)) k0 bel lt0) trodAll_mk0), rfl, bel.frame _, fun h => by cases h⟩

end Go.Proofs.Ytijiffgfodlepaa.Over
namespace Go.Proofs.Ytijiffgfodlepaa

theorem refsOver_holds : Rows.RefsOverSaid :=
  OpenClaim.holds_of_wide 3 Try.f3 rfl rfl rfl rfl rfl rfl rfl ⟨rfl, rfl, rfl, rfl, rfl⟩ rfl rfl rfl rfl rfl (by kernel_rfl) Try.func3 (by kernel_rfl)
    (of_decide_eq_true (by kernel_rfl)) (by unfold Func.isWrapper; first | (rw [if_pos (by decide +kernel)]; kernel_rfl) | (rw [if_neg (by decide +kernel)]; exact ⟨rfl, rfl⟩))
    (fun os started H enc _ => Over.over_lifted os started H enc)

#print axioms refsOver_holds
end Go.Proofs.Ytijiffgfodlepaa
