/-
  A nil broker does nothing, and its small closed case holds, whatever the event and the number: the row. No conditions.
-/
import Derived.Test.YtdmgncjahckngaaGreatRows
import Derived.Test.YtdmgncjahckngaaGreatB1
import Derived.Test.YtdmgncjahckngaaGreatBF
import Derived.WalkKit
import Derived.ProofKit
import Derived.OpenShut
import Derived.ShutString
import Derived.ChangeOld
import Derived.Below
import Derived.SizedLaws
namespace Go.Proofs.YtdmgncjahckngaaGreat.brokerNil
open Go.ChangeShapes Go.WideShapes Go.ChangeAt Go.RowKit
open Go.ChangeMaps (open_string shut_string)
set_option linter.all false
theorem own : ownKnob Tryz.prog.godebug = none := by kernel_rfl
theorem laidOut : laidOutB Tryz.prog = true := laid
theorem uncons {l : List Value} {n : Nat} (h : l.length = n + 1) : ∃ c l', l = c :: l' ∧ l'.length = n := by
  cases l with
  | nil => simp at h
  | cons c l => exact ⟨c, l, rfl, by simpa using h⟩
theorem fifteen {cs : Array Value} (h : cs.size = 15) : ∃ c0 c1 c2 c3 c4 c5 c6 c7 c8 c9 c10 c11 c12 c13 c14, cs = #[c0, c1, c2, c3, c4, c5, c6, c7, c8, c9, c10, c11, c12, c13, c14] := by
  obtain ⟨l⟩ := cs
  have h0 : l.length = 14 + 1 := h
  obtain ⟨c0, l1, e0, h1⟩ := uncons h0
  obtain ⟨c1, l2, e1, h2⟩ := uncons (n := 13) h1
  obtain ⟨c2, l3, e2, h3⟩ := uncons (n := 12) h2
  obtain ⟨c3, l4, e3, h4⟩ := uncons (n := 11) h3
  obtain ⟨c4, l5, e4, h5⟩ := uncons (n := 10) h4
  obtain ⟨c5, l6, e5, h6⟩ := uncons (n := 9) h5
  obtain ⟨c6, l7, e6, h7⟩ := uncons (n := 8) h6
  obtain ⟨c7, l8, e7, h8⟩ := uncons (n := 7) h7
  obtain ⟨c8, l9, e8, h9⟩ := uncons (n := 6) h8
  obtain ⟨c9, l10, e9, h10⟩ := uncons (n := 5) h9
  obtain ⟨c10, l11, e10, h11⟩ := uncons (n := 4) h10
  obtain ⟨c11, l12, e11, h12⟩ := uncons (n := 3) h11
  obtain ⟨c12, l13, e12, h13⟩ := uncons (n := 2) h12
  obtain ⟨c13, l14, e13, h14⟩ := uncons (n := 1) h13
  obtain ⟨c14, l15, e14, h15⟩ := uncons (n := 0) h14
  have e15 : l15 = [] := List.length_eq_zero_iff.mp h15
  refine ⟨c0, c1, c2, c3, c4, c5, c6, c7, c8, c9, c10, c11, c12, c13, c14, ?_⟩
  rw [e0, e1, e2, e3, e4, e5, e6, e7, e8, e9, e10, e11, e12, e13, e14, e15]
set_option maxRecDepth 100000 in
theorem lifted (os : Os) (started : os.Started) (H : Type) (enc : TypeId × Value → H) :
    ReturnsInHanded {} Tryz.checked os 4 .any (Rows.brokerNilSpec.pre6 enc Tryz.prog Tryz.f4 Rows.brokerNilRow.domain false) (Rows.brokerNilSpec.post enc Tryz.prog Tryz.f4 false true false false) := by
  refine returnsInHanded_of_change (C := Tryz.checked) own started (by kernel_rfl) Tryz.func4
    (ChangeSpec.witness6 (enc := enc) (C := Tryz.checked) false ⟨#[], #[.agg #[.int .i64 0, .int .i64 0, .int .i64 0, .string ByteArray.empty, .slice none 0 0, .int .i64 0, .int .i64 0, .string ByteArray.empty, .int .i64 0, .int .i64 0, .string ByteArray.empty, .int .i64 0, .string ByteArray.empty, .string ByteArray.empty, .bool false], .int .i64 0], []⟩ 8 (by kernel_rfl) (by kernel_rfl) (by kernel_rfl) (by kernel_rfl)) ?_
  intro W base args ds gs before hval0 hW hcnd _
  have hval : ∀ (j : Nat) t v, Tryz.f4.params[j]? = some t → args[j]? = some v → Value.okWide Tryz.prog W .any base t v := hval0
  have hW' := hW
  obtain ⟨p, q, hA0, hV, rfl, hfz, hnd⟩ := hW
  have hA : DataW.TrodAll enc Tryz.prog W 0 (fun _ => true) true Tryz.f4.params.toList args.toList ds p := hA0
  rw [Tryz.params4] at hA hval
  obtain ⟨v0, vs0, d0, ds0, p0, q0, hargs, rfl, rfl, h0, r0⟩ := trodAll_cons hA
  obtain ⟨v1, vs1, d1, ds1, p1, q1, rfl, rfl, rfl, h1, r1⟩ := trodAll_cons r0
  obtain ⟨rfl, rfl, rfl⟩ := trodAll_nil r1
  obtain rfl : args = #[v0, v1] := by cases args; simp_all
  obtain ⟨rfl, rfl⟩ := trodVars_none hV
  have k0 := h0
  have lt0 : ∀ x ∈ p0, x.block < W.heap.size := by obtain ⟨m, hm⟩ := k0; exact DataW.trod_lt m _ _ _ hm
  obtain ⟨cs, rfl, hsz⟩ := okWide_struct Tryz.underlying72 (hval 0 72 v0 rfl rfl)
  obtain ⟨c0, c1, c2, c3, c4, c5, c6, c7, c8, c9, c10, c11, c12, c13, c14, rfl⟩ := fifteen (hsz.trans (by kernel_rfl))
  obtain ⟨a1, rfl, rfl, rfl, w1⟩ := open_int Tryz.underlying3 (hval 1 3 v1 rfl rfl) h1
  clear hA0 hval0
  refine (law_walk _ _ _ _ _ _ _ _ _ _ _ _ _ _ _ a1 W).mono fun e W' ⟨he, bel⟩ => ?_
  subst he
  exact ⟨_, rfl, _, _, _, [], _, [], hW', trodAll_mk1 (shut_bool Tryz.underlying4 _), (trodAll_cons_mk (Below.trod laidOut (by kernel_rfl) (of_decide_eq_true (by kernel_rfl)) k0 bel lt0) (trodAll_cons_mk (shut_int Tryz.underlying3 w1) trodAll_mk0)), rfl, bel.frame _, fun h => by cases h⟩
theorem over : Rows.brokerNilRow.holds Tryz.pinned (OpenSpec.ofChange Rows.brokerNilSpec) :=
  OpenClaim.holds_of_wide 4 Tryz.f4 rfl rfl rfl rfl rfl rfl rfl ⟨rfl, rfl, rfl, rfl, rfl⟩ rfl rfl rfl rfl rfl (by kernel_rfl) Tryz.func4 brokerNilFacts.facts
    (of_decide_eq_true (by kernel_rfl)) (by unfold Func.isWrapper; first | (rw [if_pos (by decide +kernel)]; kernel_rfl) | (rw [if_neg (by decide +kernel)]; exact ⟨rfl, rfl⟩))
    (fun os started H enc _ => lifted os started H enc)
theorem proved : Rows.BrokerNilSaid := over
#print axioms proved
end Go.Proofs.YtdmgncjahckngaaGreat.brokerNil
namespace Go.Proofs.YtdmgncjahckngaaGreat
/-- The row, under a short name, for the claim. -/
theorem brokerNil_holds : Rows.BrokerNilSaid := brokerNil.proved
end Go.Proofs.YtdmgncjahckngaaGreat
