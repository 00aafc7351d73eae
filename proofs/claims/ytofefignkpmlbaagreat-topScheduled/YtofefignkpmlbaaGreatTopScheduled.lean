/- The law TopScheduled returns true at every input, and its arguments read afterwards as they did before. No condition. -/
import Derived.Test.YtofefignkpmlbaaGreatRows
import Derived.Test.YtofefignkpmlbaaGreatRd
import Derived.Test.YtofefignkpmlbaaGreatRc
/- TopScheduled: the row. -/
namespace Go.Proofs.YtofefignkpmlbaaGreat
open Go.ChangeShapes Go.WideShapes Go.ChangeAt Go.RowKit

theorem Tryz.own : ownKnob Tryz.prog.godebug = none := by kernel_rfl
theorem Tryz.laidOut : laidOutB Tryz.prog = true := by kernel_rfl

theorem law_calls (a0 : Int) (w0 : (Lit.int .u8 a0).wf = true) (W : World) (v1 : Value) (ps : List Am.PartV) (hp : Am.PartsAt W v1 ps) :
    Calls Tryz.prog 3 #[.int .u8 a0, v1] W fun e W' => e = .returned (.bool true) ∧ Below W.heap.size W W' := by
  obtain ⟨ρ, h, F, sl, h1, h2, h3, h4, h5⟩ := Am.parts_hr hp
  obtain ⟨h', e, hk⟩ := Am.scheduled_ok 0 h a0.toNat sl ps h3
  rw [Am.u8_nat w0] at e
  have := Am.calls_true e (args' := [.int .u8 a0, v1]) h1 (Am.VRs.cons (by simp only [Am.VR]) (Am.VRs.cons h2 Am.VRs.nil)) h4
  refine Calls.mono this ?_
  rintro e w' ⟨rfl, ρ', h6, h7, h8⟩
  exact ⟨rfl, h5 ρ' h' w' h6 h7 h8 hk⟩

set_option maxRecDepth 100000 in
theorem law_lifted (os : Os) (started : os.Started) (H : Type) (enc : TypeId × Value → H) :
    ReturnsInHanded {} Tryz.checked os 3 .any (Rows.topScheduledSpec.pre6 enc Tryz.prog Tryz.f3 Rows.topScheduledRow.domain false) (Rows.topScheduledSpec.post enc Tryz.prog Tryz.f3 false true false false) := by
  refine returnsInHanded_of_change (C := Tryz.checked) Tryz.own started (by kernel_rfl) Tryz.func3
    (ChangeSpec.witness6 (enc := enc) (C := Tryz.checked) false ⟨#[], #[.int .u8 0, .slice none 0 0], []⟩ 8 (by kernel_rfl) (by kernel_rfl) (by kernel_rfl) (by kernel_rfl)) ?_
  intro W base args ds gs before hval0 hW _ _
  have hval : ∀ (j : Nat) t v, Tryz.f3.params[j]? = some t → args[j]? = some v → Value.okWide Tryz.prog W .any base t v := hval0
  have hW' := hW
  obtain ⟨p, q, hA0, hV, rfl, hfz, hnd⟩ := hW
  have hA : DataW.TrodAll enc Tryz.prog W 0 (fun _ => true) true Tryz.f3.params.toList args.toList ds p := hA0
  rw [Tryz.params3] at hA hval
  obtain ⟨v0, v1, d0, d1, p0, p1, rfl, rfl, rfl, h0, h1⟩ := trodAll_two hA
  obtain ⟨rfl, rfl⟩ := trodVars_none hV
  obtain ⟨a0, rfl, rfl, rfl, w0⟩ := open_int Tryz.underlying5 (hval 0 5 v0 rfl rfl) h0
  clear hA0 hval0
  simp only [List.append_nil, List.nil_append] at hW' hfz
  have hlt : ∀ x ∈ p1, x.block < W.heap.size := fun x hx => hW'.lt x hx
  obtain ⟨ps, hps⟩ := Am.open_parts (hval 1 22 v1 rfl rfl) h1 hfz
  refine (law_calls a0 w0 W v1 ps hps).mono fun e W' ⟨he, hb⟩ => ?_
  subst he
  have h1' : DataW.Trod enc Tryz.prog W' 0 (fun b => decide (b < W.heap.size)) true 22 v1 d1 p1 := Below.trod Tryz.laidOut (by kernel_rfl) (of_decide_eq_true (by kernel_rfl)) h1 hb hlt
  refine ⟨_, rfl, _, _, _, [], p1, [], hW', trodAll_mk1 (shut_bool Tryz.underlying4 _), ?_, ?_, hb.frame _, fun h => by cases h⟩
  · exact trodAll_mk2 (shut_int Tryz.underlying5 w0) h1'
  · rfl

theorem topScheduled_holds : Rows.TopScheduledSaid :=
  OpenClaim.holds_of_wide 3 Tryz.f3 rfl rfl rfl rfl rfl rfl rfl ⟨rfl, rfl, rfl, rfl, rfl⟩ rfl rfl rfl rfl rfl (by kernel_rfl) Tryz.func3 (by kernel_rfl)
    (of_decide_eq_true (by kernel_rfl)) (by unfold Func.isWrapper; first | (rw [if_pos (by decide +kernel)]; kernel_rfl) | (rw [if_neg (by decide +kernel)]; exact ⟨rfl, rfl⟩))
    (fun os started H enc _ => law_lifted os started H enc)
end Go.Proofs.YtofefignkpmlbaaGreat

