/- An abstract machine for Go code and its soundness over the model; no condition of its own. Used by the proof that the law TopScheduled returns true at every input. -/
import Derived.Test.YtofefignkpmlbaaGreatFnTbl
import Derived.Test.YtofefignkpmlbaaGreatAmG
import Derived.Test.YtofefignkpmlbaaGreatAmF
/- The evaluator over the program's table, where the one closed call is known. -/
namespace Go.Am

noncomputable def fo : Nat → Rec
  | 0 => ⟨fun _ _ _ => .no 140, fun _ _ _ => .no 141, fun _ _ _ => .no 142⟩
  | n + 1 => ⟨fun f args h => match Pos.beq f i17, args with
      | true, [] => .ok (.bool true) h
      | _, _ => evalCall tbl (fo n) f args h, evalYield (fo n), fun c env h => evalCode (fo n) (.loop c) env h⟩

theorem fo_call {f : Pos} (hf : Pos.beq f i17 = false) (n args h) : (fo (n + 1)).call f args h = callK (fo n) args h f (PT.get f tbl) := by
  rw [← call_eq]
  show (match Pos.beq f i17, args with | true, [] => R.ok (AV.bool true) h | _, _ => evalCall tbl (fo n) f args h) = _
  rw [hf]
theorem fo_done (n h) : (fo (n + 1)).call i17 [] h = .ok (.bool true) h := rfl
theorem fo_loop (n c env h) : (fo (n + 1)).loop c env h = evalCode (fo n) (.loop c) env h := rfl
theorem fo_yield (n l args h) : (fo (n + 1)).yield l args h = evalYield (fo n) l args h := rfl
end Go.Am

namespace Go.Am
open Go.Proofs
set_option maxRecDepth 1000000
theorem run28 : okBool true ((fixK tbl 3000).call i17 [] ⟨.E, .H⟩) = true := by kernel_rfl

theorem works28 (w : World) : Calls Tryz.prog 17 #[] w fun e w' => e = .returned (.bool true) ∧ Kept w w' :=
  calls_bool ctx_ok (tbl_ok tbl_all) run28 w

end Go.Am

/- The evaluator with the one closed call that is known is sound. -/
namespace Go.Am
open Go.Proofs

/-- A closed call that ends in a truth value ends so in whatever memory. -/
theorem bare_sim {C : Cx} {f : Pos} {b : Bool} {h0 : Heap} (hs : CallSim C f [] ⟨.E, .H⟩ (.bool b) h0) (h : Heap) : CallSim C f [] h (.bool b) h := by
  obtain ⟨_, h2, sim⟩ := hs
  refine ⟨Nat.le_refl _, h2, ?_⟩
  intro ρ F w args' kind cs hr hv hf hc
  obtain ⟨ρ', u, w', fr, k1, k2, k3, k4, k5, k6, k7, k8, k9, k10⟩ := sim (fun _ => none) (allOf w) w args' kind cs (HR.bare C w .H) hv (fun _ _ _ => rfl) hc
  refine ⟨ρ, u, w', fr, Out.refl _ _ _, ?_, ?_, k4, k5, k6, k7, k8, k9, k10⟩
  · simp only [VR] at k2 ⊢; exact k2
  · have keep : ∀ (c : Nat) (o : Obj), w.heap[c]? = some o → w'.heap[c]? = some o := fun c o hc => k3.kept hc
    refine ⟨?_, hr.inj, fun c o e => (hr.frame c o e).congr (by have hlt := (hr.frame c o e).lt; rw [Array.getElem?_eq_getElem hlt]; exact keep _ _ (Array.getElem?_eq_getElem hlt)), hr.apart, hr.below⟩
    intro b o e
    obtain ⟨l, h1, h2⟩ := hr.live b o e
    refine ⟨l, h1, h2.mono (Ext.refl _) ?_⟩
    have hlt := h2.there
    have hx : w.heap[l.block]? = some w.heap[l.block] := Array.getElem?_eq_getElem hlt
    rw [hx]
    exact keep _ _ hx

theorem sim_bool {C : Cx} (ok : C.OK) {T : PT AFunc} (hT : TblOK C T) {n : Nat} {f : Pos} {b : Bool} (h : okBool b ((fixK T n).call f [] ⟨.E, .H⟩) = true) (h0 : Heap) : CallSim C f [] h0 (.bool b) h0 := by
  rw [fixK_eq] at h
  unfold okBool at h
  split at h
  · rename_i c h' e
    have hb : b = c := by cases b <;> cases c <;> first | rfl | (simp [eqBool] at h)
    subst hb
    exact bare_sim ((fix_sim ok hT (fun _ hr => drawn_ok ok _ hr) n).call _ _ _ _ _ e) h0
  · cases h

theorem call28 (h : Heap) : CallSim ⟨Tryz.prog, tyIn Tryz.prog tyn, ibn⟩ i17 [] h (.bool true) h := sim_bool ctx_ok (tbl_ok tbl_all) run28 h

theorem fo_inv {n : Nat} {f : Pos} {args : List AV} {h : Heap} {v : AV} {h' : Heap} (e : (fo (n + 1)).call f args h = .ok v h') : (f = i17 ∧ args = [] ∧ v = .bool true ∧ h' = h) ∨ evalCall tbl (fo n) f args h = .ok v h' := by
  have e : (match Pos.beq f i17, args with | true, [] => R.ok (AV.bool true) h | _, _ => evalCall tbl (fo n) f args h) = .ok v h' := e
  cases hf : Pos.beq f i17 with
  | false => rw [hf] at e; exact Or.inr e
  | true =>
    rw [hf] at e
    cases args with
    | nil => cases e; exact Or.inl ⟨Pos.beq_eq hf, rfl, rfl, rfl⟩
    | cons a l => exact Or.inr e

theorem fo_next : ∀ n, RecNext (fo n)
  | 0 => ⟨fun _ _ _ _ _ e => (by cases e), fun _ _ _ _ _ e => (by cases e), fun _ _ _ _ _ e => (by cases e)⟩
  | n + 1 => ⟨fun _ _ _ _ _ e => by
      rcases fo_inv e with ⟨_, _, _, rfl⟩ | e
      · exact Nat.le_refl _
      · exact evalCall_next (fo_next n) e, fun _ _ _ _ _ e => evalYield_next (fo_next n) e, fun _ _ _ _ _ e => evalCode_next (fo_next n) _ _ _ _ _ e⟩

theorem fo_sim : ∀ n, RecOK ⟨Tryz.prog, tyIn Tryz.prog tyn, ibn⟩ (fo n)
  | 0 => ⟨fo_next 0, fun _ _ _ _ _ e => (by cases e), fun _ _ _ _ _ e => (by cases e), fun _ _ _ _ _ _ _ _ _ e => (by cases e)⟩
  | n + 1 =>
    have ih := fo_sim n
    ⟨fo_next (n + 1), fun _ _ _ _ _ e => by
      rcases fo_inv e with ⟨rfl, rfl, rfl, rfl⟩ | e
      · exact call28 _
      · exact call_sim ctx_ok (tbl_ok tbl_all) ih (drawn_ok ctx_ok _ ih) e, fun _ _ _ _ _ e => yield_sim ctx_ok ih (drawn_ok ctx_ok _ ih) e, fun _ _ _ _ _ _ _ _ hx e => loop_sim ctx_ok ih (drawn_ok ctx_ok _ ih) hx e⟩

/-- A call that the evaluator brings to a truth value: the program's does, too. -/
theorem calls_true {n : Nat} {f : Pos} {args : List AV} {b : Bool} {h h' : Heap} (e : (fo n).call f args h = .ok (.bool b) h') {ρ : Map} {F : Nat → Option FObj} {w : World} {args' : List Value} (hr : HR ⟨Tryz.prog, tyIn Tryz.prog tyn, ibn⟩ ρ h F w)
    (hv : VRs ρ args args') (hf : ∀ x : Pos, h.next.nat ≤ x.nat → ρ x = none) :
    Calls Tryz.prog f.idx args'.toArray w fun e w' => e = .returned (.bool b) ∧ ∃ ρ', HR ⟨Tryz.prog, tyIn Tryz.prog tyn, ibn⟩ ρ' h' F w' ∧ Out ρ ρ' h.next h'.next ∧ Same w w' := by
  intro cs
  obtain ⟨_, _, sim⟩ := (fo_sim n).call _ _ _ _ _ e
  obtain ⟨ρ', u, w', fr, k1, k2, k3, k4, k5, k6, k7, k8, k9, fn, k10, k11⟩ := sim ρ F w args' .normal cs hr hv (fun x h1 _ => hf x h1) (.inl rfl)
  simp only [VR] at k2
  subst k2
  exact ⟨_, w', fr, ⟨rfl, ρ', k3, k1, k4⟩, k5, k9, k6, k7, k8, fn, by rw [k9]; exact k10, k11⟩
end Go.Am

