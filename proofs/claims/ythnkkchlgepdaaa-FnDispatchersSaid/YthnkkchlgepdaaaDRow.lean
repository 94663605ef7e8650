/- The law FnDispatchers answers true at every input, and the input reads as it did. No condition. -/
import Derived.Test.YthnkkchlgepdaaaRows
import Derived.Test.YthnkkchlgepdaaaDC
import Derived.WalkKit
import Derived.ProofKit
import Derived.OpenShut
import Derived.ChangeOld
import Derived.Below
import Derived.SizedLaws
namespace Go.Vm
open Go.Proofs Go.RowKit
set_option linter.unusedVariables false
set_option linter.unusedSimpArgs false
/-- the cells of a row of bytes -/
def IsRow (w : World) (a : Option Addr) (len cap : Nat) (zs : List Int) : Prop :=
  (a = none ∧ len = 0 ∧ cap = 0 ∧ zs = []) ∨
  ∃ x, a = some x ∧ len ≤ cap ∧ cap ≤ maxLen ∧ zs.length = cap ∧ len ≤ 140737488355328 ∧ (∀ i, i < zs.length → w.cell? (x.add i) = some (.int .u8 (zs.getD i 0))) ∧ ∀ n ∈ zs, (Lit.int .u8 n).wf = true

theorem repL_bytes (w : World) : ∀ (xs : List Int), (∀ n ∈ xs, inK .u8 n) → RepL (Rep w (.int .u8) .ro) xs (xs.map (Value.int .u8)) [] []
  | [], _ => ⟨rfl, rfl, rfl⟩
  | x :: xs, h => ⟨[.int .u8 x], xs.map (Value.int .u8), [], [], [], [], rfl, rfl, rfl, ⟨rfl, rfl, rfl, h x (by simp)⟩, repL_bytes w xs fun n hn => h n (by simp [hn])⟩

theorem row_rep {w : World} {a : Option Addr} {len cap : Nat} {zs : List Int} (h : IsRow w a len cap zs) :
    ∃ R, Rep w (.sl (.int .u8)) .ro (zs.take len) [.slice a len cap] [] R := by
  rcases h with ⟨rfl, rfl, rfl, rfl⟩ | ⟨x, rfl, hl, hm, hz, hx, hc, hw⟩
  · exact ⟨[], rfl, .inl ⟨rfl, rfl, none, 0, rfl⟩⟩
  · by_cases h0 : len = 0
    · subst h0
      exact ⟨[], rfl, .inl ⟨rfl, by simp, some x, cap, rfl⟩⟩
    · obtain ⟨b, off, spot⟩ := x
      have hspot : spot = none := by simpa [Addr.add] using World.cell?_spot (hc 0 (by omega))
      subst hspot
      have el : (zs.take len).length = len := by simp; omega
      refine ⟨[b], rfl, .inr ⟨b, off, cap, (zs.take len).map (Value.int .u8), [], by rw [el], by omega, ⟨by rw [el]; unfold maxEl; omega, by omega⟩, ?_, rfl, ?_⟩⟩
      · intro j u hj
        rw [List.getElem?_map] at hj
        cases hz2 : (zs.take len)[j]? with
        | none => rw [hz2] at hj; cases hj
        | some n =>
          rw [hz2] at hj
          have hlt : j < (zs.take len).length := (List.getElem?_eq_some_iff.1 hz2).1
          have := hc j (by omega)
          simp only [Option.map_some, Option.some.injEq] at hj
          subst hj
          rw [List.getElem?_take_of_lt (by omega)] at hz2
          have e : zs.getD j 0 = n := by rw [List.getD_eq_getElem?_getD, hz2]; rfl
          rw [e] at this
          have ea : Addr.add ⟨b, off, none⟩ j = ⟨b, off + j, none⟩ := by
            by_cases h : j = 0 <;> simp [Addr.add, h]
          rw [ea] at this
          exact this
      · refine repL_bytes _ _ fun n hn => ?_
        have := hw n (List.mem_of_mem_take hn)
        simpa [Lit.wf, inK] using this

theorem row_walk {g : FuncId} (h : ∀ code : List Int, CallsT P g ⟨[.val (.sl (.int .u8)) .ro], [(.bool, .ro)]⟩ (code, true) (fun r o => r.1 = true)) {w : World} {a : Option Addr} {len cap : Nat} {zs : List Int} (hr : IsRow w a len cap zs) :
    Calls P g #[.slice a len cap] w fun e w' => e = .returned (.bool true) ∧ Below w.heap.size w w' := by
  obtain ⟨R, hR⟩ := row_rep hr
  refine (h (zs.take len) w [.slice a len cap] [] R ⟨_, _, _, _, _, _, R, [], rfl, rfl, rfl, by simp, ⟨_, _, rfl, rfl, hR⟩, rfl, rfl, rfl, rfl⟩ (by simp) (by simp)).mono ?_
  rintro e w' ⟨v, r, o, O1, R1, O2, R2, rfl, hp, ⟨x, cs, hx, hk, hq⟩, -, -, -, -, -, hb, hw⟩
  have hx' : x = r.1 := by
    have : (⟨.bool, r.1⟩ : Σ t : Ty, t.den) = ⟨.bool, x⟩ := (List.cons.inj hx).1
    cases this; rfl
  have hcs : cs = [.bool x] := hq.2.2
  have hv : cs = [v] := hk
  rw [hcs] at hv
  have hv' : v = .bool x := ((List.cons.inj hv).1).symm
  subst hv'
  subst hx'
  rw [hp]
  exact ⟨rfl, ⟨hw.os, hw.tape, hw.output, hw.size, fun i hi => hb i hi (by simp)⟩⟩
end Go.Vm

namespace Go.Proofs.Ythnkkchlgepdaaa.fnDispatchers
open Go.ChangeShapes Go.WideShapes Go.ChangeAt Go.RowKit
set_option linter.unusedVariables false
theorem own : ownKnob Try.prog.godebug = none := by kernel_rfl
theorem laidOut : laidOutB Try.prog = true := by kernel_rfl
set_option maxRecDepth 100000 in
theorem lifted (os : Os) (started : os.Started) (H : Type) (enc : TypeId × Value → H) :
    ReturnsInHanded {} Try.checked os 5 .any (Rows.fnDispatchersSpec.pre6 enc Try.prog Try.f5 Rows.fnDispatchersRow.domain false) (Rows.fnDispatchersSpec.post enc Try.prog Try.f5 false true false false) := by
  refine returnsInHanded_of_change_sized (C := Try.checked) own started (by kernel_rfl) Try.func5
    (ChangeSpec.witness6 (enc := enc) (C := Try.checked) false ⟨#[], #[.slice none 0 0], []⟩ 8 (by kernel_rfl) (by kernel_rfl) (by kernel_rfl) (by kernel_rfl)) ?_
  intro W base args ds gs before hval0 hW hcnd hsz0 _
  have hsz : (DataW.weightsEach Try.prog (Try.f5.params.toList ++ Rows.fnDispatchersSpec.plain.varTypes Try.prog) (ds ++ gs)).all (· ≤ reachBytes) = true := hsz0
  have hval : ∀ (j : Nat) t v, Try.f5.params[j]? = some t → args[j]? = some v → Value.okWide Try.prog W .any base t v := hval0
  have hW' := hW
  obtain ⟨p, q, hA0, hV, rfl, hfz, hnd⟩ := hW
  have hA : DataW.TrodAll enc Try.prog W 0 (fun _ => true) true Try.f5.params.toList args.toList ds p := hA0
  rw [Try.params5] at hA hval hsz
  obtain ⟨v0, vs0, d0, ds0, p0, q0, hargs, rfl, rfl, h0, r0⟩ := trodAll_cons hA
  obtain ⟨rfl, rfl, rfl⟩ := trodAll_nil r0
  obtain rfl : args = #[v0] := by cases args; simp_all
  obtain ⟨rfl, rfl⟩ := trodVars_none hV
  obtain ⟨a0, len0, cap0, rfl⟩ := okWide_slice Try.underlying22 (hval 0 22 v0 rfl rfl)
  have k0 := h0
  have lt0 : ∀ x ∈ p0, x.block < W.heap.size := by obtain ⟨m, hm⟩ := k0; exact DataW.trod_lt m _ _ _ hm
  obtain ⟨z0, w0⟩ : ∃ zs, Go.Vm.IsRow W a0 len0 cap0 zs := by
    obtain ⟨fuel, hf⟩ := h0
    rcases open_ints Try.underlying22 Try.underlying5 (by kernel_rfl) hf with ⟨hcs, _⟩ | ⟨x, l, c, zs, hcs, _, hl, hm, hz, hx, hcell, hwz⟩
    · simp [Value.cells] at hcs
      obtain ⟨rfl, rfl, rfl⟩ := hcs
      exact ⟨[], .inl ⟨rfl, rfl, rfl, rfl⟩⟩
    · simp [Value.cells] at hcs
      obtain ⟨rfl, rfl, rfl⟩ := hcs
      have hz' : zs.length = cap0 := by simpa using hz
      obtain ⟨hx, _⟩ := Prod.mk.inj hx
      subst hx
      have z := sized_slice hsz (j := 0) (t := 22) rfl rfl Try.underlying22
      have hB : Try.prog.bytesOf 5 = 1 := by kernel_rfl
      rw [hB] at z
      have hle : len0 ≤ 140737488355328 := by
        simp [Go.ChangeShapes.lits, reachBytes] at z
        omega
      exact ⟨zs, .inr ⟨_, rfl, hl, hm, hz', hle, hcell, hwz⟩⟩
  clear hA0 hval0 hsz0 hsz
  refine (Go.Vm.row_walk (g := 5) (fun code => Go.Vm.laws_FnDispatchers.spec (Q := fun b => b = true) rfl) w0).mono fun e W' ⟨he, bel⟩ => ?_
  subst he
  exact ⟨_, rfl, _, _, _, [], _, [], hW', trodAll_mk1 (shut_bool Try.underlying4 _), (trodAll_cons_mk (Below.trod laidOut (by kernel_rfl) (of_decide_eq_true (by kernel_rfl)) k0 bel lt0) trodAll_mk0), rfl, bel.frame _, fun h => by cases h⟩
theorem over : Rows.fnDispatchersRow.holds Try.pinned (OpenSpec.ofChange Rows.fnDispatchersSpec) :=
  OpenClaim.holds_of_wide 5 Try.f5 rfl rfl rfl rfl rfl rfl rfl ⟨rfl, rfl, rfl, rfl, rfl⟩ rfl rfl rfl rfl rfl (by kernel_rfl) Try.func5 (by kernel_rfl)
    (of_decide_eq_true (by kernel_rfl)) (by unfold Func.isWrapper; first | (rw [if_pos (by decide +kernel)]; kernel_rfl) | (rw [if_neg (by decide +kernel)]; exact ⟨rfl, rfl⟩))
    (fun os started H enc _ => lifted os started H enc)
theorem proved : Rows.FnDispatchersSaid := over
#print axioms proved
end Go.Proofs.Ythnkkchlgepdaaa.fnDispatchers
namespace Go.Proofs.Ythnkkchlgepdaaa
/-- The row, under a short name, for the claim. -/
theorem fnDispatchers_holds : Rows.FnDispatchersSaid := fnDispatchers.proved
end Go.Proofs.Ythnkkchlgepdaaa
