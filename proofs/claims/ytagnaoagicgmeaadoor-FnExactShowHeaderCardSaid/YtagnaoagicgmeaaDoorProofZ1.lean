/- The statement's proof. Conditions: none beyond what each theorem states. -/
import Derived.Test.YtagnaoagicgmeaaDoorPart9
import Derived.Test.YtagnaoagicgmeaaDoorVc8
import Derived.Test.YtagnaoagicgmeaaDoorCards
import Derived.Test.YtagnaoagicgmeaaDoorTie
import Derived.WalkKit
import Derived.ProofKit
import Derived.OpenShut
import Derived.Deep.DeepHandedRow
import Derived.Lib.LaidTab
set_option linter.all false
section
namespace Go.VC
open Go Go.RowKit
set_option linter.unusedSimpArgs false
set_option linter.unusedVariables false
set_option maxRecDepth 100000
end Go.VC
namespace Go.Proofs.YtagnaoagicgmeaaDoor.fnShowHeader
open Go Go.VC Go.RowKit Go.ChangeShapes Go.WideShapes 
attribute [local irreducible] Value.okWide Cell.okWide
theorem own : ownKnob Tryd.prog.godebug = none := by kernel_rfl
theorem hT24 : Tryd.prog.cellTypes Tryd.prog.depth 24 = some [3, 3, 3, 4, 4, 22] := by kernel_rfl
noncomputable def fs24 : Array Field := match Tryd.prog.underlying 24 with
  | some (.struct fs) => fs
  | _ => #[]
theorem u24 : Tryd.prog.underlying 24 = some (.struct fs24) := by kernel_rfl
theorem hone24 : Go.Deep.oneCellFields Tryd.prog fs24 = true := by kernel_rfl
theorem hC24 : Tryd.prog.cellsOf 24 = fs24.size := by kernel_rfl
theorem hty24 : [3, 3, 3, 4, 4, 22] = fs24.toList.map (·.type) := by kernel_rfl
theorem laidOut : laidOutB Tryd.prog = true := by kernel_rfl
theorem rT : Tryd.f3.resultTypes = #[4] := by kernel_rfl
theorem par : ∀ t ∈ Tryd.f3.params.toList, Tryd.prog.readableRec t = true ∧ t < Tryd.prog.types.size := by
  intro t ht
  rw [Tryd.params3] at ht
  obtain rfl : t = 24 := by simpa using ht
  exact ⟨by kernel_rfl, of_decide_eq_true (by kernel_rfl)⟩
theorem contract (H : Type) (enc : TypeId × Value → H) (W : World) (base : Nat) (args : Array Value) (ds gs : List (DataW H)) (before : List MemPlace)
    (hval : ∀ (j : Nat) t v, Tryd.f3.params[j]? = some t → args[j]? = some v → Value.okWide Tryd.prog W .any base t v)
    (hW : DataW.Whole enc Tryd.prog Tryd.f3.params.toList Rows.fnExactShowHeaderSpec.vars false W args.toList ds gs before) :
    Calls Tryd.prog 3 args W fun e W' => ∃ v, e = .returned v ∧ Rows.fnExactShowHeaderSpec.post enc Tryd.prog Tryd.f3 false true false false W args v W' := by
  have hW' := hW
  obtain ⟨p, q, hA0, hV, rfl, hfz, hnd⟩ := hW
  obtain ⟨rfl, rfl⟩ := trodVars_none hV
  have hA : DataW.TrodAll enc Tryd.prog W 0 (fun _ => true) true Tryd.f3.params.toList args.toList ds p := hA0
  rw [Tryd.params3] at hA hval
  obtain ⟨v0, vs0, d0, ds0, p0, q0, hargs, rfl, rfl, h0, r0⟩ := trodAll_cons hA
  obtain ⟨rfl, rfl, rfl⟩ := trodAll_nil r0
  obtain rfl : args = #[v0] := by cases args; simp_all
  have hv0 := @hval 0 24 v0 rfl rfl
  obtain ⟨cs, rfl, hsz, hc⟩ := arg_agg2 u24 hone24 hC24 hT24 hty24 hv0 h0
  obtain ⟨x0, n0, y0, e0, k0, r0⟩ := hc 0 3 rfl
  obtain ⟨x1, n1, y1, e1, k1, r1⟩ := hc 1 3 rfl
  obtain ⟨x2, n2, y2, e2, k2, r2⟩ := hc 2 3 rfl
  obtain ⟨x3, n3, y3, e3, k3, r3⟩ := hc 3 4 rfl
  obtain ⟨x4, n4, y4, e4, k4, r4⟩ := hc 4 4 rfl
  obtain ⟨x5, n5, y5, e5, k5, r5⟩ := hc 5 22 rfl
  obtain ⟨w, rfl, _⟩ := cell_int Tryd.underlying3 r0
  obtain ⟨h, rfl, _⟩ := cell_int Tryd.underlying3 r1
  obtain ⟨q, rfl, _⟩ := cell_int Tryd.underlying3 r2
  obtain ⟨bp, rfl⟩ := cell_bool Tryd.underlying4 r3
  obtain ⟨db, rfl⟩ := cell_bool Tryd.underlying4 r4
  obtain ⟨l, hl, hlen, _⟩ := cell_ints Tryd.underlying22 Tryd.underlying3 (by kernel_rfl) k5 r5
  have hargs : VArgs W Go.VC.e0 [] [.g [.d (.v (.int .i64 (w))), .d (.v (.int .i64 (h))), .d (.v (.int .i64 (q))), .d (.v (.bool (bp))), .d (.v (.bool (db))), .d (.sl none 1 (ints (l)))]] #[.agg cs] := by
    refine ⟨rfl, fun j a ha => ?_⟩
    match j, ha with
    | 0, ha =>
      cases ha
      refine ⟨_, rfl, vag hsz fun j a ha => ?_⟩
      match j, ha with
      | 0, ha => cases ha; exact ⟨_, e0, .v _ rfl⟩
      | 1, ha => cases ha; exact ⟨_, e1, .v _ rfl⟩
      | 2, ha => cases ha; exact ⟨_, e2, .v _ rfl⟩
      | 3, ha => cases ha; exact ⟨_, e3, .v _ rfl⟩
      | 4, ha => cases ha; exact ⟨_, e4, .v _ rfl⟩
      | 5, ha => cases ha; exact ⟨_, e5, hl⟩
  refine (law_calls lawSH_ok trivial hargs (fun K hK => ⟨w, h, q, bp, db, none, l, rfl, rfl, hlen, hK⟩)).mono ?_
  rintro e W' ⟨rfl, hb⟩
  exact ⟨_, rfl, law_post laidOut hW' rfl rfl rT Tryd.underlying4 par hb⟩
def cellsL : DataW Unit → List Value
  | .lit (.int k n) => [.int k n]
  | .agg l => l.map fun d => match d with
    | .lit (.int k n) => .int k n
    | _ => .bool false
  | _ => []
def lay (w : World) (g : Nat) (d : DataW Unit) : World := { w with heap := w.heap.modify g fun
  | .cells _ t frozen => .cells (cellsL d).toArray t frozen
  | o => o }
noncomputable def laidWorld (os : Os) : World :=
  lay (lay (lay (World.holding Tryd.prog os ⟨#[], #[], []⟩) 6 Rows.laid_math_bits_deBruijn32tab) 7 Rows.laid_math_bits_deBruijn64tab) 5 Rows.laid_internal_strconv_uint64pow10
def wArgs : Array Value := #[.agg #[.int .i64 0, .int .i64 0, .int .i64 0, .bool false, .bool false, .slice none 0 0]]
theorem laid_met (os : Os) : laidMet Tryd.prog Rows.fnExactShowHeaderRow.laid ((laidWorld os).forCall (fun _ _ => 0) ⟨#[], wArgs, []⟩).memory :=
  laidMet_of_run' 8 (by kernel_rfl) (by kernel_rfl)
theorem reads (os : Os) {H : Type} (enc : TypeId × Value → H) : ∃ places, DataW.whole enc Tryd.prog ((laidWorld os).forCall (fun _ _ => 0) ⟨#[], wArgs, []⟩).memory Tryd.f3.params.toList Rows.fnExactShowHeaderSpec.vars false wArgs.toList 8 = some ([.agg [.lit (.int .i64 0), .lit (.int .i64 0), .lit (.int .i64 0), .lit (.bool false), .lit (.bool false), .nil]], [], places) :=
  ⟨[], by kernel_rfl⟩
theorem lifted (os : Os) (started : os.Started) (H : Type) (enc : TypeId × Value → H) (F : Stop.Interp) :
    ReturnsInHanded {} Tryd.checked os 3 .any ((OpenSpec.ofChange Rows.fnExactShowHeaderSpec).preRow enc Tryd.prog Tryd.f3 Rows.fnExactShowHeaderRow.domain false Rows.fnExactShowHeaderRow.laid) (((OpenSpec.ofChange Rows.fnExactShowHeaderSpec).at F).post enc Tryd.prog Tryd.f3 false true false false) := by
  obtain ⟨places, hx⟩ := reads os enc
  refine returnsInHanded_of_row (C := Tryd.checked) (s := OpenSpec.ofChange Rows.fnExactShowHeaderSpec) own started (by kernel_rfl) Tryd.func3
    (witness_row_at (enc := enc) (C := Tryd.checked) false (laidWorld os) wArgs rfl (by kernel_rfl) (by kernel_rfl) (by kernel_rfl)
      (OpenSpec.preRow_of_cond 8 hx (by kernel_rfl) (fun k hk => by cases hk) (by kernel_rfl) (laid_met os))) ?_
  intro W base args ds gs before hval hW _ _ _ hL _ _
  exact contract H enc W base args ds gs before hval hW
theorem said : Rows.FnExactShowHeaderSaid :=
  OpenClaim.holds_of_cond 3 Tryd.f3 rfl rfl rfl rfl rfl rfl rfl ⟨rfl, rfl, rfl, rfl, rfl⟩ rfl rfl rfl rfl rfl (by kernel_rfl) Tryd.func3 (by kernel_rfl)
    (of_decide_eq_true (by kernel_rfl)) (by unfold Func.isWrapper; first | (rw [if_pos (by decide +kernel)]; kernel_rfl) | (rw [if_neg (by decide +kernel)]; exact ⟨rfl, rfl⟩))
    (fun os started H enc _ F => by rw [OpenClaim.pre_eq_preRow]; exact lifted os started H enc F)
theorem plain (f : FuncId) (fn : Func) (hf : Tryd.pinned.checked.prog.funcNamed Rows.fnExactShowHeaderRow.func = some f) (hfn : Tryd.pinned.checked.prog.funcs[f]? = some fn) :
    true = Tryd.pinned.checked.prog.looks [] ∧ ∀ (j : Nat) t, fn.params[j]? = some t → Tryd.pinned.checked.prog.wantsStandIn t = false := by
  obtain rfl : f = 3 := Option.some.inj ((show Tryd.prog.funcNamed Rows.fnExactShowHeaderRow.func = some 3 by kernel_rfl).symm.trans hf) |>.symm
  obtain rfl : fn = Tryd.f3 := (Option.some.inj (Tryd.func3.symm.trans hfn)).symm
  refine ⟨by kernel_rfl, fun j t ht => ?_⟩
  rw [Tryd.params3] at ht
  obtain rfl : t = 24 := by simpa using Array.mem_of_getElem? ht
  exact (show Tryd.prog.wantsStandIn 24 = false by kernel_rfl)
theorem card : Rows.FnExactShowHeaderCardSaid :=
  Claim7.holds_tied_plain_at .later [] _ _ _ _ said (fun _ h => by cases h) (by kernel_rfl) (fun _ h => by cases h) fnExactShowHeader_row_tie rfl ⟨rfl, rfl⟩ (by kernel_rfl) rfl plain (by kernel_rfl)
end Go.Proofs.YtagnaoagicgmeaaDoor.fnShowHeader
namespace Go.VC
end Go.VC
end
