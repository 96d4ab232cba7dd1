/- The law FnExactMachineText, as its row says it: called with any arguments it returns true, changes nothing and does not panic. Conditions: none. -/
import Derived.Test.YtmmpllmppgelgaaDoorRows
import Derived.ProofKit
import Derived.LaidMore
import Derived.OpenShut
import Derived.Stop.Joined
import Derived.SevenTiedAt
import Derived.Test.YtmmpllmppgelgaaDoorCards
import Derived.Test.YtmmpllmppgelgaaDoorTie
import Derived.Test.YtmmpllmppgelgaaDoorZ6
set_option maxRecDepth 100000
set_option maxHeartbeats 4000000
set_option linter.all false
open Nat renaming reduceLeDiff → xx0, reduceMul → xx1, reduceSub → xx2, reduceEqDiff → xx3, reduceAdd → xx4, reduceLT → xx5
open Int renaming reduceToNat → xx6, reduceNeg → xx7, reduceLE → xx8, reduceLT → xx9
namespace Go.Proofs.YtmmpllmppgelgaaDoor
open Go Go.Ab Go.ChangeShapes Go.WideShapes Go.ChangeAt Go.RowKit
theorem fnExactMachineText_own:ownKnob Tryd.prog.godebug=none:=by kernel_rfl
theorem fnExactMachineText_law:∀ As,ArgsShp Tryd.prog Tryd.f3.params.toList As→Fun Tryd.prog 3 As (bv true):=by
  intro As h
  have h:ArgsShp Tryd.prog [24] As:=h
  obtain ⟨_,_,rfl,h1,h⟩:=args_cons h
  obtain rfl:=args_nil h
  obtain ⟨n1,o1,next1,out1,rfl⟩:=arg_mach Tryd.underlying24 rfl Tryd.underlying2 Tryd.underlying2 Tryd.underlying22 Tryd.underlying22 (by kernel_rfl) Tryd.underlying36 (by kernel_rfl) Tryd.underlying2 h1
  exact k_FnExactMachineText n1 o1 next1 out1
theorem fnExactMachineText_door (os:Os) (args:Array Value):laidMetH Tryd.prog Rows.fnExactMachineTextRow.laid ((World.doorLaid Tryd.prog 4000 os).forCall (fun _ _=>0) ⟨#[],args,[]⟩).memory :=
  laidMetH_of_parts3 (fuel:=8) (laidMet_of_run' 8 (by kernel_rfl) (by kernel_rfl)) (by kernel_rfl) (by kernel_rfl)
set_option maxRecDepth 100000 in
theorem fnExactMachineText_lifted (os:Os) (started:os.Started) (H:Type) (enc:TypeId×Value→H) :
    ReturnsInHanded {} Tryd.checked os 3 .any (fun w args=>(Rows.fnExactMachineTextSpec.pre enc Tryd.prog Tryd.f3 [] false w args∧laidMetH Tryd.prog Rows.fnExactMachineTextRow.laid w)∧sizedMet enc Tryd.prog Tryd.f3 (OpenSpec.ofChange Rows.fnExactMachineTextSpec) false w args) (Rows.fnExactMachineTextSpec.post enc Tryd.prog Tryd.f3 false true false false):=by
  refine returnsInHanded_of_change_and (C:=Tryd.checked) (X:=fun w _=>laidMetH Tryd.prog Rows.fnExactMachineTextRow.laid w) (fun _ _ _ hh h=>h.of_heap hh) fnExactMachineText_own started (by kernel_rfl) Tryd.func3
    (ChangeSpec.witness_shaped (enc:=enc) (C:=Tryd.checked) (os:=os) (X:=fun w _=>laidMetH Tryd.prog Rows.fnExactMachineTextRow.laid w) false (World.doorLaid Tryd.prog 4000 os) #[.agg #[.int .i64 0,.int .i64 0,.slice none 0 0,.slice none 0 0]] 8 rfl (World.shaped_of_RefB (by kernel_rfl) (by kernel_rfl)) (by kernel_rfl) (by kernel_rfl) (by kernel_rfl) (fnExactMachineText_door os _)) ?_
  intro W base args ds gs before hval hW _ _ hL _
  refine law_post (good:=fun t=>[2,22,24,36].contains t) (tb:=4) rfl (by kernel_rfl) (of_decide_eq_true (by kernel_rfl)) (by kernel_rfl) Tryd.underlying4 ?_ hW (good_of (by kernel_rfl)) (of_decide_eq_true (by kernel_rfl)) hval fnExactMachineText_law
  intro hl
  match ds,hl with
  | [d1],_=>exact ⟨rfl,rfl,rfl⟩
theorem fnExactMachineText_row:Rows.FnExactMachineTextSaid :=
  OpenClaim.holds_of_wide 3 Tryd.f3 rfl rfl rfl rfl rfl rfl rfl ⟨rfl,rfl,rfl,rfl,rfl⟩ rfl rfl rfl rfl rfl (by kernel_rfl) Tryd.func3 (by kernel_rfl)
    (of_decide_eq_true (by kernel_rfl)) (by unfold Func.isWrapper;first | (rw [if_pos (by decide +kernel)];kernel_rfl) | (rw [if_neg (by decide +kernel)];exact ⟨rfl,rfl⟩))
    (fun os started H enc _=>fnExactMachineText_lifted os started H enc)
theorem fnExactMachineText_holds:Rows.FnExactMachineTextCardSaid :=
  Claim7.holds_tied_plain_at .later [] [.data, .data, .data] true (true, "374dbe88d39161779b4676746ee948ee7f19557fa3ad586eaf72893da73eb0b2") true
    fnExactMachineText_row (fun _ h=>by cases h) (by kernel_rfl) (fun _ h=>by cases h) fnExactMachineText_row_tie rfl ⟨rfl,rfl⟩ (by kernel_rfl) rfl
    (fun f fn hf hfn=>by
      obtain rfl : f = 3 := Option.some.inj ((show Tryd.prog.funcNamed "loop.example/g01102/laws.FnExactMachineText" = some 3 by kernel_rfl).symm.trans hf) |>.symm
      obtain rfl:fn=Tryd.f3:=(Option.some.inj (Tryd.func3.symm.trans hfn)).symm
      exact ⟨by kernel_rfl,fun j t ht=>by
        rw [Tryd.params3] at ht
        have hm:t∈[24]:=by simpa using Array.mem_of_getElem? ht
        have hall:([24].all fun u=>!Tryd.prog.wantsStandIn u)=true:=by kernel_rfl
        exact (show Tryd.prog.wantsStandIn t=false by simpa using List.all_eq_true.1 hall t hm)⟩)
    (by kernel_rfl)
#print axioms fnExactMachineText_holds
end Go.Proofs.YtmmpllmppgelgaaDoor
