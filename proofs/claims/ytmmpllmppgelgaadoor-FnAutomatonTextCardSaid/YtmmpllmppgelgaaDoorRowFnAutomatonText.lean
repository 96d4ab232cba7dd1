/- The law FnAutomatonText, as its row says it: called with any arguments it returns true, changes nothing and does not panic. Conditions: none. -/
import Derived.Test.YtmmpllmppgelgaaDoorRows
import Derived.ProofKit
import Derived.LaidMore
import Derived.OpenShut
import Derived.Stop.Joined
import Derived.Lay
import Derived.SevenTiedAt
import Derived.Test.YtmmpllmppgelgaaDoorCards
import Derived.Test.YtmmpllmppgelgaaDoorTie
import Derived.Test.YtmmpllmppgelgaaDoorZ8
set_option maxRecDepth 100000
set_option maxHeartbeats 4000000
set_option linter.all false
open Nat renaming reduceLeDiff → xx0, reduceMul → xx1, reduceSub → xx2, reduceEqDiff → xx3, reduceAdd → xx4, reduceLT → xx5
open Int renaming reduceToNat → xx6, reduceNeg → xx7, reduceLE → xx8, reduceLT → xx9
namespace Go.Proofs.YtmmpllmppgelgaaDoor
open Go Go.Ab Go.ChangeShapes Go.WideShapes Go.ChangeAt Go.RowKit
theorem fnAutomatonText_own:ownKnob Tryd.prog.godebug=none:=by kernel_rfl
theorem fnAutomatonText_law:∀ As,ArgsShp Tryd.prog Tryd.f4.params.toList As→Fun Tryd.prog 4 As (bv true) :=
  two_bytes (t:=31) (e:=5) Tryd.underlying31 Tryd.underlying5 (by kernel_rfl) fun code more hc hm=>k_FnAutomatonText code more hc hm
theorem fnAutomatonText_door (os:Os) (args:Array Value):laidMetH Tryd.prog Rows.fnAutomatonTextRow.laid ((World.laidAll Tryd.prog os Rows.fnAutomatonTextRow.laid).forCall (fun _ _=>0) ⟨#[],args,[]⟩).memory:=by
  have e:(Rows.fnAutomatonTextRow.laid.filter fun x=>x.2.handleName?.isSome)=[]:=by kernel_rfl
  unfold laidMetH
  rw [e]
  exact laidMet_laidAll _ (by kernel_rfl) (by kernel_rfl)
set_option maxRecDepth 100000 in
theorem fnAutomatonText_lifted (os:Os) (started:os.Started) (H:Type) (enc:TypeId×Value→H) :
    ReturnsInHanded {} Tryd.checked os 4 .any (fun w args=>(Rows.fnAutomatonTextSpec.pre enc Tryd.prog Tryd.f4 [] false w args∧laidMetH Tryd.prog Rows.fnAutomatonTextRow.laid w)∧sizedMet enc Tryd.prog Tryd.f4 (OpenSpec.ofChange Rows.fnAutomatonTextSpec) false w args) (Rows.fnAutomatonTextSpec.post enc Tryd.prog Tryd.f4 false true false false):=by
  refine returnsInHanded_of_change_and (C:=Tryd.checked) (X:=fun w _=>laidMetH Tryd.prog Rows.fnAutomatonTextRow.laid w) (fun _ _ _ hh h=>h.of_heap hh) fnAutomatonText_own started (by kernel_rfl) Tryd.func4
    (ChangeSpec.witness_shaped (enc:=enc) (C:=Tryd.checked) (os:=os) (X:=fun w _=>laidMetH Tryd.prog Rows.fnAutomatonTextRow.laid w) false (World.laidAll Tryd.prog os Rows.fnAutomatonTextRow.laid) #[.slice none 0 0,.slice none 0 0] 8 (World.laidAll_os _ _ _) (World.shaped_of_ZipB (by kernel_rfl) (by kernel_rfl)) (by kernel_rfl) (by kernel_rfl) (by kernel_rfl) (fnAutomatonText_door os _)) ?_
  intro W base args ds gs before hval hW _ _ hL _
  refine law_post (good:=fun t=>[5,31].contains t) (tb:=4) rfl (by kernel_rfl) (of_decide_eq_true (by kernel_rfl)) (by kernel_rfl) Tryd.underlying4 ?_ hW (good_of (by kernel_rfl)) (of_decide_eq_true (by kernel_rfl)) hval fnAutomatonText_law
  intro hl
  match ds,hl with
  | [d1,d2],_=>exact ⟨rfl,rfl,rfl⟩
theorem fnAutomatonText_row:Rows.FnAutomatonTextSaid :=
  OpenClaim.holds_of_wide 4 Tryd.f4 rfl rfl rfl rfl rfl rfl rfl ⟨rfl,rfl,rfl,rfl,rfl⟩ rfl rfl rfl rfl rfl (by kernel_rfl) Tryd.func4 (by kernel_rfl)
    (of_decide_eq_true (by kernel_rfl)) (by unfold Func.isWrapper;first | (rw [if_pos (by decide +kernel)];kernel_rfl) | (rw [if_neg (by decide +kernel)];exact ⟨rfl,rfl⟩))
    (fun os started H enc _=>fnAutomatonText_lifted os started H enc)
theorem fnAutomatonText_holds:Rows.FnAutomatonTextCardSaid :=
  Claim7.holds_tied_plain_at .later [] [.data, .data, .data, .data, .sentinel, .sentinel, .pinned] true (true, "374dbe88d39161779b4676746ee948ee7f19557fa3ad586eaf72893da73eb0b2") true
    fnAutomatonText_row (fun _ h=>by cases h) (by kernel_rfl) (fun _ h=>by cases h) fnAutomatonText_row_tie rfl ⟨rfl,rfl⟩ (by kernel_rfl) rfl
    (fun f fn hf hfn=>by
      obtain rfl : f = 4 := Option.some.inj ((show Tryd.prog.funcNamed "loop.example/g01102/laws.FnAutomatonText" = some 4 by kernel_rfl).symm.trans hf) |>.symm
      obtain rfl:fn=Tryd.f4:=(Option.some.inj (Tryd.func4.symm.trans hfn)).symm
      exact ⟨by kernel_rfl,fun j t ht=>by
        rw [Tryd.params4] at ht
        have hm:t∈[31,31]:=by simpa using Array.mem_of_getElem? ht
        have hall:([31,31].all fun u=>!Tryd.prog.wantsStandIn u)=true:=by kernel_rfl
        exact (show Tryd.prog.wantsStandIn t=false by simpa using List.all_eq_true.1 hall t hm)⟩)
    (by kernel_rfl)
#print axioms fnAutomatonText_holds
end Go.Proofs.YtmmpllmppgelgaaDoor
