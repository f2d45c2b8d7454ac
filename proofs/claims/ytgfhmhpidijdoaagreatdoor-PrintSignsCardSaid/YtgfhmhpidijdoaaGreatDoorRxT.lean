/- A reflective evaluator of the model's code, part T: what a row asks behind a law whose arguments hold no memory. -/
import Derived.Test.YtgfhmhpidijdoaaGreatDoorRxS
import Derived.ProofKit
import Derived.ChangeSame
namespace Go.Proofs.YtgfhmhpidijdoaaGreatDoor.Rx
open Go.ChangeShapes Go.WideShapes Go.ChangeAt Go.RowKit

/-- The arguments hold no memory; the call writes only to memory of its own. -/
theorem post_plain {H : Type} {enc : TypeId × Value → H} {P : Program} {f : Func} {s : ChangeSpec} {apart fresh handsOn again : Bool} {W W' : World} {args : Array Value} {v : Value} {ds : List (DataW H)}
    (hW : DataW.Whole enc P f.params.toList s.vars apart W args.toList ds [] []) (hvars : s.vars = [])
    (hsv : (s.fn H ds).vars = [])
    (hres : ∀ (b : Nat) (sp : Nat → Bool) (hd : Bool), DataW.TrodAll enc P W' b sp hd f.resultTypes.toList (v.resultList f.resultTypes.size) (s.fn H ds).results [])
    (hargs : ∀ sp : Nat → Bool, DataW.TrodAll enc P W' 0 sp true f.params.toList args.toList (s.fn H ds).args [])
    (hk : Below W.heap.size W W')
    (hok : ∀ (j : Nat) (t : TypeId) (r : Value), f.resultTypes[j]? = some t → (v.resultList f.resultTypes.size)[j]? = some r → Value.okWide P W' .any 0 t r) :
    s.post enc P f apart fresh handsOn again W args v W' := by
  have hv : ∀ sp : Nat → Bool, DataW.TrodVars enc P W' sp s.vars (s.fn H (ds ++ [])).vars [] := fun sp => by
    rw [hvars, List.append_nil, hsv]
    exact rfl
  have e : ds = ds ++ [] := (List.append_nil ds).symm
  have hres2 := hres
  have hargs2 := hargs
  rw [e] at hres2 hargs2
  refine ⟨ds, [], [], [], [], [], hW, hres2 _ _ _, hargs2 _, hv _, hk.frame _, fun _ => ?_⟩
  refine ⟨hok, _, _, ([] ++ []) ++ [], ⟨[] ++ [], [], trodAll_append (hargs2 _) (hres2 _ _ _), hv _, rfl, ?_, ?_⟩, ?_⟩
  · intro b off hp; cases hp
  · intro _; exact List.nodup_nil
  · intro p hp _; cases hp

end Go.Proofs.YtgfhmhpidijdoaaGreatDoor.Rx
