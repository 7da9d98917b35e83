/- 'waywardenlaw20.WorldNone', THE TIED CARD: for every event and every router's number the law answers true, and its arguments read as they did. Its conditions are the row's own: the six listed package-level variables hold what the program's text lays in them. -/
import Derived.Test.YteblalbifpkdcaaGreatDoorX
import Derived.Test.YteblalbifpkdcaaGreatDoorV
namespace Go.Proofs.YteblalbifpkdcaaGreatDoor
open Go.Joins Go.ChangeShapes Go.WideShapes Go.ChangeAt Go.WideMaps Go.WideElems Go.RowKit Go.Deep
theorem hinst : Tryz.f3.isInstance Tryz.pinned.checked.prog Rows.worldNoneRow.origin Rows.worldNoneRow.targs := of_decide_eq_true (by as_aux_lemma => kernel_rfl)
theorem hwrap : Tryz.f3.isWrapper Tryz.pinned.checked.prog Rows.worldNoneRow.wrapper Rows.worldNoneRow.mainSum := by
  unfold Func.isWrapper; first | (rw [if_pos (by decide +kernel)]; kernel_rfl) | (rw [if_neg (by decide +kernel)]; exact ⟨rfl, rfl⟩)
theorem row_holds : Rows.WorldNoneSaid :=
  OpenClaim.holds_of_wide 3 Tryz.f3 rfl rfl rfl rfl rfl rfl rfl ⟨rfl, rfl, rfl, rfl, rfl⟩ rfl rfl rfl rfl rfl hname Tryz.func3 facts hinst hwrap
    (fun os started H enc _ => lifted os started H enc)

theorem clook : ∀ f fn, Tryz.pinned.checked.prog.funcNamed Rows.worldNoneRow.func = some f → Tryz.pinned.checked.prog.funcs[f]? = some fn →
    true = Tryz.pinned.checked.prog.looks [] ∧ ∀ (j : Nat) t, fn.params[j]? = some t → Tryz.pinned.checked.prog.wantsStandIn t = false := by
  intro f fn hf hfn
  have h1 : some 3 = some f := cn.symm.trans hf
  obtain rfl : 3 = f := Option.some.inj h1
  have h2 : some Tryz.f3 = some fn := Tryz.func3.symm.trans hfn
  obtain rfl : Tryz.f3 = fn := Option.some.inj h2
  refine ⟨cl, fun j t ht => ?_⟩
  rw [Tryz.params3] at ht
  rcases j with _ | _ | j
  · obtain rfl : 27 = t := by simpa using ht
    exact want27
  · obtain rfl : 3 = t := by simpa using ht
    exact want3
  · simp at ht

theorem card_holds : Rows.WorldNoneCardSaid :=
  Claim7.holds_tied_plain_at .later [] [.data, .data, .data, .data, .data, .data] true (true, "ec965dd75bd7e5f5bdbccf78a28be17c5b8718daaa1ebd146d0ec2f79b7330dd") true
    row_holds (fun _ h => by cases h) cw (fun _ h => by cases h) worldNone_row_tie rfl ⟨rfl, rfl⟩ cm rfl clook cg
#print axioms card_holds
end Go.Proofs.YteblalbifpkdcaaGreatDoor
