/- The pure half of the row's law; condition: none. -/
import Derived.Test.YtchmmnlmgkocoaaHX
namespace Go.Proofs.Ytchmmnlmgkocoaa.Pure
open Go.RowKit Go.Proofs.Ytchmmnlmgkocoaa.H
theorem FnHulls : laws_FnHulls.Pure := fun l0 _ _ _ => holds l0
end Go.Proofs.Ytchmmnlmgkocoaa.Pure
