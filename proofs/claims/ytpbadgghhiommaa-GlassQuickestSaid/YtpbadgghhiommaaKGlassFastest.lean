/- GlassFastest runs to true. -/
import Derived.Test.YtpbadgghhiommaaGfast4
import Derived.Test.YtpbadgghhiommaaI3
import Derived.Test.YtpbadgghhiommaaGawake
set_option linter.unusedVariables false
set_option maxHeartbeats 32000000
set_option linter.unusedSimpArgs false
namespace Go.Proofs.Ytpbadgghhiommaa.I
open Go.Ideal

theorem fastR_len (b0 : Int) (zs : List Zone) (k f : Int) (st ps : List Int) (left : Int) : (fastR b0 zs k f st ps left).1.1.length ≤ st.length := by
  unfold fastR
  split
  · simp
  · split
    · simp
    · split
      · simp
      · split
        · simp
        · split
          · simp
          · split
            · simp
            · exact bestF_len _ _ _ _ _
end Go.Proofs.Ytpbadgghhiommaa.I
