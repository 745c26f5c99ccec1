/- SheafGets: what any sectors begin with; their top. -/
import Derived.Test.YtknmbhllinbcjaaPB
import Derived.Test.YtknmbhllinbcjaaQ5
set_option linter.unusedVariables false
set_option linter.unusedSimpArgs false
namespace Go.Proofs.Ytknmbhllinbcjaa.Pure
open Go Go.RowKit Go.Proofs.Ytknmbhllinbcjaa Go.Proofs.Ytknmbhllinbcjaa.Q Go.Proofs.YtknmbhllinbcjaaW.PrintWords Go.Proofs.YtknmbhllinbcjaaW.PrintLast Go.Proofs.YtknmbhllinbcjaaW.PrintMore
theorem SheafGets (l : List ByteArray) (hl : l.length ≤ 9223372036854775807) : quittancelaw04_SheafGets.f (l.length + 8000) l = some true := by
  obtain ⟨k, hk⟩ : ∃ k, k = l.length + 8000 := ⟨_, rfl⟩
  rw [← hk]
  have hh := head04 k (by omega)
  obtain ⟨b, hb, hb2⟩ := great_f k l hl (by omega)
  unfold quittancelaw04_SheafGets.f
  rw [hb, Option.bind_some]
  cases b with
  | true => rw [if_pos rfl, hh]; rfl
  | false =>
    have h40 := hb2 rfl
    rw [if_neg (by decide), get_same k l (by omega) (by omega)]
    obtain ⟨r, hr⟩ : ∃ r, sheaf_Get.f l = some r := by
      rcases Get_spec l with ⟨n, S, -, -, -, -, h⟩ | h
      · exact ⟨_, h⟩
      · exact ⟨_, h⟩
    rw [hr, Option.bind_some, Option.bind_some, if_pos rfl, if_pos rfl, if_pos rfl, if_pos (by simp), Top_f k l (by omega) (by omega), Option.bind_some, RTop_f k l (by omega) (by omega), Option.bind_some, if_pos rfl, hh]
    rfl
end Go.Proofs.Ytknmbhllinbcjaa.Pure
