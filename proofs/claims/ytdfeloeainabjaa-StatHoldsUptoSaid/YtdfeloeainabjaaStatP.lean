/- Plain: what the search and the parts answer on one small graph. -/
import Derived.Test.YtdfeloeainabjaaFarR
namespace Go.Proofs.Ytdfeloeainabjaa

def oneG : Grf := ⟨[⟨1, ⟨#[97]⟩, []⟩, ⟨2, ⟨#[97]⟩, []⟩, ⟨3, ⟨#[97]⟩, []⟩], [⟨⟨#[112]⟩, 3, 1⟩]⟩
theorem oneG_ok : grfE oneG = 0 := by decide +kernel
theorem oneG_parts : partsI oneG = [[1, 3], [2]] := by decide +kernel
end Go.Proofs.Ytdfeloeainabjaa
