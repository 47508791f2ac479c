/- Roots of primes, by evaluation. -/
import Derived.Test.YtkodmicocjklcaaShRoot
namespace Go.Proofs.Ytkodmicocjklcaa
open Go.RowKit

theorem root_277_3 : rootF 277#64 3 = 0x84c87814a1f0ab72#64 := by decide +kernel
theorem root_281_3 : rootF 281#64 3 = 0x8cc702081a6439ec#64 := by decide +kernel
theorem root_283_3 : rootF 283#64 3 = 0x90befffa23631e28#64 := by decide +kernel
theorem root_293_3 : rootF 293#64 3 = 0xa4506cebde82bde9#64 := by decide +kernel
theorem root_307_3 : rootF 307#64 3 = 0xbef9a3f7b2c67915#64 := by decide +kernel
theorem root_311_3 : rootF 311#64 3 = 0xc67178f2e372532b#64 := by decide +kernel
theorem root_313_3 : rootF 313#64 3 = 0xca273eceea26619c#64 := by decide +kernel
theorem root_317_3 : rootF 317#64 3 = 0xd186b8c721c0c207#64 := by decide +kernel
theorem root_331_3 : rootF 331#64 3 = 0xeada7dd6cde0eb1e#64 := by decide +kernel
theorem root_337_3 : rootF 337#64 3 = 0xf57d4f7fee6ed178#64 := by decide +kernel
theorem root_347_3 : rootF 347#64 3 = 0x6f067aa72176fba#64 := by decide +kernel
theorem root_349_3 : rootF 349#64 3 = 0xa637dc5a2c898a6#64 := by decide +kernel
theorem root_353_3 : rootF 353#64 3 = 0x113f9804bef90dae#64 := by decide +kernel
theorem root_359_3 : rootF 359#64 3 = 0x1b710b35131c471b#64 := by decide +kernel
theorem root_367_3 : rootF 367#64 3 = 0x28db77f523047d84#64 := by decide +kernel
theorem root_373_3 : rootF 373#64 3 = 0x32caab7b40c72493#64 := by decide +kernel
theorem root_379_3 : rootF 379#64 3 = 0x3c9ebe0a15c9bebc#64 := by decide +kernel
theorem root_383_3 : rootF 383#64 3 = 0x431d67c49c100d4c#64 := by decide +kernel
theorem root_389_3 : rootF 389#64 3 = 0x4cc5d4becb3e42b6#64 := by decide +kernel
theorem root_397_3 : rootF 397#64 3 = 0x597f299cfc657e2a#64 := by decide +kernel
theorem root_401_3 : rootF 401#64 3 = 0x5fcb6fab3ad6faec#64 := by decide +kernel
theorem root_409_3 : rootF 409#64 3 = 0x6c44198c4a475817#64 := by decide +kernel
end Go.Proofs.Ytkodmicocjklcaa
