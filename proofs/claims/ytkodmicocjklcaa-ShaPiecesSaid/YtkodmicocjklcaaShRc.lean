/- Roots of primes, by evaluation. -/
import Derived.Test.YtkodmicocjklcaaShRoot
namespace Go.Proofs.Ytkodmicocjklcaa
open Go.RowKit

theorem root_157_3 : rootF 157#64 3 = 0x650a73548baf63de#64 := by decide +kernel
theorem root_163_3 : rootF 163#64 3 = 0x766a0abb3c77b2a8#64 := by decide +kernel
theorem root_167_3 : rootF 167#64 3 = 0x81c2c92e47edaee6#64 := by decide +kernel
theorem root_173_3 : rootF 173#64 3 = 0x92722c851482353b#64 := by decide +kernel
theorem root_179_3 : rootF 179#64 3 = 0xa2bfe8a14cf10364#64 := by decide +kernel
theorem root_181_3 : rootF 181#64 3 = 0xa81a664bbc423001#64 := by decide +kernel
theorem root_191_3 : rootF 191#64 3 = 0xc24b8b70d0f89791#64 := by decide +kernel
theorem root_193_3 : rootF 193#64 3 = 0xc76c51a30654be30#64 := by decide +kernel
theorem root_197_3 : rootF 197#64 3 = 0xd192e819d6ef5218#64 := by decide +kernel
theorem root_199_3 : rootF 199#64 3 = 0xd69906245565a910#64 := by decide +kernel
theorem root_211_3 : rootF 211#64 3 = 0xf40e35855771202a#64 := by decide +kernel
theorem root_223_3 : rootF 223#64 3 = 0x106aa07032bbd1b8#64 := by decide +kernel
theorem root_227_3 : rootF 227#64 3 = 0x19a4c116b8d2d0c8#64 := by decide +kernel
theorem root_229_3 : rootF 229#64 3 = 0x1e376c085141ab53#64 := by decide +kernel
theorem root_233_3 : rootF 233#64 3 = 0x2748774cdf8eeb99#64 := by decide +kernel
theorem root_239_3 : rootF 239#64 3 = 0x34b0bcb5e19b48a8#64 := by decide +kernel
theorem root_241_3 : rootF 241#64 3 = 0x391c0cb3c5c95a63#64 := by decide +kernel
theorem root_251_3 : rootF 251#64 3 = 0x4ed8aa4ae3418acb#64 := by decide +kernel
theorem root_257_3 : rootF 257#64 3 = 0x5b9cca4f7763e373#64 := by decide +kernel
theorem root_263_3 : rootF 263#64 3 = 0x682e6ff3d6b2b8a3#64 := by decide +kernel
theorem root_269_3 : rootF 269#64 3 = 0x748f82ee5defb2fc#64 := by decide +kernel
theorem root_271_3 : rootF 271#64 3 = 0x78a5636f43172f60#64 := by decide +kernel
end Go.Proofs.Ytkodmicocjklcaa
