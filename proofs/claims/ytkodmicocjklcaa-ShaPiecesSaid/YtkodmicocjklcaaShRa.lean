/- Roots of primes, by evaluation. -/
import Derived.Test.YtkodmicocjklcaaShRoot
namespace Go.Proofs.Ytkodmicocjklcaa
open Go.RowKit

theorem root_23_2 : rootF 23#64 2 = 0xcbbb9d5dc1059ed8#64 := by decide +kernel
theorem root_29_2 : rootF 29#64 2 = 0x629a292a367cd507#64 := by decide +kernel
theorem root_31_2 : rootF 31#64 2 = 0x9159015a3070dd17#64 := by decide +kernel
theorem root_37_2 : rootF 37#64 2 = 0x152fecd8f70e5939#64 := by decide +kernel
theorem root_41_2 : rootF 41#64 2 = 0x67332667ffc00b31#64 := by decide +kernel
theorem root_43_2 : rootF 43#64 2 = 0x8eb44a8768581511#64 := by decide +kernel
theorem root_47_2 : rootF 47#64 2 = 0xdb0c2e0d64f98fa7#64 := by decide +kernel
theorem root_53_2 : rootF 53#64 2 = 0x47b5481dbefa4fa4#64 := by decide +kernel
theorem root_2_3 : rootF 2#64 3 = 0x428a2f98d728ae22#64 := by decide +kernel
theorem root_3_3 : rootF 3#64 3 = 0x7137449123ef65cd#64 := by decide +kernel
theorem root_5_3 : rootF 5#64 3 = 0xb5c0fbcfec4d3b2f#64 := by decide +kernel
theorem root_7_3 : rootF 7#64 3 = 0xe9b5dba58189dbbc#64 := by decide +kernel
theorem root_11_3 : rootF 11#64 3 = 0x3956c25bf348b538#64 := by decide +kernel
theorem root_13_3 : rootF 13#64 3 = 0x59f111f1b605d019#64 := by decide +kernel
theorem root_17_3 : rootF 17#64 3 = 0x923f82a4af194f9b#64 := by decide +kernel
theorem root_19_3 : rootF 19#64 3 = 0xab1c5ed5da6d8118#64 := by decide +kernel
theorem root_23_3 : rootF 23#64 3 = 0xd807aa98a3030242#64 := by decide +kernel
theorem root_29_3 : rootF 29#64 3 = 0x12835b0145706fbe#64 := by decide +kernel
theorem root_31_3 : rootF 31#64 3 = 0x243185be4ee4b28c#64 := by decide +kernel
theorem root_37_3 : rootF 37#64 3 = 0x550c7dc3d5ffb4e2#64 := by decide +kernel
theorem root_41_3 : rootF 41#64 3 = 0x72be5d74f27b896f#64 := by decide +kernel
theorem root_43_3 : rootF 43#64 3 = 0x80deb1fe3b1696b1#64 := by decide +kernel
end Go.Proofs.Ytkodmicocjklcaa
