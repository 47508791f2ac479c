/- Roots of primes, by evaluation. -/
import Derived.Test.YtkodmicocjklcaaShRoot
namespace Go.Proofs.Ytkodmicocjklcaa
open Go.RowKit

theorem root_47_3 : rootF 47#64 3 = 0x9bdc06a725c71235#64 := by decide +kernel
theorem root_53_3 : rootF 53#64 3 = 0xc19bf174cf692694#64 := by decide +kernel
theorem root_59_3 : rootF 59#64 3 = 0xe49b69c19ef14ad2#64 := by decide +kernel
theorem root_61_3 : rootF 61#64 3 = 0xefbe4786384f25e3#64 := by decide +kernel
theorem root_67_3 : rootF 67#64 3 = 0xfc19dc68b8cd5b5#64 := by decide +kernel
theorem root_71_3 : rootF 71#64 3 = 0x240ca1cc77ac9c65#64 := by decide +kernel
theorem root_73_3 : rootF 73#64 3 = 0x2de92c6f592b0275#64 := by decide +kernel
theorem root_79_3 : rootF 79#64 3 = 0x4a7484aa6ea6e483#64 := by decide +kernel
theorem root_83_3 : rootF 83#64 3 = 0x5cb0a9dcbd41fbd4#64 := by decide +kernel
theorem root_89_3 : rootF 89#64 3 = 0x76f988da831153b5#64 := by decide +kernel
theorem root_97_3 : rootF 97#64 3 = 0x983e5152ee66dfab#64 := by decide +kernel
theorem root_101_3 : rootF 101#64 3 = 0xa831c66d2db43210#64 := by decide +kernel
theorem root_103_3 : rootF 103#64 3 = 0xb00327c898fb213f#64 := by decide +kernel
theorem root_107_3 : rootF 107#64 3 = 0xbf597fc7beef0ee4#64 := by decide +kernel
theorem root_109_3 : rootF 109#64 3 = 0xc6e00bf33da88fc2#64 := by decide +kernel
theorem root_113_3 : rootF 113#64 3 = 0xd5a79147930aa725#64 := by decide +kernel
theorem root_127_3 : rootF 127#64 3 = 0x6ca6351e003826f#64 := by decide +kernel
theorem root_131_3 : rootF 131#64 3 = 0x142929670a0e6e70#64 := by decide +kernel
theorem root_137_3 : rootF 137#64 3 = 0x27b70a8546d22ffc#64 := by decide +kernel
theorem root_139_3 : rootF 139#64 3 = 0x2e1b21385c26c926#64 := by decide +kernel
theorem root_149_3 : rootF 149#64 3 = 0x4d2c6dfc5ac42aed#64 := by decide +kernel
theorem root_151_3 : rootF 151#64 3 = 0x53380d139d95b3df#64 := by decide +kernel
end Go.Proofs.Ytkodmicocjklcaa
