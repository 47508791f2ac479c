/- The constants are the roots of primes. -/
import Derived.Test.YtkodmicocjklcaaShPrimes
import Derived.Test.YtkodmicocjklcaaShRa
import Derived.Test.YtkodmicocjklcaaShRb
import Derived.Test.YtkodmicocjklcaaShRc
import Derived.Test.YtkodmicocjklcaaShRd
namespace Go.Proofs.Ytkodmicocjklcaa
open Go.RowKit

def primeB : List (BitVec 64) := [2#64, 3#64, 5#64, 7#64, 11#64, 13#64, 17#64, 19#64, 23#64, 29#64, 31#64, 37#64, 41#64, 43#64, 47#64, 53#64, 59#64, 61#64, 67#64, 71#64, 73#64, 79#64, 83#64, 89#64, 97#64, 101#64, 103#64, 107#64, 109#64, 113#64, 127#64, 131#64, 137#64, 139#64, 149#64, 151#64, 157#64, 163#64, 167#64, 173#64, 179#64, 181#64, 191#64, 193#64, 197#64, 199#64, 211#64, 223#64, 227#64, 229#64, 233#64, 239#64, 241#64, 251#64, 257#64, 263#64, 269#64, 271#64, 277#64, 281#64, 283#64, 293#64, 307#64, 311#64, 313#64, 317#64, 331#64, 337#64, 347#64, 349#64, 353#64, 359#64, 367#64, 373#64, 379#64, 383#64, 389#64, 397#64, 401#64, 409#64]
theorem primeB_len : primeB.length = 80 := rfl
theorem primeB_us : us primeB = ints .u64 primeL := by kernel_rfl
theorem roots2 : ((primeB.drop 8).take 8).map (fun p => rootF p 2) = beginL := by
  show [23#64, 29#64, 31#64, 37#64, 41#64, 43#64, 47#64, 53#64].map (fun p => rootF p 2) = beginL
  simp only [List.map_cons, List.map_nil, root_23_2, root_29_2, root_31_2, root_37_2, root_41_2, root_43_2, root_47_2, root_53_2]
  rfl
theorem roots3 : primeB.map (fun p => rootF p 3) = constL := by
  simp only [primeB, List.map_cons, List.map_nil, root_2_3, root_3_3, root_5_3, root_7_3, root_11_3, root_13_3, root_17_3, root_19_3, root_23_3, root_29_3, root_31_3, root_37_3, root_41_3, root_43_3, root_47_3, root_53_3, root_59_3, root_61_3, root_67_3, root_71_3, root_73_3, root_79_3, root_83_3, root_89_3, root_97_3, root_101_3, root_103_3, root_107_3, root_109_3, root_113_3, root_127_3, root_131_3, root_137_3, root_139_3, root_149_3, root_151_3, root_157_3, root_163_3, root_167_3, root_173_3, root_179_3, root_181_3, root_191_3, root_193_3, root_197_3, root_199_3, root_211_3, root_223_3, root_227_3, root_229_3, root_233_3, root_239_3, root_241_3, root_251_3, root_257_3, root_263_3, root_269_3, root_271_3, root_277_3, root_281_3, root_283_3, root_293_3, root_307_3, root_311_3, root_313_3, root_317_3, root_331_3, root_337_3, root_347_3, root_349_3, root_353_3, root_359_3, root_367_3, root_373_3, root_379_3, root_383_3, root_389_3, root_397_3, root_401_3, root_409_3]
  rfl
end Go.Proofs.Ytkodmicocjklcaa
