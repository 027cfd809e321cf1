/- The walk of ShaKeys: a key of more than 64 bytes stands for its sum, and noughts behind a shorter one change nothing. -/
import Derived.Test.YtblgldllfllcpaaShaKeysA
import Derived.Test.YtblgldllfllcpaaShaKeysB
import Derived.Test.YtblgldllfllcpaaShaKeysC
import Derived.Test.YtblgldllfllcpaaShaKeysD
namespace Go.Proofs.Ytblgldllfllcpaa
open Go.RowKit
theorem ShaKeys_walk (key : ByteArray) (hk : key.size ≤ 140737488351232) (s : ByteArray) (hs : s.size ≤ 140737488351232) (more : Int) (hm : (Lit.int .i64 more).wf = true) (w : World) :
    Calls Try.prog 9 #[.string key, .string s, .int .i64 more] w fun e w' => e = .returned (.bool true) ∧ Below w.heap.size w w' := by
  by_cases h1 : 4096 < key.size
  · by_cases h2 : 4096 < s.size
    · exact keysA key hk s hs more hm w h1 h2
    · exact keysB key hk s hs more hm w h1 h2
  · by_cases h2 : 4096 < s.size
    · exact keysC key hk s hs more hm w h1 h2
    · exact keysD key hk s hs more hm w h1 h2
end Go.Proofs.Ytblgldllfllcpaa
