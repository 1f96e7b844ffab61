/- A run of the checker, by the kernel. No conditions. -/
import Derived.Test.YtbmleokjdimhkaaDa
namespace Go.Proofs.Ytbmleokjdimhkaa
open Go Go.EF Go.EF.Rk
set_option maxRecDepth 1000000
noncomputable def ac1 : List (Nat × Ann) := [(2,.ends [(.tup [.int .i64 ⟨0,[(11,1)]⟩,.int .i64 ⟨0,[(12,1)]⟩,.int .i64 ⟨0,[(13,1)]⟩],⟨[],[(0,.tup [.int .i64 ⟨0,[(11,1)]⟩,.int .i64 ⟨0,[(12,1)]⟩,.int .i64 ⟨0,[(13,1)]⟩])],[],[],3,[],[],⟨0,[(5,1),(11,(-1))]⟩⟩),(.tup [.int .i64 ⟨0,[]⟩,.int .i64 ⟨0,[]⟩,.int .i64 ⟨0,[]⟩],⟨[],[],[],[],0,[],[],⟨0,[]⟩⟩)] [1, 1, 1, 1, 1, 1, 1, 1, 1, 1, 1, 1, 1, 1, 2]),
(6,.unroll),
(11,.unroll),
(18,.loop ⟨[1, 9, 10, 11],[(3,.int .i64 ⟨0,[(14,1)]⟩)],[],[],1,[⟨0,[(14,1)]⟩],[],⟨0,[(2,1),(14,(-1))]⟩⟩),
(24,.unroll),
(29,.unroll),
(34,.unroll),
(57,.unroll),
(62,.unroll),
(69,.loop ⟨[1, 9, 10, 11],[(3,.int .i64 ⟨0,[(17,1)]⟩)],[],[],1,[⟨0,[(17,1)]⟩],[],⟨0,[(4,1),(17,(-1))]⟩⟩),
(71,.ends [(.int .i64 ⟨0,[(22,1)]⟩,⟨[],[(0,.int .i64 ⟨0,[(22,1)]⟩)],[],[],1,[⟨(-1),[(22,1)]⟩],[],⟨0,[(18,1),(22,(-1))]⟩⟩),(.int .i64 ⟨0,[]⟩,⟨[],[],[],[],0,[⟨2,[(20,(-1))]⟩,⟨0,[(20,1)]⟩,⟨20,[(19,(-1))]⟩,⟨0,[(19,1)]⟩],[],⟨0,[]⟩⟩)] [1, 1, 1, 1, 1, 1, 1, 2, 1, 1, 1, 1, 1]),
(73,.loop ⟨[0, 7],[],[(23,.sit 18 ⟨0,[(24,1)]⟩)],[],1,[],[],⟨0,[(18,1),(24,(-1))]⟩⟩),
(86,.unroll),
(91,.unroll),
(98,.loop ⟨[0, 1, 7, 8],[(3,.int .i64 ⟨0,[(28,1)]⟩)],[],[],1,[⟨0,[(28,1)]⟩],[],⟨0,[(17,1),(28,(-1))]⟩⟩),
(104,.unroll),
(107,.unroll),
(112,.unroll),
(117,.unroll),
(122,.unroll),
(140,.loop ⟨[1, 9, 10, 11],[(3,.int .i64 ⟨0,[(18,1)]⟩)],[],[],1,[⟨0,[(18,1)]⟩],[],⟨0,[(5,1),(18,(-1))]⟩⟩),
(142,.ends [(.int .i64 ⟨0,[(24,1)]⟩,⟨[],[(0,.int .i64 ⟨0,[(24,1)]⟩)],[],[],1,[⟨(-1),[(24,1)]⟩],[],⟨0,[(5,1),(24,(-1))]⟩⟩),(.int .i64 ⟨0,[]⟩,⟨[],[],[],[],0,[⟨198,[(22,(-1))]⟩,⟨1,[(22,1)]⟩,⟨99,[(21,(-1))]⟩,⟨0,[(21,1)]⟩,⟨(-1),[(1,1),(20,(-1))]⟩,⟨0,[(20,1)]⟩,⟨(-1),[(4,1),(19,(-1))]⟩,⟨0,[(19,1)]⟩],[],⟨0,[]⟩⟩)] [1, 1, 1, 1, 1, 1, 1, 1, 2]),
(146,.unroll),
(151,.unroll),
(156,.unroll),
(161,.unroll),
(171,.unroll),
(176,.unroll),
(181,.unroll),
(186,.unroll)]
noncomputable def oc1 : Orc := { anns := ac1, certs := [none,none,none,none,none,none,none,none,none,none,none,some [(1,1,1)],some [(0,1,1)],none,none,none,none,none,none,none,none,none,none,some [(5,1,1)],some [(5,1,1)],some [(6,1,1)],some [(5,1,1)],none,none,none,none,none,none,none,none,some [(1,1,1)],some [(0,1,1)],none,none,none,none,none,none,none,none,none,some [(0,1,1)],none,some [(0,1,1)],some [(0,1,1)],some [(1,1,1)],none,none,some [(2,1,1)],none,none,none,none,none,none,none,none,none,none,none,none,none,none,some [(7,1,1)],some [(5,1,1)],some [(8,1,1)],some [(6,1,1)],some [(8,1,1)],some [(6,1,1)],none,none,none,none,some [(7,1,1)],some [(6,1,1)],none,none,some [(1,1,1)],some [(0,1,1)],none,none,none,none,none,some [(5,1,1)],some [(5,1,1)],some [(6,1,1)],some [(5,1,1)],none,some [(4,1,1)],none,none,none,none,none,none,none,none,some [(0,1,1)],some [(1,1,1)],some [(2,1,1)],some [(3,1,1)],some [(0,1,1)],none,some [(0,1,1)],some [(0,1,1)],some [(7,1,1)],some [(7,1,1)],some [(8,1,1)],some [(7,1,1)],some [(0,1,1)],none,some [(0,1,1)],some [(0,1,1)],none,none,none,none,some [(1,1,1)],some [(0,1,1)],some [(16,1,1)],none,none,none,none,some [(13,1,1),(20,1,1)],none,none,none,none,none,none,none,none,none,none,none,none,some [(0,1,1)],some [(1,1,1)],some [(2,1,1)],some [(3,1,1)],some [(4,1,1)],some [(5,1,1)],some [(6,1,1)],some [(7,1,1)],some [(0,1,1)],none,some [(0,1,1)],some [(0,1,1)],some [(8,1,1)],some [(8,1,1)],some [(9,1,1)],some [(8,1,1)],some [(0,1,1)],none,some [(0,1,1)],some [(0,1,1)]], used := 1, cfg := { auto := false, dep := 3, elim := 8, lim := 2 } }
theorem rc1 : cloB Try.prog tab gs 10 (argQ sh) [] [89, 88, 87, 86, 85, 84, 83, 82, 81, 80, 79, 78, 77, 76, 75, 74, 73, 72, 71, 70, 69, 68, 67, 66, 65, 64, 63, 62, 61, 60, 59, 58, 57, 56, 55, 54, 53, 52, 51, 50, 49, 48, 47, 46, 45, 44, 43, 42, 41, 40, 39, 38, 37, 36, 35, 34, 33, 32, 31, 30, 29, 28, 27, 26, 25, 24, 23, 22, 21, 20, 19, 18, 17, 16, 15, 14, 13, 12, 11, 10, 7, 5, 4, 3, 2] 6 oc1 = true := by kernel_rfl
end Go.Proofs.Ytbmleokjdimhkaa
