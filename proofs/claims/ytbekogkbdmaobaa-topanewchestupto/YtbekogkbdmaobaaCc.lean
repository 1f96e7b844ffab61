/- The resolved code of each function, checked by the kernel. No conditions. -/
import Derived.Test.YtbekogkbdmaobaaChecked
import Derived.Test.YtbekogkbdmaobaaEf36
namespace Go.Proofs.Ytbekogkbdmaobaa
open Go Go.EF Go.Proofs.Ytbekogkbdmaobaa
set_option maxRecDepth 100000

noncomputable abbrev k2 : CC :=
 (.ops [
 ⟨(some 0), none, .call 1 []⟩])

theorem c2 : compF Try.prog 2 = some (1, [], k2) := by
 unfold compF; rw [Try.func2]; kernel_rfl

noncomputable abbrev k3 : CC :=
 (.seq
 (.ops [
 ⟨(some 1), none, .box (.tmp 0)⟩,
 ⟨(some 2), none, .mov (.const (.bool false))⟩])
 (.seq
 (.ops [
 ⟨(some 3), none, .alloc [(.list .exact [] 0), (.list .exact [] 0)]⟩,
 ⟨(some 4), none, .alloc [(.list .exact [] 0), (.list .exact [] 0)]⟩])
 (.seq
 (.ops [
 ⟨(some 6), none, .load true 11 (.tmp 1)⟩,
 ⟨(some 7), none, .call 4 [(.tmp 6), (.tmp 3)]⟩])
 (.seq
 (.ops [
 ⟨(some 8), none, .mkfn 6 [] [(.tmp 1)]⟩,
 ⟨(some 9), none, .call 5 [(.tmp 8)]⟩,
 ⟨(some 10), none, .mov (.tmp 9)⟩,
 ⟨(some 11), (some (10, true)), .mkfn 11 [] [(.tmp 1)]⟩,
 ⟨(some 12), (some (10, true)), .call 5 [(.tmp 11)]⟩,
 ⟨(some 13), none, .pick (.tmp 10) (.tmp 12) (.const (.bool false))⟩,
 ⟨(some 14), none, .mov (.tmp 13)⟩,
 ⟨(some 15), (some (14, true)), .mkfn 16 [] [(.tmp 1)]⟩,
 ⟨(some 16), (some (14, true)), .call 5 [(.tmp 15)]⟩,
 ⟨(some 17), none, .pick (.tmp 14) (.tmp 16) (.const (.bool false))⟩,
 ⟨(some 18), none, .mov (.tmp 17)⟩,
 ⟨(some 19), (some (18, true)), .mkfn 19 [] [(.tmp 1)]⟩,
 ⟨(some 20), (some (18, true)), .call 5 [(.tmp 19)]⟩,
 ⟨(some 21), none, .pick (.tmp 18) (.tmp 20) (.const (.bool false))⟩,
 ⟨(some 22), none, .mov (.tmp 21)⟩,
 ⟨(some 23), (some (22, true)), .mkfn 22 [] [(.tmp 1)]⟩,
 ⟨(some 24), (some (22, true)), .call 5 [(.tmp 23)]⟩,
 ⟨(some 25), none, .pick (.tmp 22) (.tmp 24) (.const (.bool false))⟩,
 ⟨(some 26), none, .mov (.tmp 25)⟩,
 ⟨(some 27), (some (26, true)), .mkfn 25 [] [(.tmp 1)]⟩,
 ⟨(some 28), (some (26, true)), .call 5 [(.tmp 27)]⟩,
 ⟨(some 29), none, .pick (.tmp 26) (.tmp 28) (.const (.bool false))⟩,
 ⟨(some 30), none, .mov (.tmp 29)⟩,
 ⟨(some 31), (some (30, true)), .mkfn 28 [] [(.tmp 1)]⟩,
 ⟨(some 32), (some (30, true)), .call 5 [(.tmp 31)]⟩,
 ⟨(some 33), none, .pick (.tmp 30) (.tmp 32) (.const (.bool false))⟩,
 ⟨(some 34), none, .mov (.tmp 33)⟩,
 ⟨(some 35), (some (34, true)), .mkfn 31 [] [(.tmp 1)]⟩,
 ⟨(some 36), (some (34, true)), .call 5 [(.tmp 35)]⟩,
 ⟨(some 37), none, .pick (.tmp 34) (.tmp 36) (.const (.bool false))⟩,
 ⟨(some 5), none, .mov (.tmp 37)⟩])
 (.seq
 (.ops [
 ⟨(some 38), none, .load true 11 (.tmp 1)⟩,
 ⟨(some 39), none, .call 4 [(.tmp 38), (.tmp 4)]⟩])
 (.seq
 (.ops [
 ⟨(some 40), none, .mov (.tmp 5)⟩,
 ⟨(some 41), none, .mov (.tmp 40)⟩,
 ⟨(some 42), (some (41, true)), .load true 2 (.tmp 3)⟩,
 ⟨(some 43), (some (41, true)), .load true 2 (.tmp 4)⟩,
 ⟨(some 44), (some (41, true)), .call 34 [(.tmp 42), (.tmp 43)]⟩,
 ⟨(some 45), none, .pick (.tmp 41) (.tmp 44) (.const (.bool false))⟩,
 ⟨(some 46), none, .mov (.tmp 45)⟩,
 ⟨(some 47), (some (46, true)), .call 35 []⟩,
 ⟨(some 48), none, .pick (.tmp 46) (.tmp 47) (.const (.bool false))⟩,
 ⟨(some 2), none, .mov (.tmp 48)⟩])
 .ret))))))

theorem c3 : compF Try.prog 3 = some (49, [.tmp 2], k3) := by
 unfold compF; rw [Try.func3]; kernel_rfl

noncomputable abbrev k4 : CC :=
 (.seq
 (.ops [
 ⟨(some 2), none, .box (.tmp 0)⟩])
 (.seq
 (.ops [
 ⟨(some 4), none, .mov (.tmp 1)⟩,
 ⟨(some 5), none, .faddr 0 (.tmp 2)⟩,
 ⟨(some 6), none, .load true 6 (.tmp 5)⟩,
 ⟨(some 7), none, .call 36 [(.tmp 4), (.tmp 6)]⟩])
 (.seq
 (.ops [
 ⟨(some 8), none, .mov (.tmp 1)⟩,
 ⟨(some 9), none, .faddr 6 (.tmp 2)⟩,
 ⟨(some 10), none, .load false 1 (.tmp 9)⟩,
 ⟨(some 11), none, .call 8 [(.tmp 8), (.tmp 10)]⟩])
 (.seq
 (.ops [
 ⟨(some 12), none, .mov (.tmp 1)⟩,
 ⟨(some 13), none, .faddr 7 (.tmp 2)⟩,
 ⟨(some 14), none, .load false 1 (.tmp 13)⟩,
 ⟨(some 15), none, .call 13 [(.tmp 12), (.tmp 14)]⟩])
 (.seq
 (.ops [
 ⟨(some 16), none, .mov (.tmp 1)⟩,
 ⟨(some 17), none, .faddr 8 (.tmp 2)⟩,
 ⟨(some 18), none, .load false 1 (.tmp 17)⟩,
 ⟨(some 19), none, .call 13 [(.tmp 16), (.tmp 18)]⟩])
 (.seq
 (.ops [
 ⟨(some 20), none, .mov (.tmp 1)⟩,
 ⟨(some 21), none, .faddr 9 (.tmp 2)⟩,
 ⟨(some 22), none, .load false 1 (.tmp 21)⟩,
 ⟨(some 23), none, .call 8 [(.tmp 20), (.tmp 22)]⟩])
 (.ops [
 ⟨(some 24), none, .mov (.tmp 1)⟩,
 ⟨(some 25), none, .faddr 10 (.tmp 2)⟩,
 ⟨(some 26), none, .load false 1 (.tmp 25)⟩,
 ⟨(some 27), none, .call 8 [(.tmp 24), (.tmp 26)]⟩])))))))

theorem c4 : compF Try.prog 4 = some (28, [], k4) := by
 unfold compF; rw [Try.func4]; kernel_rfl

noncomputable abbrev k5 : CC :=
 (.seq
 (.ops [
 ⟨(some 2), none, .mov (.const (.bool false))⟩])
 (.seq
 (.ops [
 ⟨(some 3), none, .alloc [(.list .exact [] 0), (.list .exact [] 0)]⟩,
 ⟨(some 4), none, .alloc [(.list .exact [] 0), (.list .exact [] 0)]⟩])
 (.seq
 (.ops [
 ⟨(some 6), none, .mov (.tmp 0)⟩,
 ⟨(some 7), none, .callv (.tmp 6) [(.tmp 3)]⟩,
 ⟨(some 5), none, .mov (.tmp 7)⟩])
 (.seq
 (.ops [
 ⟨(some 8), none, .mov (.tmp 5)⟩,
 ⟨(some 9), none, .callv (.tmp 8) []⟩])
 (.seq
 (.ops [
 ⟨(some 10), none, .mov (.tmp 0)⟩,
 ⟨(some 11), none, .callv (.tmp 10) [(.tmp 4)]⟩])
 (.seq
 (.ops [
 ⟨(some 12), none, .load true 2 (.tmp 3)⟩,
 ⟨(some 13), none, .load true 2 (.tmp 4)⟩,
 ⟨(some 14), none, .call 34 [(.tmp 12), (.tmp 13)]⟩,
 ⟨(some 2), none, .mov (.tmp 14)⟩])
 .ret))))))

theorem c5 : compF Try.prog 5 = some (15, [.tmp 2], k5) := by
 unfold compF; rw [Try.func5]; kernel_rfl

noncomputable abbrev k6 : CC :=
 (.seq
 (.ops [
 ⟨(some 3), none, .mov (.const (.v .nilFunc))⟩])
 (.seq
 (.ops [
 ⟨(some 8), none, .faddr 0 (.tmp 1)⟩,
 ⟨(some 9), none, .load true 6 (.tmp 8)⟩,
 ⟨(some 10), none, .call 7 [(.tmp 9)]⟩,
 ⟨(some 7), none, .mov (.tmp 10)⟩,
 ⟨(some 11), none, .extract (.tmp 7) 0⟩,
 ⟨(some 12), none, .extract (.tmp 7) 1⟩,
 ⟨(some 13), none, .extract (.tmp 7) 2⟩,
 ⟨(some 4), none, .mov (.tmp 11)⟩,
 ⟨(some 5), none, .mov (.tmp 12)⟩,
 ⟨(some 6), none, .mov (.tmp 13)⟩])
 (.seq
 (.ops [
 ⟨(some 14), none, .mov (.tmp 0)⟩,
 ⟨(some 15), none, .mov (.tmp 4)⟩,
 ⟨(some 16), none, .call 8 [(.tmp 14), (.tmp 15)]⟩])
 (.seq
 (.ops [
 ⟨(some 17), none, .mov (.tmp 0)⟩,
 ⟨(some 18), none, .mov (.tmp 5)⟩,
 ⟨(some 19), none, .call 8 [(.tmp 17), (.tmp 18)]⟩])
 (.seq
 (.ops [
 ⟨(some 20), none, .mov (.tmp 0)⟩,
 ⟨(some 21), none, .mov (.tmp 6)⟩,
 ⟨(some 22), none, .call 9 [(.tmp 20), (.tmp 21)]⟩])
 (.seq
 (.ops [
 ⟨(some 3), none, .mov (.const (.fn 10 [] []))⟩])
 .ret))))))

theorem c6 : compF Try.prog 6 = some (23, [.tmp 3], k6) := by
 unfold compF; rw [Try.func6]; kernel_rfl

noncomputable abbrev k7 : CC :=
 (.seq
 (.ops [
 ⟨(some 1), none, .box (.tmp 0)⟩,
 ⟨(some 2), none, .mov (.const (.int 0))⟩,
 ⟨(some 3), none, .mov (.const (.int 0))⟩,
 ⟨(some 4), none, .mov (.const (.int 0))⟩])
 (.seq
 (.block 0
 (.seq
 (.ops [
 ⟨(some 9), none, .faddr 0 (.tmp 1)⟩,
 ⟨(some 10), none, .load false 1 (.tmp 9)⟩,
 ⟨(some 11), none, .lit [(.int 0)] 1 [(0, 1, (.tmp 10))]⟩,
 ⟨(some 12), none, .call 37 [(.const (.int 1)), (.const (.int 5)), (.tmp 11)]⟩,
 ⟨(some 13), none, .mov (.tmp 12)⟩,
 ⟨(some 14), (some (13, false)), .faddr 1 (.tmp 1)⟩,
 ⟨(some 15), (some (13, false)), .load false 1 (.tmp 14)⟩,
 ⟨(some 16), (some (13, false)), .lit [(.int 0)] 1 [(0, 1, (.tmp 15))]⟩,
 ⟨(some 17), (some (13, false)), .call 37 [(.const (.int 1)), (.const (.int 6)), (.tmp 16)]⟩,
 ⟨(some 18), none, .pick (.tmp 13) (.const (.bool true)) (.tmp 17)⟩,
 ⟨(some 19), none, .mov (.tmp 18)⟩,
 ⟨(some 20), (some (19, false)), .faddr 3 (.tmp 1)⟩,
 ⟨(some 21), (some (19, false)), .load false 1 (.tmp 20)⟩,
 ⟨(some 22), (some (19, false)), .lit [(.int 0)] 1 [(0, 1, (.tmp 21))]⟩,
 ⟨(some 23), (some (19, false)), .call 37 [(.const (.int 0)), (.const (.int 30)), (.tmp 22)]⟩,
 ⟨(some 24), none, .pick (.tmp 19) (.const (.bool true)) (.tmp 23)⟩,
 ⟨(some 8), none, .mov (.tmp 24)⟩])
 (.cond (.tmp 8)
 (.seq
 (.ops [
 ⟨(some 2), none, .mov (.const (.int 1))⟩,
 ⟨(some 3), none, .mov (.const (.int 0))⟩,
 ⟨(some 4), none, .mov (.const (.int 7))⟩])
 .ret)
 (.seq
 (.ops [
 ⟨(some 26), none, .faddr 2 (.tmp 1)⟩,
 ⟨(some 27), none, .load false 1 (.tmp 26)⟩,
 ⟨(some 28), none, .len .sl (.tmp 27)⟩,
 ⟨(some 29), none, .bin .gtr 3 (.tmp 28) (.const (.int 3))⟩,
 ⟨(some 25), none, .mov (.tmp 29)⟩])
 (.cond (.tmp 25)
 (.seq
 (.ops [
 ⟨(some 2), none, .mov (.const (.int 2))⟩,
 ⟨(some 3), none, .mov (.const (.int 0))⟩,
 ⟨(some 4), none, .mov (.const (.int 3))⟩])
 .ret)
 .skip)))))
 (.seq
 (.ops [
 ⟨(some 31), none, .faddr 2 (.tmp 1)⟩,
 ⟨(some 32), none, .load false 1 (.tmp 31)⟩,
 ⟨(some 33), none, .mkfn 39 [] [(.tmp 1)]⟩,
 ⟨(some 34), none, .call 38 [(.tmp 32), (.tmp 33)]⟩,
 ⟨(some 30), none, .mov (.tmp 34)⟩,
 ⟨(some 35), none, .extract (.tmp 30) 0⟩,
 ⟨(some 36), none, .extract (.tmp 30) 1⟩,
 ⟨(some 3), none, .mov (.tmp 35)⟩,
 ⟨(some 4), none, .mov (.tmp 36)⟩])
 (.seq
 (.block 1
 (.seq
 (.ops [
 ⟨(some 38), none, .mov (.tmp 4)⟩,
 ⟨(some 39), none, .bin .neq 35 (.tmp 38) (.const (.int 0))⟩,
 ⟨(some 37), none, .mov (.tmp 39)⟩])
 (.cond (.tmp 37)
 (.seq
 (.ops [
 ⟨(some 40), none, .mov (.tmp 3)⟩,
 ⟨(some 41), none, .mov (.tmp 4)⟩,
 ⟨(some 2), none, .mov (.const (.int 2))⟩,
 ⟨(some 3), none, .mov (.tmp 40)⟩,
 ⟨(some 4), none, .mov (.tmp 41)⟩])
 .ret)
 (.seq
 (.ops [
 ⟨(some 43), none, .faddr 4 (.tmp 1)⟩,
 ⟨(some 44), none, .load false 1 (.tmp 43)⟩,
 ⟨(some 45), none, .len .sl (.tmp 44)⟩,
 ⟨(some 46), none, .bin .gtr 3 (.tmp 45) (.const (.int 6))⟩,
 ⟨(some 42), none, .mov (.tmp 46)⟩])
 (.cond (.tmp 42)
 (.seq
 (.ops [
 ⟨(some 2), none, .mov (.const (.int 3))⟩,
 ⟨(some 3), none, .mov (.const (.int 0))⟩,
 ⟨(some 4), none, .mov (.const (.int 3))⟩])
 .ret)
 .skip)))))
 (.seq
 (.draw [
 ⟨(some 47), none, .faddr 0 (.tmp 1)⟩,
 ⟨(some 48), none, .load false 1 (.tmp 47)⟩,
 ⟨(some 49), none, .bin .shl 3 (.const (.int 1)) (.tmp 48)⟩,
 ⟨(some 50), none, .faddr 1 (.tmp 1)⟩,
 ⟨(some 51), none, .load false 1 (.tmp 50)⟩,
 ⟨(some 52), none, .bin .shl 3 (.const (.int 1)) (.tmp 51)⟩,
 ⟨(some 53), none, .faddr 2 (.tmp 1)⟩,
 ⟨(some 54), none, .load false 1 (.tmp 53)⟩,
 ⟨(some 55), none, .len .sl (.tmp 54)⟩,
 ⟨(some 56), none, .bin .shl 3 (.const (.int 1)) (.tmp 55)⟩,
 ⟨(some 5), none, .alloc [(.int 0)]⟩,
 ⟨(some 6), none, .alloc [(.int 0)]⟩,
 ⟨(some 7), none, .alloc [(.int 0)]⟩,
 ⟨none, none, .store 1 (.tmp 5) (.tmp 49)⟩,
 ⟨none, none, .store 1 (.tmp 6) (.tmp 52)⟩,
 ⟨none, none, .store 1 (.tmp 7) (.tmp 56)⟩] [[], [0], [1, 0], [], [3], [4, 3], [], [6], [7, 6], [8, 7, 6], [], [], [], [2, 10, 11, 12, 1, 0], [5, 13, 4, 3, 2, 10, 11, 12, 1, 0], [9, 14, 8, 7, 6, 5, 13, 4, 3, 2, 10, 11, 12, 1, 0]])
 (.seq
 (.ops [
 ⟨(some 58), none, .faddr 4 (.tmp 1)⟩,
 ⟨(some 59), none, .load false 1 (.tmp 58)⟩,
 ⟨(some 60), none, .mkfn 43 [] [(.tmp 1), (.tmp 5), (.tmp 6), (.tmp 7)]⟩,
 ⟨(some 61), none, .call 42 [(.tmp 59), (.tmp 60)]⟩,
 ⟨(some 57), none, .mov (.tmp 61)⟩,
 ⟨(some 62), none, .extract (.tmp 57) 0⟩,
 ⟨(some 63), none, .extract (.tmp 57) 1⟩,
 ⟨(some 3), none, .mov (.tmp 62)⟩,
 ⟨(some 4), none, .mov (.tmp 63)⟩])
 (.seq
 (.block 2
 (.seq
 (.ops [
 ⟨(some 65), none, .mov (.tmp 4)⟩,
 ⟨(some 66), none, .bin .neq 35 (.tmp 65) (.const (.int 0))⟩,
 ⟨(some 64), none, .mov (.tmp 66)⟩])
 (.cond (.tmp 64)
 (.seq
 (.ops [
 ⟨(some 67), none, .mov (.tmp 3)⟩,
 ⟨(some 68), none, .mov (.tmp 4)⟩,
 ⟨(some 2), none, .mov (.const (.int 3))⟩,
 ⟨(some 3), none, .mov (.tmp 67)⟩,
 ⟨(some 4), none, .mov (.tmp 68)⟩])
 .ret)
 (.seq
 (.ops [
 ⟨(some 70), none, .faddr 5 (.tmp 1)⟩,
 ⟨(some 71), none, .load false 1 (.tmp 70)⟩,
 ⟨(some 72), none, .len .sl (.tmp 71)⟩,
 ⟨(some 73), none, .bin .gtr 3 (.tmp 72) (.const (.int 4))⟩,
 ⟨(some 69), none, .mov (.tmp 73)⟩])
 (.cond (.tmp 69)
 (.seq
 (.ops [
 ⟨(some 2), none, .mov (.const (.int 4))⟩,
 ⟨(some 3), none, .mov (.const (.int 0))⟩,
 ⟨(some 4), none, .mov (.const (.int 3))⟩])
 .ret)
 .skip)))))
 (.seq
 (.ops [
 ⟨(some 75), none, .faddr 5 (.tmp 1)⟩,
 ⟨(some 76), none, .load false 1 (.tmp 75)⟩,
 ⟨(some 77), none, .mkfn 45 [] [(.tmp 6), (.tmp 1)]⟩,
 ⟨(some 78), none, .call 44 [(.tmp 76), (.tmp 77)]⟩,
 ⟨(some 74), none, .mov (.tmp 78)⟩,
 ⟨(some 79), none, .extract (.tmp 74) 0⟩,
 ⟨(some 80), none, .extract (.tmp 74) 1⟩,
 ⟨(some 3), none, .mov (.tmp 79)⟩,
 ⟨(some 4), none, .mov (.tmp 80)⟩])
 (.seq
 (.seq
 (.ops [
 ⟨(some 81), none, .mov (.tmp 4)⟩,
 ⟨(some 82), none, .bin .neq 35 (.tmp 81) (.const (.int 0))⟩])
 (.cond (.tmp 82)
 (.seq
 (.ops [
 ⟨(some 83), none, .mov (.tmp 3)⟩,
 ⟨(some 84), none, .mov (.tmp 4)⟩,
 ⟨(some 2), none, .mov (.const (.int 4))⟩,
 ⟨(some 3), none, .mov (.tmp 83)⟩,
 ⟨(some 4), none, .mov (.tmp 84)⟩])
 .ret)
 .skip))
 (.seq
 (.ops [
 ⟨(some 2), none, .mov (.const (.int 0))⟩,
 ⟨(some 3), none, .mov (.const (.int 0))⟩,
 ⟨(some 4), none, .mov (.const (.int 0))⟩])
 .ret))))))))))

theorem c7 : compF Try.prog 7 = some (85, [.tmp 2, .tmp 3, .tmp 4], k7) := by
 unfold compF; rw [Try.func7]; kernel_rfl

noncomputable abbrev k8 : CC :=
 (.ops [
 ⟨(some 4), none, .mov (.tmp 0)⟩,
 ⟨(some 5), none, .mov (.tmp 0)⟩,
 ⟨(some 6), none, .nilchk (.tmp 5)⟩,
 ⟨(some 7), none, .faddr 0 (.tmp 6)⟩,
 ⟨(some 8), none, .load false 1 (.tmp 7)⟩,
 ⟨(some 9), none, .mov (.tmp 1)⟩,
 ⟨(some 10), none, .lit [(.int 0)] 1 [(0, 1, (.tmp 9))]⟩,
 ⟨(some 11), none, .append 1 8 [(.int 0)] (.tmp 8) (.tmp 10)⟩,
 ⟨(some 12), none, .nilchk (.tmp 4)⟩,
 ⟨(some 13), none, .faddr 0 (.tmp 12)⟩,
 ⟨none, none, .store 1 (.tmp 13) (.tmp 11)⟩])

theorem c8 : compF Try.prog 8 = some (14, [], k8) := by
 unfold compF; rw [Try.func8]; kernel_rfl

noncomputable abbrev k9 : CC :=
 (.ops [
 ⟨(some 4), none, .mov (.tmp 0)⟩,
 ⟨(some 5), none, .mov (.tmp 0)⟩,
 ⟨(some 6), none, .nilchk (.tmp 5)⟩,
 ⟨(some 7), none, .faddr 0 (.tmp 6)⟩,
 ⟨(some 8), none, .load false 1 (.tmp 7)⟩,
 ⟨(some 9), none, .mov (.tmp 1)⟩,
 ⟨(some 10), none, .lit [(.int 0)] 1 [(0, 1, (.tmp 9))]⟩,
 ⟨(some 11), none, .append 1 8 [(.int 0)] (.tmp 8) (.tmp 10)⟩,
 ⟨(some 12), none, .nilchk (.tmp 4)⟩,
 ⟨(some 13), none, .faddr 0 (.tmp 12)⟩,
 ⟨none, none, .store 1 (.tmp 13) (.tmp 11)⟩])

theorem c9 : compF Try.prog 9 = some (14, [], k9) := by
 unfold compF; rw [Try.func9]; kernel_rfl

noncomputable abbrev k10 : CC :=
 .skip

theorem c10 : compF Try.prog 10 = some (0, [], k10) := by
 unfold compF; rw [Try.func10]; kernel_rfl

noncomputable abbrev k11 : CC :=
 (.seq
 (.ops [
 ⟨(some 3), none, .mov (.const (.v .nilFunc))⟩])
 (.seq
 (.ops [
 ⟨(some 7), none, .faddr 0 (.tmp 1)⟩,
 ⟨(some 8), none, .load true 6 (.tmp 7)⟩,
 ⟨(some 9), none, .call 12 [(.tmp 8)]⟩,
 ⟨(some 6), none, .mov (.tmp 9)⟩,
 ⟨(some 10), none, .extract (.tmp 6) 0⟩,
 ⟨(some 11), none, .extract (.tmp 6) 1⟩,
 ⟨(some 4), none, .alloc [(.list .exact [] 0)]⟩,
 ⟨none, none, .store 1 (.tmp 4) (.tmp 10)⟩,
 ⟨(some 5), none, .mov (.tmp 11)⟩])
 (.seq
 (.ops [
 ⟨(some 12), none, .mov (.tmp 0)⟩,
 ⟨(some 13), none, .load false 1 (.tmp 4)⟩,
 ⟨(some 14), none, .call 13 [(.tmp 12), (.tmp 13)]⟩])
 (.seq
 (.ops [
 ⟨(some 15), none, .mov (.tmp 0)⟩,
 ⟨(some 16), none, .mov (.tmp 5)⟩,
 ⟨(some 17), none, .call 9 [(.tmp 15), (.tmp 16)]⟩])
 (.seq
 (.ops [
 ⟨(some 18), none, .mkfn 14 [] [(.tmp 4)]⟩,
 ⟨(some 3), none, .mov (.tmp 18)⟩])
 .ret)))))

theorem c11 : compF Try.prog 11 = some (19, [.tmp 3], k11) := by
 unfold compF; rw [Try.func11]; kernel_rfl

noncomputable abbrev k12 : CC :=
 (.seq
 (.ops [
 ⟨(some 1), none, .box (.tmp 0)⟩,
 ⟨(some 2), none, .mov (.const (.list .exact [] 0))⟩,
 ⟨(some 3), none, .mov (.const (.int 0))⟩])
 (.seq
 (.seq
 (.ops [
 ⟨(some 7), none, .load true 6 (.tmp 1)⟩,
 ⟨(some 8), none, .call 46 [(.tmp 7), (.const (.list .exact [] 0))]⟩,
 ⟨(some 6), none, .mov (.tmp 8)⟩,
 ⟨(some 9), none, .extract (.tmp 6) 0⟩,
 ⟨(some 10), none, .extract (.tmp 6) 1⟩,
 ⟨(some 3), none, .mov (.tmp 10)⟩])
 (.seq
 (.ops [
 ⟨(some 11), none, .mov (.tmp 3)⟩,
 ⟨(some 12), none, .bin .neq 35 (.tmp 11) (.const (.int 0))⟩])
 (.cond (.tmp 12)
 (.seq
 (.ops [
 ⟨(some 13), none, .mov (.tmp 3)⟩,
 ⟨(some 2), none, .mov (.const (.list .exact [] 0))⟩,
 ⟨(some 3), none, .mov (.tmp 13)⟩])
 .ret)
 .skip)))
 (.seq
 (.ops [
 ⟨(some 14), none, .faddr 4 (.tmp 1)⟩,
 ⟨(some 15), none, .load false 1 (.tmp 14)⟩,
 ⟨(some 16), none, .len .sl (.tmp 15)⟩,
 ⟨(some 17), none, .mkslice [(.int 0), (.int 0), (.int 0), (.int 0)] 4 32 (.tmp 16) (.tmp 16)⟩,
 ⟨(some 4), none, .mov (.tmp 17)⟩])
 (.seq
 (.ops [
 ⟨(some 18), none, .mov (.tmp 4)⟩,
 ⟨(some 19), none, .faddr 4 (.tmp 1)⟩,
 ⟨(some 20), none, .load false 1 (.tmp 19)⟩,
 ⟨(some 21), none, .copy 4 (.tmp 18) (.tmp 20)⟩])
 (.seq
 (.seq
 (.ops [
 ⟨(some 22), none, .faddr 3 (.tmp 1)⟩,
 ⟨(some 23), none, .load false 1 (.tmp 22)⟩,
 ⟨(some 24), none, .mov (.const (.int 0))⟩])
 (.block 0
 (.loop
 (.seq
 (.ops [
 ⟨(some 25), none, .bin .lss 3 (.tmp 24) (.tmp 23)⟩])
 (.seq
 (.cond (.tmp 25)
 .skip
 (.exit 0))
 (.seq
 (.block 1
 (.seq
 (.ops [
 ⟨(some 26), none, .mov (.tmp 24)⟩,
 ⟨(some 5), none, .mov (.tmp 26)⟩])
 (.seq
 (.seq
 (.ops [
 ⟨(some 27), none, .mov (.tmp 4)⟩,
 ⟨(some 28), none, .len .sl (.tmp 27)⟩,
 ⟨(some 29), none, .bin .gtr 3 (.tmp 28) (.const (.int 0))⟩,
 ⟨(some 30), none, .mov (.tmp 29)⟩,
 ⟨(some 31), (some (30, true)), .mov (.tmp 4)⟩,
 ⟨(some 32), (some (30, true)), .iaddr 4 (.tmp 31) (.const (.int 0))⟩,
 ⟨(some 33), (some (30, true)), .faddr 0 (.tmp 32)⟩,
 ⟨(some 34), (some (30, true)), .load false 1 (.tmp 33)⟩,
 ⟨(some 35), (some (30, true)), .mov (.tmp 5)⟩,
 ⟨(some 36), (some (30, true)), .bin .add 3 (.tmp 35) (.const (.int 1))⟩,
 ⟨(some 37), (some (30, true)), .bin .eql 3 (.tmp 34) (.tmp 36)⟩,
 ⟨(some 38), none, .pick (.tmp 30) (.tmp 37) (.const (.bool false))⟩])
 (.cond (.tmp 38)
 (.seq
 (.ops [
 ⟨(some 39), none, .mov (.tmp 4)⟩,
 ⟨(some 40), none, .slice 4 (.tmp 39) (some (.const (.int 1))) none none⟩,
 ⟨(some 4), none, .mov (.tmp 40)⟩])
 (.exit 1))
 .skip))
 (.ops [
 ⟨(some 41), none, .mov (.tmp 2)⟩,
 ⟨(some 42), none, .mov (.tmp 5)⟩,
 ⟨(some 43), none, .bin .add 3 (.tmp 42) (.const (.int 1))⟩,
 ⟨(some 44), none, .lit [(.int 0)] 1 [(0, 1, (.tmp 43))]⟩,
 ⟨(some 45), none, .append 1 8 [(.int 0)] (.tmp 41) (.tmp 44)⟩,
 ⟨(some 2), none, .mov (.tmp 45)⟩]))))
 (.ops [
 ⟨(some 46), none, .bin .add 3 (.tmp 24) (.const (.int 1))⟩,
 ⟨(some 24), none, .mov (.tmp 46)⟩])))))))
 (.seq
 (.ops [
 ⟨(some 47), none, .mov (.tmp 2)⟩,
 ⟨(some 2), none, .mov (.tmp 47)⟩,
 ⟨(some 3), none, .mov (.const (.int 0))⟩])
 .ret))))))

theorem c12 : compF Try.prog 12 = some (48, [.tmp 2, .tmp 3], k12) := by
 unfold compF; rw [Try.func12]; kernel_rfl

noncomputable abbrev k13 : CC :=
 (.ops [
 ⟨(some 4), none, .mov (.tmp 0)⟩,
 ⟨(some 5), none, .mov (.tmp 1)⟩,
 ⟨(some 6), none, .call 47 [(.tmp 4), (.tmp 5), (.const (.fn 8 [] []))]⟩])

theorem c13 : compF Try.prog 13 = some (7, [], k13) := by
 unfold compF; rw [Try.func13]; kernel_rfl

noncomputable abbrev k14 : CC :=
 (.ops [
 ⟨(some 1), none, .call 15 [(.tmp 0)]⟩])

theorem c14 : compF Try.prog 14 = some (2, [], k14) := by
 unfold compF; rw [Try.func14]; kernel_rfl

noncomputable abbrev k15 : CC :=
 (.ops [
 ⟨(some 2), none, .mov (.tmp 0)⟩,
 ⟨(some 3), none, .nilchk (.tmp 2)⟩,
 ⟨(some 4), none, .load false 1 (.tmp 3)⟩,
 ⟨(some 5), none, .call 48 [(.tmp 4), (.const (.fn 49 [] []))]⟩])

theorem c15 : compF Try.prog 15 = some (6, [], k15) := by
 unfold compF; rw [Try.func15]; kernel_rfl

noncomputable abbrev k16 : CC :=
 (.seq
 (.ops [
 ⟨(some 3), none, .mov (.const (.v .nilFunc))⟩])
 (.seq
 (.ops [
 ⟨(some 7), none, .faddr 0 (.tmp 1)⟩,
 ⟨(some 8), none, .load true 6 (.tmp 7)⟩,
 ⟨(some 9), none, .faddr 6 (.tmp 1)⟩,
 ⟨(some 10), none, .load false 1 (.tmp 9)⟩,
 ⟨(some 11), none, .faddr 7 (.tmp 1)⟩,
 ⟨(some 12), none, .load false 1 (.tmp 11)⟩,
 ⟨(some 13), none, .call 17 [(.tmp 8), (.tmp 10), (.tmp 12)]⟩,
 ⟨(some 6), none, .mov (.tmp 13)⟩,
 ⟨(some 14), none, .extract (.tmp 6) 0⟩,
 ⟨(some 15), none, .extract (.tmp 6) 1⟩,
 ⟨(some 4), none, .alloc [(.list .exact [] 0)]⟩,
 ⟨none, none, .store 1 (.tmp 4) (.tmp 14)⟩,
 ⟨(some 5), none, .mov (.tmp 15)⟩])
 (.seq
 (.ops [
 ⟨(some 16), none, .mov (.tmp 0)⟩,
 ⟨(some 17), none, .load false 1 (.tmp 4)⟩,
 ⟨(some 18), none, .call 13 [(.tmp 16), (.tmp 17)]⟩])
 (.seq
 (.ops [
 ⟨(some 19), none, .mov (.tmp 0)⟩,
 ⟨(some 20), none, .mov (.tmp 5)⟩,
 ⟨(some 21), none, .call 9 [(.tmp 19), (.tmp 20)]⟩])
 (.seq
 (.ops [
 ⟨(some 22), none, .mkfn 18 [] [(.tmp 4)]⟩,
 ⟨(some 3), none, .mov (.tmp 22)⟩])
 .ret)))))

theorem c16 : compF Try.prog 16 = some (23, [.tmp 3], k16) := by
 unfold compF; rw [Try.func16]; kernel_rfl

noncomputable abbrev k17 : CC :=
 (.seq
 (.ops [
 ⟨(some 3), none, .box (.tmp 0)⟩,
 ⟨(some 6), none, .mov (.const (.list .exact [] 0))⟩,
 ⟨(some 7), none, .mov (.const (.int 0))⟩])
 (.seq
 (.ops [
 ⟨(some 12), none, .load true 6 (.tmp 3)⟩,
 ⟨(some 13), none, .mov (.tmp 1)⟩,
 ⟨(some 14), none, .faddr 2 (.tmp 3)⟩,
 ⟨(some 15), none, .load false 1 (.tmp 14)⟩,
 ⟨(some 16), none, .len .sl (.tmp 15)⟩,
 ⟨(some 17), none, .lit [(.int 0), (.int 0)] 2 [(0, 1, (.tmp 13)), (1, 1, (.tmp 16))]⟩,
 ⟨(some 18), none, .call 46 [(.tmp 12), (.tmp 17)]⟩,
 ⟨(some 11), none, .mov (.tmp 18)⟩,
 ⟨(some 19), none, .extract (.tmp 11) 0⟩,
 ⟨(some 20), none, .extract (.tmp 11) 1⟩,
 ⟨(some 8), none, .mov (.tmp 19)⟩,
 ⟨(some 9), none, .mov (.tmp 20)⟩])
 (.seq
 (.seq
 (.ops [
 ⟨(some 21), none, .mov (.tmp 9)⟩,
 ⟨(some 22), none, .bin .neq 35 (.tmp 21) (.const (.int 0))⟩])
 (.cond (.tmp 22)
 (.seq
 (.ops [
 ⟨(some 23), none, .mov (.tmp 9)⟩,
 ⟨(some 6), none, .mov (.const (.list .exact [] 0))⟩,
 ⟨(some 7), none, .mov (.tmp 23)⟩])
 .ret)
 .skip))
 (.seq
 (.ops [
 ⟨(some 25), none, .mov (.tmp 2)⟩,
 ⟨(some 26), none, .faddr 0 (.tmp 3)⟩,
 ⟨(some 27), none, .load false 1 (.tmp 26)⟩,
 ⟨(some 28), none, .call 50 [(.tmp 25), (.tmp 27)]⟩,
 ⟨(some 24), none, .mov (.tmp 28)⟩,
 ⟨(some 29), none, .extract (.tmp 24) 0⟩,
 ⟨(some 30), none, .extract (.tmp 24) 1⟩,
 ⟨(some 10), none, .mov (.tmp 29)⟩,
 ⟨(some 9), none, .mov (.tmp 30)⟩])
 (.seq
 (.seq
 (.ops [
 ⟨(some 31), none, .mov (.tmp 9)⟩,
 ⟨(some 32), none, .bin .neq 35 (.tmp 31) (.const (.int 0))⟩])
 (.cond (.tmp 32)
 (.seq
 (.ops [
 ⟨(some 33), none, .mov (.tmp 9)⟩,
 ⟨(some 6), none, .mov (.const (.list .exact [] 0))⟩,
 ⟨(some 7), none, .mov (.tmp 33)⟩])
 .ret)
 .skip))
 (.seq
 (.ops [
 ⟨(some 34), none, .mov (.tmp 8)⟩,
 ⟨(some 35), none, .mov (.tmp 1)⟩,
 ⟨(some 36), none, .mov (.tmp 10)⟩,
 ⟨(some 37), none, .call 52 [(.tmp 34), (.tmp 35), (.tmp 36)]⟩,
 ⟨(some 38), none, .call 51 [(.tmp 37)]⟩,
 ⟨(some 6), none, .mov (.tmp 38)⟩,
 ⟨(some 7), none, .mov (.const (.int 0))⟩])
 .ret))))))

theorem c17 : compF Try.prog 17 = some (39, [.tmp 6, .tmp 7], k17) := by
 unfold compF; rw [Try.func17]; kernel_rfl

noncomputable abbrev k18 : CC :=
 (.ops [
 ⟨(some 1), none, .call 15 [(.tmp 0)]⟩])

theorem c18 : compF Try.prog 18 = some (2, [], k18) := by
 unfold compF; rw [Try.func18]; kernel_rfl

noncomputable abbrev k19 : CC :=
 (.seq
 (.ops [
 ⟨(some 3), none, .mov (.const (.v .nilFunc))⟩])
 (.seq
 (.ops [
 ⟨(some 7), none, .faddr 0 (.tmp 1)⟩,
 ⟨(some 8), none, .load true 6 (.tmp 7)⟩,
 ⟨(some 9), none, .faddr 6 (.tmp 1)⟩,
 ⟨(some 10), none, .load false 1 (.tmp 9)⟩,
 ⟨(some 11), none, .faddr 9 (.tmp 1)⟩,
 ⟨(some 12), none, .load false 1 (.tmp 11)⟩,
 ⟨(some 13), none, .call 20 [(.tmp 8), (.tmp 10), (.tmp 12)]⟩,
 ⟨(some 6), none, .mov (.tmp 13)⟩,
 ⟨(some 14), none, .extract (.tmp 6) 0⟩,
 ⟨(some 15), none, .extract (.tmp 6) 1⟩,
 ⟨(some 4), none, .alloc [(.list .exact [] 0)]⟩,
 ⟨none, none, .store 1 (.tmp 4) (.tmp 14)⟩,
 ⟨(some 5), none, .mov (.tmp 15)⟩])
 (.seq
 (.ops [
 ⟨(some 16), none, .mov (.tmp 0)⟩,
 ⟨(some 17), none, .load false 1 (.tmp 4)⟩,
 ⟨(some 18), none, .call 13 [(.tmp 16), (.tmp 17)]⟩])
 (.seq
 (.ops [
 ⟨(some 19), none, .mov (.tmp 0)⟩,
 ⟨(some 20), none, .mov (.tmp 5)⟩,
 ⟨(some 21), none, .call 9 [(.tmp 19), (.tmp 20)]⟩])
 (.seq
 (.ops [
 ⟨(some 22), none, .mkfn 21 [] [(.tmp 4)]⟩,
 ⟨(some 3), none, .mov (.tmp 22)⟩])
 .ret)))))

theorem c19 : compF Try.prog 19 = some (23, [.tmp 3], k19) := by
 unfold compF; rw [Try.func19]; kernel_rfl

noncomputable abbrev k20 : CC :=
 (.seq
 (.ops [
 ⟨(some 3), none, .box (.tmp 0)⟩,
 ⟨(some 4), none, .box (.tmp 1)⟩,
 ⟨(some 5), none, .box (.tmp 2)⟩,
 ⟨(some 6), none, .mov (.const (.list .exact [] 0))⟩,
 ⟨(some 7), none, .mov (.const (.int 0))⟩])
 (.seq
 (.ops [
 ⟨(some 14), none, .load true 6 (.tmp 3)⟩,
 ⟨(some 15), none, .load false 1 (.tmp 4)⟩,
 ⟨(some 16), none, .faddr 2 (.tmp 3)⟩,
 ⟨(some 17), none, .load false 1 (.tmp 16)⟩,
 ⟨(some 18), none, .len .sl (.tmp 17)⟩,
 ⟨(some 19), none, .lit [(.int 0), (.int 0)] 2 [(0, 1, (.tmp 15)), (1, 1, (.tmp 18))]⟩,
 ⟨(some 20), none, .call 46 [(.tmp 14), (.tmp 19)]⟩,
 ⟨(some 13), none, .mov (.tmp 20)⟩,
 ⟨(some 21), none, .extract (.tmp 13) 0⟩,
 ⟨(some 22), none, .extract (.tmp 13) 1⟩,
 ⟨(some 8), none, .alloc [(.v (.pointer none))]⟩,
 ⟨none, none, .store 1 (.tmp 8) (.tmp 21)⟩,
 ⟨(some 9), none, .mov (.tmp 22)⟩])
 (.seq
 (.seq
 (.ops [
 ⟨(some 23), none, .mov (.tmp 9)⟩,
 ⟨(some 24), none, .bin .neq 35 (.tmp 23) (.const (.int 0))⟩])
 (.cond (.tmp 24)
 (.seq
 (.ops [
 ⟨(some 25), none, .mov (.tmp 9)⟩,
 ⟨(some 6), none, .mov (.const (.list .exact [] 0))⟩,
 ⟨(some 7), none, .mov (.tmp 25)⟩])
 .ret)
 .skip))
 (.seq
 (.ops [
 ⟨(some 26), none, .faddr 4 (.tmp 3)⟩,
 ⟨(some 27), none, .load false 1 (.tmp 26)⟩,
 ⟨(some 28), none, .mkfn 54 [] [(.tmp 5)]⟩,
 ⟨(some 29), none, .call 53 [(.tmp 27), (.tmp 28)]⟩,
 ⟨(some 10), none, .alloc [(.int 0)]⟩,
 ⟨none, none, .store 1 (.tmp 10) (.tmp 29)⟩])
 (.seq
 (.block 0
 (.seq
 (.ops [
 ⟨(some 31), none, .load false 1 (.tmp 10)⟩,
 ⟨(some 32), none, .bin .lss 3 (.tmp 31) (.const (.int 0))⟩,
 ⟨(some 30), none, .mov (.tmp 32)⟩])
 (.cond (.tmp 30)
 (.seq
 (.ops [
 ⟨(some 6), none, .mov (.const (.list .exact [] 0))⟩,
 ⟨(some 7), none, .mov (.const (.int 7))⟩])
 .ret)
 (.seq
 (.draw [
 ⟨(some 34), none, .load false 1 (.tmp 8)⟩,
 ⟨(some 35), none, .load false 1 (.tmp 4)⟩,
 ⟨(some 36), none, .nilchk (.tmp 34)⟩,
 ⟨(some 37), none, .faddr 6 (.tmp 36)⟩,
 ⟨(some 38), none, .iaddrarr 3 1 (.tmp 37) (.tmp 35)⟩,
 ⟨(some 39), none, .load false 1 (.tmp 38)⟩,
 ⟨(some 40), none, .load false 1 (.tmp 10)⟩,
 ⟨(some 41), none, .bin .shr 3 (.tmp 39) (.tmp 40)⟩,
 ⟨(some 42), none, .bin .and 3 (.tmp 41) (.const (.int 1))⟩,
 ⟨(some 43), none, .bin .eql 3 (.tmp 42) (.const (.int 0))⟩,
 ⟨(some 33), none, .mov (.tmp 43)⟩] [[], [], [0], [2, 0], [3, 1, 2, 0], [4, 3, 1, 2, 0], [], [5, 6, 4, 3, 1, 2, 0], [7, 5, 6, 4, 3, 1, 2, 0], [8, 7, 5, 6, 4, 3, 1, 2, 0], [9, 8, 7, 5, 6, 4, 3, 1, 2, 0]])
 (.cond (.tmp 33)
 (.seq
 (.ops [
 ⟨(some 6), none, .mov (.const (.list .exact [] 0))⟩,
 ⟨(some 7), none, .mov (.const (.int 2))⟩])
 .ret)
 .skip)))))
 (.seq
 (.ops [
 ⟨(some 45), none, .faddr 0 (.tmp 3)⟩,
 ⟨(some 46), none, .load false 1 (.tmp 45)⟩,
 ⟨(some 47), none, .call 56 [(.tmp 46)]⟩,
 ⟨(some 48), none, .mkfn 57 [] [(.tmp 8), (.tmp 4), (.tmp 10)]⟩,
 ⟨(some 49), none, .build [(.v .nilFunc)] [(0, 1, (.tmp 48))]⟩,
 ⟨(some 50), none, .call 55 [(.tmp 47), (.tmp 49)]⟩,
 ⟨(some 44), none, .mov (.tmp 50)⟩,
 ⟨(some 51), none, .extract (.tmp 44) 0⟩,
 ⟨(some 52), none, .extract (.tmp 44) 1⟩,
 ⟨(some 11), none, .mov (.tmp 51)⟩,
 ⟨(some 12), none, .mov (.tmp 52)⟩])
 (.seq
 (.seq
 (.ops [
 ⟨(some 53), none, .mov (.tmp 12)⟩,
 ⟨(some 54), none, .un .not (.tmp 53)⟩])
 (.cond (.tmp 54)
 (.seq
 (.ops [
 ⟨(some 6), none, .mov (.const (.list .exact [] 0))⟩,
 ⟨(some 7), none, .mov (.const (.int 9))⟩])
 .ret)
 .skip))
 (.seq
 (.ops [
 ⟨(some 55), none, .mov (.tmp 11)⟩,
 ⟨(some 6), none, .mov (.tmp 55)⟩,
 ⟨(some 7), none, .mov (.const (.int 0))⟩])
 .ret))))))))

theorem c20 : compF Try.prog 20 = some (56, [.tmp 6, .tmp 7], k20) := by
 unfold compF; rw [Try.func20]; kernel_rfl

noncomputable abbrev k21 : CC :=
 (.ops [
 ⟨(some 1), none, .call 15 [(.tmp 0)]⟩])

theorem c21 : compF Try.prog 21 = some (2, [], k21) := by
 unfold compF; rw [Try.func21]; kernel_rfl

noncomputable abbrev k22 : CC :=
 (.seq
 (.ops [
 ⟨(some 3), none, .mov (.const (.v .nilFunc))⟩])
 (.seq
 (.ops [
 ⟨(some 7), none, .faddr 0 (.tmp 1)⟩,
 ⟨(some 8), none, .load true 6 (.tmp 7)⟩,
 ⟨(some 9), none, .faddr 8 (.tmp 1)⟩,
 ⟨(some 10), none, .load false 1 (.tmp 9)⟩,
 ⟨(some 11), none, .call 23 [(.tmp 8), (.tmp 10)]⟩,
 ⟨(some 6), none, .mov (.tmp 11)⟩,
 ⟨(some 12), none, .extract (.tmp 6) 0⟩,
 ⟨(some 13), none, .extract (.tmp 6) 1⟩,
 ⟨(some 4), none, .alloc [(.list .exact [] 0)]⟩,
 ⟨none, none, .store 1 (.tmp 4) (.tmp 12)⟩,
 ⟨(some 5), none, .mov (.tmp 13)⟩])
 (.seq
 (.ops [
 ⟨(some 14), none, .mov (.tmp 0)⟩,
 ⟨(some 15), none, .load false 1 (.tmp 4)⟩,
 ⟨(some 16), none, .call 13 [(.tmp 14), (.tmp 15)]⟩])
 (.seq
 (.ops [
 ⟨(some 17), none, .mov (.tmp 0)⟩,
 ⟨(some 18), none, .mov (.tmp 5)⟩,
 ⟨(some 19), none, .call 9 [(.tmp 17), (.tmp 18)]⟩])
 (.seq
 (.ops [
 ⟨(some 20), none, .mkfn 24 [] [(.tmp 4)]⟩,
 ⟨(some 3), none, .mov (.tmp 20)⟩])
 .ret)))))

theorem c22 : compF Try.prog 22 = some (21, [.tmp 3], k22) := by
 unfold compF; rw [Try.func22]; kernel_rfl

noncomputable abbrev k23 : CC :=
 (.seq
 (.ops [
 ⟨(some 2), none, .box (.tmp 0)⟩,
 ⟨(some 4), none, .mov (.const (.list .exact [] 0))⟩,
 ⟨(some 5), none, .mov (.const (.int 0))⟩])
 (.seq
 (.ops [
 ⟨(some 10), none, .load true 6 (.tmp 2)⟩,
 ⟨(some 11), none, .call 46 [(.tmp 10), (.const (.list .exact [] 0))]⟩,
 ⟨(some 9), none, .mov (.tmp 11)⟩,
 ⟨(some 12), none, .extract (.tmp 9) 0⟩,
 ⟨(some 13), none, .extract (.tmp 9) 1⟩,
 ⟨(some 6), none, .mov (.tmp 12)⟩,
 ⟨(some 7), none, .mov (.tmp 13)⟩])
 (.seq
 (.seq
 (.ops [
 ⟨(some 14), none, .mov (.tmp 7)⟩,
 ⟨(some 15), none, .bin .neq 35 (.tmp 14) (.const (.int 0))⟩])
 (.cond (.tmp 15)
 (.seq
 (.ops [
 ⟨(some 16), none, .mov (.tmp 7)⟩,
 ⟨(some 4), none, .mov (.const (.list .exact [] 0))⟩,
 ⟨(some 5), none, .mov (.tmp 16)⟩])
 .ret)
 .skip))
 (.seq
 (.ops [
 ⟨(some 18), none, .mov (.tmp 1)⟩,
 ⟨(some 19), none, .faddr 4 (.tmp 2)⟩,
 ⟨(some 20), none, .load false 1 (.tmp 19)⟩,
 ⟨(some 21), none, .len .sl (.tmp 20)⟩,
 ⟨(some 22), none, .call 50 [(.tmp 18), (.tmp 21)]⟩,
 ⟨(some 17), none, .mov (.tmp 22)⟩,
 ⟨(some 23), none, .extract (.tmp 17) 0⟩,
 ⟨(some 24), none, .extract (.tmp 17) 1⟩,
 ⟨(some 8), none, .mov (.tmp 23)⟩,
 ⟨(some 7), none, .mov (.tmp 24)⟩])
 (.seq
 (.seq
 (.ops [
 ⟨(some 25), none, .mov (.tmp 7)⟩,
 ⟨(some 26), none, .bin .neq 35 (.tmp 25) (.const (.int 0))⟩])
 (.cond (.tmp 26)
 (.seq
 (.ops [
 ⟨(some 27), none, .mov (.tmp 7)⟩,
 ⟨(some 4), none, .mov (.const (.list .exact [] 0))⟩,
 ⟨(some 5), none, .mov (.tmp 27)⟩])
 .ret)
 .skip))
 (.seq
 (.ops [
 ⟨(some 28), none, .mov (.tmp 6)⟩,
 ⟨(some 29), none, .mov (.tmp 8)⟩,
 ⟨(some 30), none, .call 58 [(.tmp 28), (.tmp 29)]⟩,
 ⟨(some 31), none, .call 51 [(.tmp 30)]⟩,
 ⟨(some 4), none, .mov (.tmp 31)⟩,
 ⟨(some 5), none, .mov (.const (.int 0))⟩])
 .ret))))))

theorem c23 : compF Try.prog 23 = some (32, [.tmp 4, .tmp 5], k23) := by
 unfold compF; rw [Try.func23]; kernel_rfl

noncomputable abbrev k24 : CC :=
 (.ops [
 ⟨(some 1), none, .call 15 [(.tmp 0)]⟩])

theorem c24 : compF Try.prog 24 = some (2, [], k24) := by
 unfold compF; rw [Try.func24]; kernel_rfl

noncomputable abbrev k25 : CC :=
 (.seq
 (.ops [
 ⟨(some 3), none, .mov (.const (.v .nilFunc))⟩])
 (.seq
 (.ops [
 ⟨(some 7), none, .faddr 0 (.tmp 1)⟩,
 ⟨(some 8), none, .load true 6 (.tmp 7)⟩,
 ⟨(some 9), none, .faddr 8 (.tmp 1)⟩,
 ⟨(some 10), none, .load false 1 (.tmp 9)⟩,
 ⟨(some 11), none, .faddr 10 (.tmp 1)⟩,
 ⟨(some 12), none, .load false 1 (.tmp 11)⟩,
 ⟨(some 13), none, .call 26 [(.tmp 8), (.tmp 10), (.tmp 12)]⟩,
 ⟨(some 6), none, .mov (.tmp 13)⟩,
 ⟨(some 14), none, .extract (.tmp 6) 0⟩,
 ⟨(some 15), none, .extract (.tmp 6) 1⟩,
 ⟨(some 4), none, .alloc [(.list .exact [] 0)]⟩,
 ⟨none, none, .store 1 (.tmp 4) (.tmp 14)⟩,
 ⟨(some 5), none, .mov (.tmp 15)⟩])
 (.seq
 (.ops [
 ⟨(some 16), none, .mov (.tmp 0)⟩,
 ⟨(some 17), none, .load false 1 (.tmp 4)⟩,
 ⟨(some 18), none, .call 13 [(.tmp 16), (.tmp 17)]⟩])
 (.seq
 (.ops [
 ⟨(some 19), none, .mov (.tmp 0)⟩,
 ⟨(some 20), none, .mov (.tmp 5)⟩,
 ⟨(some 21), none, .call 9 [(.tmp 19), (.tmp 20)]⟩])
 (.seq
 (.ops [
 ⟨(some 22), none, .mkfn 27 [] [(.tmp 4)]⟩,
 ⟨(some 3), none, .mov (.tmp 22)⟩])
 .ret)))))

theorem c25 : compF Try.prog 25 = some (23, [.tmp 3], k25) := by
 unfold compF; rw [Try.func25]; kernel_rfl

noncomputable abbrev k26 : CC :=
 (.seq
 (.ops [
 ⟨(some 3), none, .box (.tmp 0)⟩,
 ⟨(some 5), none, .box (.tmp 2)⟩,
 ⟨(some 6), none, .mov (.const (.list .exact [] 0))⟩,
 ⟨(some 7), none, .mov (.const (.int 0))⟩])
 (.seq
 (.ops [
 ⟨(some 13), none, .load true 6 (.tmp 3)⟩,
 ⟨(some 14), none, .load false 1 (.tmp 5)⟩,
 ⟨(some 15), none, .faddr 1 (.tmp 3)⟩,
 ⟨(some 16), none, .load false 1 (.tmp 15)⟩,
 ⟨(some 17), none, .lit [(.int 0), (.int 0)] 2 [(0, 1, (.tmp 14)), (1, 1, (.tmp 16))]⟩,
 ⟨(some 18), none, .call 46 [(.tmp 13), (.tmp 17)]⟩,
 ⟨(some 12), none, .mov (.tmp 18)⟩,
 ⟨(some 19), none, .extract (.tmp 12) 0⟩,
 ⟨(some 20), none, .extract (.tmp 12) 1⟩,
 ⟨(some 8), none, .alloc [(.v (.pointer none))]⟩,
 ⟨none, none, .store 1 (.tmp 8) (.tmp 19)⟩,
 ⟨(some 9), none, .mov (.tmp 20)⟩])
 (.seq
 (.seq
 (.ops [
 ⟨(some 21), none, .mov (.tmp 9)⟩,
 ⟨(some 22), none, .bin .eql 35 (.tmp 21) (.const (.int 0))⟩])
 (.cond (.tmp 22)
 (.ops [
 ⟨(some 24), none, .mov (.tmp 1)⟩,
 ⟨(some 25), none, .faddr 4 (.tmp 3)⟩,
 ⟨(some 26), none, .load false 1 (.tmp 25)⟩,
 ⟨(some 27), none, .len .sl (.tmp 26)⟩,
 ⟨(some 28), none, .call 50 [(.tmp 24), (.tmp 27)]⟩,
 ⟨(some 23), none, .mov (.tmp 28)⟩,
 ⟨(some 29), none, .extract (.tmp 23) 0⟩,
 ⟨(some 30), none, .extract (.tmp 23) 1⟩,
 ⟨(some 9), none, .mov (.tmp 30)⟩])
 .skip))
 (.seq
 (.seq
 (.ops [
 ⟨(some 31), none, .mov (.tmp 9)⟩,
 ⟨(some 32), none, .bin .neq 35 (.tmp 31) (.const (.int 0))⟩])
 (.cond (.tmp 32)
 (.seq
 (.ops [
 ⟨(some 33), none, .mov (.tmp 9)⟩,
 ⟨(some 6), none, .mov (.const (.list .exact [] 0))⟩,
 ⟨(some 7), none, .mov (.tmp 33)⟩])
 .ret)
 .skip))
 (.seq
 (.ops [
 ⟨(some 35), none, .mov (.tmp 1)⟩,
 ⟨(some 36), none, .mkfn 59 [] [(.tmp 8), (.tmp 5)]⟩,
 ⟨(some 37), none, .build [(.v .nilFunc)] [(0, 1, (.tmp 36))]⟩,
 ⟨(some 38), none, .call 55 [(.tmp 35), (.tmp 37)]⟩,
 ⟨(some 34), none, .mov (.tmp 38)⟩,
 ⟨(some 39), none, .extract (.tmp 34) 0⟩,
 ⟨(some 40), none, .extract (.tmp 34) 1⟩,
 ⟨(some 10), none, .mov (.tmp 39)⟩,
 ⟨(some 11), none, .mov (.tmp 40)⟩])
 (.seq
 (.seq
 (.ops [
 ⟨(some 41), none, .mov (.tmp 11)⟩,
 ⟨(some 42), none, .un .not (.tmp 41)⟩])
 (.cond (.tmp 42)
 (.seq
 (.ops [
 ⟨(some 6), none, .mov (.const (.list .exact [] 0))⟩,
 ⟨(some 7), none, .mov (.const (.int 9))⟩])
 .ret)
 .skip))
 (.seq
 (.ops [
 ⟨(some 43), none, .mov (.tmp 10)⟩,
 ⟨(some 6), none, .mov (.tmp 43)⟩,
 ⟨(some 7), none, .mov (.const (.int 0))⟩])
 .ret)))))))

theorem c26 : compF Try.prog 26 = some (44, [.tmp 6, .tmp 7], k26) := by
 unfold compF; rw [Try.func26]; kernel_rfl

noncomputable abbrev k27 : CC :=
 (.ops [
 ⟨(some 1), none, .call 15 [(.tmp 0)]⟩])

theorem c27 : compF Try.prog 27 = some (2, [], k27) := by
 unfold compF; rw [Try.func27]; kernel_rfl

noncomputable abbrev k28 : CC :=
 (.seq
 (.ops [
 ⟨(some 3), none, .mov (.const (.v .nilFunc))⟩])
 (.seq
 (.ops [
 ⟨(some 7), none, .faddr 0 (.tmp 1)⟩,
 ⟨(some 8), none, .load true 6 (.tmp 7)⟩,
 ⟨(some 9), none, .faddr 6 (.tmp 1)⟩,
 ⟨(some 10), none, .load false 1 (.tmp 9)⟩,
 ⟨(some 11), none, .faddr 10 (.tmp 1)⟩,
 ⟨(some 12), none, .load false 1 (.tmp 11)⟩,
 ⟨(some 13), none, .call 29 [(.tmp 8), (.tmp 10), (.tmp 12)]⟩,
 ⟨(some 6), none, .mov (.tmp 13)⟩,
 ⟨(some 14), none, .extract (.tmp 6) 0⟩,
 ⟨(some 15), none, .extract (.tmp 6) 1⟩,
 ⟨(some 4), none, .alloc [(.list .exact [] 0)]⟩,
 ⟨none, none, .store 1 (.tmp 4) (.tmp 14)⟩,
 ⟨(some 5), none, .mov (.tmp 15)⟩])
 (.seq
 (.ops [
 ⟨(some 16), none, .mov (.tmp 0)⟩,
 ⟨(some 17), none, .load false 1 (.tmp 4)⟩,
 ⟨(some 18), none, .call 13 [(.tmp 16), (.tmp 17)]⟩])
 (.seq
 (.ops [
 ⟨(some 19), none, .mov (.tmp 0)⟩,
 ⟨(some 20), none, .mov (.tmp 5)⟩,
 ⟨(some 21), none, .call 9 [(.tmp 19), (.tmp 20)]⟩])
 (.seq
 (.ops [
 ⟨(some 22), none, .mkfn 30 [] [(.tmp 4)]⟩,
 ⟨(some 3), none, .mov (.tmp 22)⟩])
 .ret)))))

theorem c28 : compF Try.prog 28 = some (23, [.tmp 3], k28) := by
 unfold compF; rw [Try.func28]; kernel_rfl

noncomputable abbrev k29 : CC :=
 (.seq
 (.ops [
 ⟨(some 3), none, .box (.tmp 0)⟩,
 ⟨(some 5), none, .box (.tmp 2)⟩,
 ⟨(some 6), none, .mov (.const (.list .exact [] 0))⟩,
 ⟨(some 7), none, .mov (.const (.int 0))⟩])
 (.seq
 (.ops [
 ⟨(some 14), none, .load true 6 (.tmp 3)⟩,
 ⟨(some 15), none, .mov (.tmp 1)⟩,
 ⟨(some 16), none, .faddr 2 (.tmp 3)⟩,
 ⟨(some 17), none, .load false 1 (.tmp 16)⟩,
 ⟨(some 18), none, .len .sl (.tmp 17)⟩,
 ⟨(some 19), none, .load false 1 (.tmp 5)⟩,
 ⟨(some 20), none, .faddr 1 (.tmp 3)⟩,
 ⟨(some 21), none, .load false 1 (.tmp 20)⟩,
 ⟨(some 22), none, .lit [(.int 0), (.int 0), (.int 0), (.int 0)] 4 [(0, 1, (.tmp 15)), (1, 1, (.tmp 18)), (2, 1, (.tmp 19)), (3, 1, (.tmp 21))]⟩,
 ⟨(some 23), none, .call 46 [(.tmp 14), (.tmp 22)]⟩,
 ⟨(some 13), none, .mov (.tmp 23)⟩,
 ⟨(some 24), none, .extract (.tmp 13) 0⟩,
 ⟨(some 25), none, .extract (.tmp 13) 1⟩,
 ⟨(some 8), none, .alloc [(.v (.pointer none))]⟩,
 ⟨none, none, .store 1 (.tmp 8) (.tmp 24)⟩,
 ⟨(some 9), none, .mov (.tmp 25)⟩])
 (.seq
 (.seq
 (.ops [
 ⟨(some 26), none, .mov (.tmp 9)⟩,
 ⟨(some 27), none, .bin .neq 35 (.tmp 26) (.const (.int 0))⟩])
 (.cond (.tmp 27)
 (.seq
 (.ops [
 ⟨(some 28), none, .mov (.tmp 9)⟩,
 ⟨(some 6), none, .mov (.const (.list .exact [] 0))⟩,
 ⟨(some 7), none, .mov (.tmp 28)⟩])
 .ret)
 .skip))
 (.seq
 (.ops [
 ⟨(some 29), none, .load false 1 (.tmp 8)⟩,
 ⟨(some 30), none, .mov (.tmp 1)⟩,
 ⟨(some 31), none, .nilchk (.tmp 29)⟩,
 ⟨(some 32), none, .faddr 6 (.tmp 31)⟩,
 ⟨(some 33), none, .iaddrarr 3 1 (.tmp 32) (.tmp 30)⟩,
 ⟨(some 34), none, .load false 1 (.tmp 33)⟩,
 ⟨(some 10), none, .alloc [(.int 0)]⟩,
 ⟨none, none, .store 1 (.tmp 10) (.tmp 34)⟩])
 (.seq
 (.ops [
 ⟨(some 36), none, .load false 1 (.tmp 10)⟩,
 ⟨(some 37), none, .call 51 [(.tmp 36)]⟩,
 ⟨(some 38), none, .mkfn 60 [] [(.tmp 8), (.tmp 10), (.tmp 5)]⟩,
 ⟨(some 39), none, .build [(.v .nilFunc)] [(0, 1, (.tmp 38))]⟩,
 ⟨(some 40), none, .call 55 [(.tmp 37), (.tmp 39)]⟩,
 ⟨(some 35), none, .mov (.tmp 40)⟩,
 ⟨(some 41), none, .extract (.tmp 35) 0⟩,
 ⟨(some 42), none, .extract (.tmp 35) 1⟩,
 ⟨(some 11), none, .mov (.tmp 41)⟩,
 ⟨(some 12), none, .mov (.tmp 42)⟩])
 (.seq
 (.ops [
 ⟨(some 43), none, .mov (.tmp 11)⟩,
 ⟨(some 6), none, .mov (.tmp 43)⟩,
 ⟨(some 7), none, .mov (.const (.int 0))⟩])
 .ret))))))

theorem c29 : compF Try.prog 29 = some (44, [.tmp 6, .tmp 7], k29) := by
 unfold compF; rw [Try.func29]; kernel_rfl

noncomputable abbrev k30 : CC :=
 (.ops [
 ⟨(some 1), none, .call 15 [(.tmp 0)]⟩])

theorem c30 : compF Try.prog 30 = some (2, [], k30) := by
 unfold compF; rw [Try.func30]; kernel_rfl

noncomputable abbrev k31 : CC :=
 (.seq
 (.ops [
 ⟨(some 3), none, .mov (.const (.v .nilFunc))⟩])
 (.seq
 (.ops [
 ⟨(some 7), none, .faddr 0 (.tmp 1)⟩,
 ⟨(some 8), none, .load true 6 (.tmp 7)⟩,
 ⟨(some 9), none, .faddr 6 (.tmp 1)⟩,
 ⟨(some 10), none, .load false 1 (.tmp 9)⟩,
 ⟨(some 11), none, .call 32 [(.tmp 8), (.tmp 10)]⟩,
 ⟨(some 6), none, .mov (.tmp 11)⟩,
 ⟨(some 12), none, .extract (.tmp 6) 0⟩,
 ⟨(some 13), none, .extract (.tmp 6) 1⟩,
 ⟨(some 4), none, .alloc [(.list .exact [] 0)]⟩,
 ⟨none, none, .store 1 (.tmp 4) (.tmp 12)⟩,
 ⟨(some 5), none, .mov (.tmp 13)⟩])
 (.seq
 (.ops [
 ⟨(some 14), none, .mov (.tmp 0)⟩,
 ⟨(some 15), none, .load false 1 (.tmp 4)⟩,
 ⟨(some 16), none, .call 13 [(.tmp 14), (.tmp 15)]⟩])
 (.seq
 (.ops [
 ⟨(some 17), none, .mov (.tmp 0)⟩,
 ⟨(some 18), none, .mov (.tmp 5)⟩,
 ⟨(some 19), none, .call 9 [(.tmp 17), (.tmp 18)]⟩])
 (.seq
 (.ops [
 ⟨(some 20), none, .mkfn 33 [] [(.tmp 4)]⟩,
 ⟨(some 3), none, .mov (.tmp 20)⟩])
 .ret)))))

theorem c31 : compF Try.prog 31 = some (21, [.tmp 3], k31) := by
 unfold compF; rw [Try.func31]; kernel_rfl

noncomputable abbrev k32 : CC :=
 (.seq
 (.ops [
 ⟨(some 2), none, .box (.tmp 0)⟩,
 ⟨(some 4), none, .mov (.const (.list .exact [] 0))⟩,
 ⟨(some 5), none, .mov (.const (.int 0))⟩])
 (.seq
 (.ops [
 ⟨(some 13), none, .load true 6 (.tmp 2)⟩,
 ⟨(some 14), none, .mov (.tmp 1)⟩,
 ⟨(some 15), none, .faddr 2 (.tmp 2)⟩,
 ⟨(some 16), none, .load false 1 (.tmp 15)⟩,
 ⟨(some 17), none, .len .sl (.tmp 16)⟩,
 ⟨(some 18), none, .lit [(.int 0), (.int 0)] 2 [(0, 1, (.tmp 14)), (1, 1, (.tmp 17))]⟩,
 ⟨(some 19), none, .call 46 [(.tmp 13), (.tmp 18)]⟩,
 ⟨(some 12), none, .mov (.tmp 19)⟩,
 ⟨(some 20), none, .extract (.tmp 12) 0⟩,
 ⟨(some 21), none, .extract (.tmp 12) 1⟩,
 ⟨(some 6), none, .alloc [(.v (.pointer none))]⟩,
 ⟨none, none, .store 1 (.tmp 6) (.tmp 20)⟩,
 ⟨(some 7), none, .mov (.tmp 21)⟩])
 (.seq
 (.seq
 (.ops [
 ⟨(some 22), none, .mov (.tmp 7)⟩,
 ⟨(some 23), none, .bin .neq 35 (.tmp 22) (.const (.int 0))⟩])
 (.cond (.tmp 23)
 (.seq
 (.ops [
 ⟨(some 24), none, .mov (.tmp 7)⟩,
 ⟨(some 4), none, .mov (.const (.list .exact [] 0))⟩,
 ⟨(some 5), none, .mov (.tmp 24)⟩])
 .ret)
 .skip))
 (.seq
 (.ops [
 ⟨(some 25), none, .load false 1 (.tmp 6)⟩,
 ⟨(some 26), none, .mov (.tmp 1)⟩,
 ⟨(some 27), none, .nilchk (.tmp 25)⟩,
 ⟨(some 28), none, .faddr 6 (.tmp 27)⟩,
 ⟨(some 29), none, .iaddrarr 3 1 (.tmp 28) (.tmp 26)⟩,
 ⟨(some 30), none, .load false 1 (.tmp 29)⟩,
 ⟨(some 8), none, .alloc [(.int 0)]⟩,
 ⟨none, none, .store 1 (.tmp 8) (.tmp 30)⟩])
 (.seq
 (.seq
 (.ops [
 ⟨(some 31), none, .load false 1 (.tmp 8)⟩,
 ⟨(some 32), none, .load false 1 (.tmp 8)⟩,
 ⟨(some 33), none, .load false 1 (.tmp 8)⟩,
 ⟨(some 34), none, .build [(.int 0), (.int 0), (.int 0)] [(0, 1, (.tmp 31)), (1, 1, (.tmp 32)), (2, 1, (.tmp 33))]⟩,
 ⟨(some 9), none, .alloc [(.int 0), (.int 0), (.int 0)]⟩,
 ⟨none, none, .store 3 (.tmp 9) (.tmp 34)⟩])
 (.seq
 (.draw [
 ⟨(some 35), none, .load true 3 (.tmp 9)⟩,
 ⟨(some 36), none, .load false 1 (.tmp 6)⟩,
 ⟨(some 37), none, .nilchk (.tmp 36)⟩,
 ⟨(some 38), none, .faddr 6 (.tmp 37)⟩,
 ⟨(some 39), none, .load true 3 (.tmp 38)⟩,
 ⟨(some 40), none, .bin .eql 81 (.tmp 35) (.tmp 39)⟩,
 ⟨(some 41), none, .mov (.tmp 40)⟩,
 ⟨(some 42), (some (41, true)), .load false 1 (.tmp 8)⟩,
 ⟨(some 43), (some (41, true)), .bin .eql 3 (.tmp 42) (.const (.int 0))⟩,
 ⟨(some 44), none, .pick (.tmp 41) (.tmp 43) (.const (.bool false))⟩] [[], [], [1], [2, 1], [3, 2, 1], [0, 4, 3, 2, 1], [5, 0, 4, 3, 2, 1], [6, 5, 0, 4, 3, 2, 1], [7, 6, 5, 0, 4, 3, 2, 1], [8, 7, 6, 5, 0, 4, 3, 2, 1]])
 (.cond (.tmp 44)
 (.seq
 (.ops [
 ⟨(some 4), none, .mov (.const (.list .exact [] 0))⟩,
 ⟨(some 5), none, .mov (.const (.int 0))⟩])
 .ret)
 .skip)))
 (.seq
 (.ops [
 ⟨(some 46), none, .load false 1 (.tmp 8)⟩,
 ⟨(some 47), none, .call 51 [(.tmp 46)]⟩,
 ⟨(some 48), none, .mkfn 61 [] [(.tmp 6), (.tmp 8)]⟩,
 ⟨(some 49), none, .build [(.v .nilFunc)] [(0, 1, (.tmp 48))]⟩,
 ⟨(some 50), none, .call 55 [(.tmp 47), (.tmp 49)]⟩,
 ⟨(some 45), none, .mov (.tmp 50)⟩,
 ⟨(some 51), none, .extract (.tmp 45) 0⟩,
 ⟨(some 52), none, .extract (.tmp 45) 1⟩,
 ⟨(some 10), none, .mov (.tmp 51)⟩,
 ⟨(some 11), none, .mov (.tmp 52)⟩])
 (.seq
 (.ops [
 ⟨(some 53), none, .mov (.tmp 10)⟩,
 ⟨(some 4), none, .mov (.tmp 53)⟩,
 ⟨(some 5), none, .mov (.const (.int 0))⟩])
 .ret)))))))

theorem c32 : compF Try.prog 32 = some (54, [.tmp 4, .tmp 5], k32) := by
 unfold compF; rw [Try.func32]; kernel_rfl

noncomputable abbrev k33 : CC :=
 (.ops [
 ⟨(some 1), none, .call 15 [(.tmp 0)]⟩])

theorem c33 : compF Try.prog 33 = some (2, [], k33) := by
 unfold compF; rw [Try.func33]; kernel_rfl

noncomputable abbrev k34 : CC :=
 (.seq
 (.ops [
 ⟨(some 2), none, .box (.tmp 0)⟩,
 ⟨(some 3), none, .box (.tmp 1)⟩,
 ⟨(some 4), none, .mov (.const (.bool false))⟩])
 (.seq
 (.seq
 (.ops [
 ⟨(some 7), none, .faddr 0 (.tmp 2)⟩,
 ⟨(some 8), none, .load false 1 (.tmp 7)⟩,
 ⟨(some 9), none, .len .sl (.tmp 8)⟩,
 ⟨(some 10), none, .faddr 0 (.tmp 3)⟩,
 ⟨(some 11), none, .load false 1 (.tmp 10)⟩,
 ⟨(some 12), none, .len .sl (.tmp 11)⟩,
 ⟨(some 13), none, .bin .neq 3 (.tmp 9) (.tmp 12)⟩,
 ⟨(some 14), none, .mov (.tmp 13)⟩,
 ⟨(some 15), (some (14, false)), .faddr 1 (.tmp 2)⟩,
 ⟨(some 16), (some (14, false)), .load false 1 (.tmp 15)⟩,
 ⟨(some 17), (some (14, false)), .len .sl (.tmp 16)⟩,
 ⟨(some 18), (some (14, false)), .faddr 1 (.tmp 3)⟩,
 ⟨(some 19), (some (14, false)), .load false 1 (.tmp 18)⟩,
 ⟨(some 20), (some (14, false)), .len .sl (.tmp 19)⟩,
 ⟨(some 21), (some (14, false)), .bin .neq 3 (.tmp 17) (.tmp 20)⟩,
 ⟨(some 22), none, .pick (.tmp 14) (.const (.bool true)) (.tmp 21)⟩])
 (.cond (.tmp 22)
 (.seq
 (.ops [
 ⟨(some 4), none, .mov (.const (.bool false))⟩])
 .ret)
 .skip))
 (.seq
 (.seq
 (.ops [
 ⟨(some 5), none, .mov (.const (.int 0))⟩])
 (.block 0
 (.loop
 (.seq
 (.seq
 (.ops [
 ⟨(some 23), none, .mov (.tmp 5)⟩,
 ⟨(some 24), none, .faddr 0 (.tmp 2)⟩,
 ⟨(some 25), none, .load false 1 (.tmp 24)⟩,
 ⟨(some 26), none, .len .sl (.tmp 25)⟩,
 ⟨(some 27), none, .bin .lss 3 (.tmp 23) (.tmp 26)⟩])
 (.cond (.tmp 27)
 .skip
 (.exit 0)))
 (.seq
 (.block 1
 (.seq
 (.draw [
 ⟨(some 30), none, .faddr 0 (.tmp 2)⟩,
 ⟨(some 31), none, .load false 1 (.tmp 30)⟩,
 ⟨(some 32), none, .mov (.tmp 5)⟩,
 ⟨(some 33), none, .iaddr 1 (.tmp 31) (.tmp 32)⟩,
 ⟨(some 34), none, .load false 1 (.tmp 33)⟩,
 ⟨(some 35), none, .faddr 0 (.tmp 3)⟩,
 ⟨(some 36), none, .load false 1 (.tmp 35)⟩,
 ⟨(some 37), none, .mov (.tmp 5)⟩,
 ⟨(some 38), none, .iaddr 1 (.tmp 36) (.tmp 37)⟩,
 ⟨(some 39), none, .load false 1 (.tmp 38)⟩,
 ⟨(some 40), none, .bin .neq 3 (.tmp 34) (.tmp 39)⟩] [[], [0], [], [1, 2, 0], [3, 1, 2, 0], [], [5], [], [6, 7, 5], [8, 6, 7, 5], [4, 9, 3, 1, 2, 0, 8, 6, 7, 5]])
 (.cond (.tmp 40)
 (.seq
 (.ops [
 ⟨(some 4), none, .mov (.const (.bool false))⟩])
 .ret)
 .skip)))
 (.ops [
 ⟨(some 28), none, .mov (.tmp 5)⟩,
 ⟨(some 29), none, .bin .add 3 (.tmp 28) (.const (.int 1))⟩,
 ⟨(some 5), none, .mov (.tmp 29)⟩]))))))
 (.seq
 (.seq
 (.ops [
 ⟨(some 6), none, .mov (.const (.int 0))⟩])
 (.block 2
 (.loop
 (.seq
 (.seq
 (.ops [
 ⟨(some 41), none, .mov (.tmp 6)⟩,
 ⟨(some 42), none, .faddr 1 (.tmp 2)⟩,
 ⟨(some 43), none, .load false 1 (.tmp 42)⟩,
 ⟨(some 44), none, .len .sl (.tmp 43)⟩,
 ⟨(some 45), none, .bin .lss 3 (.tmp 41) (.tmp 44)⟩])
 (.cond (.tmp 45)
 .skip
 (.exit 2)))
 (.seq
 (.block 3
 (.seq
 (.draw [
 ⟨(some 48), none, .faddr 1 (.tmp 2)⟩,
 ⟨(some 49), none, .load false 1 (.tmp 48)⟩,
 ⟨(some 50), none, .mov (.tmp 6)⟩,
 ⟨(some 51), none, .iaddr 1 (.tmp 49) (.tmp 50)⟩,
 ⟨(some 52), none, .load false 1 (.tmp 51)⟩,
 ⟨(some 53), none, .faddr 1 (.tmp 3)⟩,
 ⟨(some 54), none, .load false 1 (.tmp 53)⟩,
 ⟨(some 55), none, .mov (.tmp 6)⟩,
 ⟨(some 56), none, .iaddr 1 (.tmp 54) (.tmp 55)⟩,
 ⟨(some 57), none, .load false 1 (.tmp 56)⟩,
 ⟨(some 58), none, .bin .neq 9 (.tmp 52) (.tmp 57)⟩] [[], [0], [], [1, 2, 0], [3, 1, 2, 0], [], [5], [], [6, 7, 5], [8, 6, 7, 5], [4, 9, 3, 1, 2, 0, 8, 6, 7, 5]])
 (.cond (.tmp 58)
 (.seq
 (.ops [
 ⟨(some 4), none, .mov (.const (.bool false))⟩])
 .ret)
 .skip)))
 (.ops [
 ⟨(some 46), none, .mov (.tmp 6)⟩,
 ⟨(some 47), none, .bin .add 3 (.tmp 46) (.const (.int 1))⟩,
 ⟨(some 6), none, .mov (.tmp 47)⟩]))))))
 (.seq
 (.ops [
 ⟨(some 4), none, .mov (.const (.bool true))⟩])
 .ret)))))

theorem c34 : compF Try.prog 34 = some (59, [.tmp 4], k34) := by
 unfold compF; rw [Try.func34]; kernel_rfl

noncomputable abbrev k35 : CC :=
 (.seq
 (.ops [
 ⟨(some 0), none, .mov (.const (.bool false))⟩])
 (.seq
 (.ops [
 ⟨(some 26), none, .call 62 []⟩,
 ⟨(some 1), none, .alloc [(.int 0), (.int 0), (.list .exact [] 0), (.int 0), (.list .exact [] 0), (.list .exact [] 0)]⟩,
 ⟨none, none, .store 6 (.tmp 1) (.tmp 26)⟩])
 (.seq
 (.ops [
 ⟨(some 28), none, .load true 6 (.tmp 1)⟩,
 ⟨(some 29), none, .call 12 [(.tmp 28)]⟩,
 ⟨(some 27), none, .mov (.tmp 29)⟩,
 ⟨(some 30), none, .extract (.tmp 27) 0⟩,
 ⟨(some 31), none, .extract (.tmp 27) 1⟩,
 ⟨(some 2), none, .mov (.tmp 30)⟩,
 ⟨(some 3), none, .mov (.tmp 31)⟩])
 (.seq
 (.ops [
 ⟨(some 33), none, .load true 6 (.tmp 1)⟩,
 ⟨(some 34), none, .lit [(.int 0)] 1 [(0, 1, (.const (.int 0)))]⟩,
 ⟨(some 35), none, .call 17 [(.tmp 33), (.const (.int 0)), (.tmp 34)]⟩,
 ⟨(some 32), none, .mov (.tmp 35)⟩,
 ⟨(some 36), none, .extract (.tmp 32) 0⟩,
 ⟨(some 37), none, .extract (.tmp 32) 1⟩,
 ⟨(some 4), none, .mov (.tmp 36)⟩,
 ⟨(some 5), none, .mov (.tmp 37)⟩])
 (.seq
 (.ops [
 ⟨(some 39), none, .load true 6 (.tmp 1)⟩,
 ⟨(some 40), none, .lit [(.int 0)] 1 [(0, 1, (.const (.int 0)))]⟩,
 ⟨(some 41), none, .call 17 [(.tmp 39), (.const (.int 1)), (.tmp 40)]⟩,
 ⟨(some 38), none, .mov (.tmp 41)⟩,
 ⟨(some 42), none, .extract (.tmp 38) 0⟩,
 ⟨(some 43), none, .extract (.tmp 38) 1⟩,
 ⟨(some 6), none, .mov (.tmp 42)⟩,
 ⟨(some 7), none, .mov (.tmp 43)⟩])
 (.seq
 (.ops [
 ⟨(some 45), none, .load true 6 (.tmp 1)⟩,
 ⟨(some 46), none, .call 20 [(.tmp 45), (.const (.int 0)), (.const (.int 1))]⟩,
 ⟨(some 44), none, .mov (.tmp 46)⟩,
 ⟨(some 47), none, .extract (.tmp 44) 0⟩,
 ⟨(some 48), none, .extract (.tmp 44) 1⟩,
 ⟨(some 8), none, .mov (.tmp 47)⟩,
 ⟨(some 9), none, .mov (.tmp 48)⟩])
 (.seq
 (.ops [
 ⟨(some 50), none, .load true 6 (.tmp 1)⟩,
 ⟨(some 51), none, .call 20 [(.tmp 50), (.const (.int 0)), (.const (.int 3))]⟩,
 ⟨(some 49), none, .mov (.tmp 51)⟩,
 ⟨(some 52), none, .extract (.tmp 49) 0⟩,
 ⟨(some 53), none, .extract (.tmp 49) 1⟩,
 ⟨(some 10), none, .mov (.tmp 52)⟩,
 ⟨(some 11), none, .mov (.tmp 53)⟩])
 (.seq
 (.ops [
 ⟨(some 55), none, .load true 6 (.tmp 1)⟩,
 ⟨(some 56), none, .call 20 [(.tmp 55), (.const (.int 1)), (.const (.int 4))]⟩,
 ⟨(some 54), none, .mov (.tmp 56)⟩,
 ⟨(some 57), none, .extract (.tmp 54) 0⟩,
 ⟨(some 58), none, .extract (.tmp 54) 1⟩,
 ⟨(some 12), none, .mov (.tmp 57)⟩,
 ⟨(some 13), none, .mov (.tmp 58)⟩])
 (.seq
 (.ops [
 ⟨(some 60), none, .load true 6 (.tmp 1)⟩,
 ⟨(some 61), none, .call 20 [(.tmp 60), (.const (.int 0)), (.const (.int 2))]⟩,
 ⟨(some 59), none, .mov (.tmp 61)⟩,
 ⟨(some 62), none, .extract (.tmp 59) 0⟩,
 ⟨(some 63), none, .extract (.tmp 59) 1⟩,
 ⟨(some 14), none, .mov (.tmp 62)⟩,
 ⟨(some 15), none, .mov (.tmp 63)⟩])
 (.seq
 (.ops [
 ⟨(some 65), none, .load true 6 (.tmp 1)⟩,
 ⟨(some 66), none, .lit [(.int 0), (.int 0)] 2 [(0, 1, (.const (.int 0))), (1, 1, (.const (.int 1)))]⟩,
 ⟨(some 67), none, .call 23 [(.tmp 65), (.tmp 66)]⟩,
 ⟨(some 64), none, .mov (.tmp 67)⟩,
 ⟨(some 68), none, .extract (.tmp 64) 0⟩,
 ⟨(some 69), none, .extract (.tmp 64) 1⟩,
 ⟨(some 16), none, .mov (.tmp 68)⟩,
 ⟨(some 17), none, .mov (.tmp 69)⟩])
 (.seq
 (.ops [
 ⟨(some 71), none, .load true 6 (.tmp 1)⟩,
 ⟨(some 72), none, .lit [(.int 0), (.int 0), (.int 0)] 3 [(0, 1, (.const (.int 0))), (1, 1, (.const (.int 1))), (2, 1, (.const (.int 2)))]⟩,
 ⟨(some 73), none, .call 26 [(.tmp 71), (.tmp 72), (.const (.int 3))]⟩,
 ⟨(some 70), none, .mov (.tmp 73)⟩,
 ⟨(some 74), none, .extract (.tmp 70) 0⟩,
 ⟨(some 75), none, .extract (.tmp 70) 1⟩,
 ⟨(some 18), none, .mov (.tmp 74)⟩,
 ⟨(some 19), none, .mov (.tmp 75)⟩])
 (.seq
 (.ops [
 ⟨(some 77), none, .load true 6 (.tmp 1)⟩,
 ⟨(some 78), none, .lit [(.int 0)] 1 [(0, 1, (.const (.int 2)))]⟩,
 ⟨(some 79), none, .call 26 [(.tmp 77), (.tmp 78), (.const (.int 3))]⟩,
 ⟨(some 76), none, .mov (.tmp 79)⟩,
 ⟨(some 80), none, .extract (.tmp 76) 0⟩,
 ⟨(some 81), none, .extract (.tmp 76) 1⟩,
 ⟨(some 20), none, .mov (.tmp 80)⟩,
 ⟨(some 21), none, .mov (.tmp 81)⟩])
 (.seq
 (.ops [
 ⟨(some 83), none, .load true 6 (.tmp 1)⟩,
 ⟨(some 84), none, .call 29 [(.tmp 83), (.const (.int 1)), (.const (.int 1))]⟩,
 ⟨(some 82), none, .mov (.tmp 84)⟩,
 ⟨(some 85), none, .extract (.tmp 82) 0⟩,
 ⟨(some 86), none, .extract (.tmp 82) 1⟩,
 ⟨(some 22), none, .mov (.tmp 85)⟩,
 ⟨(some 23), none, .mov (.tmp 86)⟩])
 (.seq
 (.ops [
 ⟨(some 88), none, .load true 6 (.tmp 1)⟩,
 ⟨(some 89), none, .call 32 [(.tmp 88), (.const (.int 1))]⟩,
 ⟨(some 87), none, .mov (.tmp 89)⟩,
 ⟨(some 90), none, .extract (.tmp 87) 0⟩,
 ⟨(some 91), none, .extract (.tmp 87) 1⟩,
 ⟨(some 24), none, .mov (.tmp 90)⟩,
 ⟨(some 25), none, .mov (.tmp 91)⟩])
 (.seq
 (.ops [
 ⟨(some 92), none, .mov (.tmp 3)⟩,
 ⟨(some 93), none, .bin .eql 35 (.tmp 92) (.const (.int 0))⟩,
 ⟨(some 94), none, .mov (.tmp 93)⟩,
 ⟨(some 95), (some (94, true)), .mov (.tmp 5)⟩,
 ⟨(some 96), (some (94, true)), .bin .eql 35 (.tmp 95) (.const (.int 0))⟩,
 ⟨(some 97), none, .pick (.tmp 94) (.tmp 96) (.const (.bool false))⟩,
 ⟨(some 98), none, .mov (.tmp 97)⟩,
 ⟨(some 99), (some (98, true)), .mov (.tmp 7)⟩,
 ⟨(some 100), (some (98, true)), .bin .eql 35 (.tmp 99) (.const (.int 0))⟩,
 ⟨(some 101), none, .pick (.tmp 98) (.tmp 100) (.const (.bool false))⟩,
 ⟨(some 102), none, .mov (.tmp 101)⟩,
 ⟨(some 103), (some (102, true)), .mov (.tmp 9)⟩,
 ⟨(some 104), (some (102, true)), .bin .eql 35 (.tmp 103) (.const (.int 0))⟩,
 ⟨(some 105), none, .pick (.tmp 102) (.tmp 104) (.const (.bool false))⟩,
 ⟨(some 106), none, .mov (.tmp 105)⟩,
 ⟨(some 107), (some (106, true)), .mov (.tmp 11)⟩,
 ⟨(some 108), (some (106, true)), .bin .eql 35 (.tmp 107) (.const (.int 9))⟩,
 ⟨(some 109), none, .pick (.tmp 106) (.tmp 108) (.const (.bool false))⟩,
 ⟨(some 110), none, .mov (.tmp 109)⟩,
 ⟨(some 111), (some (110, true)), .mov (.tmp 13)⟩,
 ⟨(some 112), (some (110, true)), .bin .eql 35 (.tmp 111) (.const (.int 2))⟩,
 ⟨(some 113), none, .pick (.tmp 110) (.tmp 112) (.const (.bool false))⟩,
 ⟨(some 114), none, .mov (.tmp 113)⟩,
 ⟨(some 115), (some (114, true)), .mov (.tmp 15)⟩,
 ⟨(some 116), (some (114, true)), .bin .eql 35 (.tmp 115) (.const (.int 7))⟩,
 ⟨(some 117), none, .pick (.tmp 114) (.tmp 116) (.const (.bool false))⟩,
 ⟨(some 118), none, .mov (.tmp 117)⟩,
 ⟨(some 119), (some (118, true)), .mov (.tmp 17)⟩,
 ⟨(some 120), (some (118, true)), .bin .eql 35 (.tmp 119) (.const (.int 0))⟩,
 ⟨(some 121), none, .pick (.tmp 118) (.tmp 120) (.const (.bool false))⟩,
 ⟨(some 122), none, .mov (.tmp 121)⟩,
 ⟨(some 123), (some (122, true)), .mov (.tmp 19)⟩,
 ⟨(some 124), (some (122, true)), .bin .eql 35 (.tmp 123) (.const (.int 0))⟩,
 ⟨(some 125), none, .pick (.tmp 122) (.tmp 124) (.const (.bool false))⟩,
 ⟨(some 126), none, .mov (.tmp 125)⟩,
 ⟨(some 127), (some (126, true)), .mov (.tmp 21)⟩,
 ⟨(some 128), (some (126, true)), .bin .eql 35 (.tmp 127) (.const (.int 9))⟩,
 ⟨(some 129), none, .pick (.tmp 126) (.tmp 128) (.const (.bool false))⟩,
 ⟨(some 130), none, .mov (.tmp 129)⟩,
 ⟨(some 131), (some (130, true)), .mov (.tmp 23)⟩,
 ⟨(some 132), (some (130, true)), .bin .eql 35 (.tmp 131) (.const (.int 0))⟩,
 ⟨(some 133), none, .pick (.tmp 130) (.tmp 132) (.const (.bool false))⟩,
 ⟨(some 134), none, .mov (.tmp 133)⟩,
 ⟨(some 135), (some (134, true)), .mov (.tmp 25)⟩,
 ⟨(some 136), (some (134, true)), .bin .eql 35 (.tmp 135) (.const (.int 0))⟩,
 ⟨(some 137), none, .pick (.tmp 134) (.tmp 136) (.const (.bool false))⟩,
 ⟨(some 138), none, .mov (.tmp 137)⟩,
 ⟨(some 139), (some (138, true)), .mov (.tmp 2)⟩,
 ⟨(some 140), (some (138, true)), .lit [(.int 0), (.int 0)] 2 [(0, 1, (.const (.int 2))), (1, 1, (.const (.int 5)))]⟩,
 ⟨(some 141), (some (138, true)), .call 63 [(.tmp 139), (.tmp 140)]⟩,
 ⟨(some 142), none, .pick (.tmp 138) (.tmp 141) (.const (.bool false))⟩,
 ⟨(some 143), none, .mov (.tmp 142)⟩,
 ⟨(some 144), (some (143, true)), .mov (.tmp 4)⟩,
 ⟨(some 145), (some (143, true)), .lit [(.int 0), (.int 0)] 2 [(0, 1, (.const (.int 0))), (1, 1, (.const (.int 1)))]⟩,
 ⟨(some 146), (some (143, true)), .call 63 [(.tmp 144), (.tmp 145)]⟩,
 ⟨(some 147), none, .pick (.tmp 143) (.tmp 146) (.const (.bool false))⟩,
 ⟨(some 148), none, .mov (.tmp 147)⟩,
 ⟨(some 149), (some (148, true)), .mov (.tmp 6)⟩,
 ⟨(some 150), (some (148, true)), .lit [(.int 0), (.int 0), (.int 0)] 3 [(0, 1, (.const (.int 0))), (1, 1, (.const (.int 1))), (2, 1, (.const (.int 3)))]⟩,
 ⟨(some 151), (some (148, true)), .call 63 [(.tmp 149), (.tmp 150)]⟩,
 ⟨(some 152), none, .pick (.tmp 148) (.tmp 151) (.const (.bool false))⟩,
 ⟨(some 153), none, .mov (.tmp 152)⟩,
 ⟨(some 154), (some (153, true)), .mov (.tmp 8)⟩,
 ⟨(some 155), (some (153, true)), .lit [(.int 0), (.int 0)] 2 [(0, 1, (.const (.int 0))), (1, 1, (.const (.int 1)))]⟩,
 ⟨(some 156), (some (153, true)), .call 63 [(.tmp 154), (.tmp 155)]⟩,
 ⟨(some 157), none, .pick (.tmp 153) (.tmp 156) (.const (.bool false))⟩,
 ⟨(some 158), none, .mov (.tmp 157)⟩,
 ⟨(some 159), (some (158, true)), .mov (.tmp 16)⟩,
 ⟨(some 160), (some (158, true)), .lit [(.int 0), (.int 0), (.int 0)] 3 [(0, 1, (.const (.int 0))), (1, 1, (.const (.int 1))), (2, 1, (.const (.int 3)))]⟩,
 ⟨(some 161), (some (158, true)), .call 63 [(.tmp 159), (.tmp 160)]⟩,
 ⟨(some 162), none, .pick (.tmp 158) (.tmp 161) (.const (.bool false))⟩,
 ⟨(some 163), none, .mov (.tmp 162)⟩,
 ⟨(some 164), (some (163, true)), .mov (.tmp 18)⟩,
 ⟨(some 165), (some (163, true)), .lit [(.int 0), (.int 0)] 2 [(0, 1, (.const (.int 0))), (1, 1, (.const (.int 1)))]⟩,
 ⟨(some 166), (some (163, true)), .call 63 [(.tmp 164), (.tmp 165)]⟩,
 ⟨(some 167), none, .pick (.tmp 163) (.tmp 166) (.const (.bool false))⟩,
 ⟨(some 168), none, .mov (.tmp 167)⟩,
 ⟨(some 169), (some (168, true)), .mov (.tmp 22)⟩,
 ⟨(some 170), (some (168, true)), .lit [(.int 0), (.int 0)] 2 [(0, 1, (.const (.int 1))), (1, 1, (.const (.int 3)))]⟩,
 ⟨(some 171), (some (168, true)), .call 63 [(.tmp 169), (.tmp 170)]⟩,
 ⟨(some 172), none, .pick (.tmp 168) (.tmp 171) (.const (.bool false))⟩,
 ⟨(some 173), none, .mov (.tmp 172)⟩,
 ⟨(some 174), (some (173, true)), .mov (.tmp 24)⟩,
 ⟨(some 175), (some (173, true)), .lit [(.int 0), (.int 0)] 2 [(0, 1, (.const (.int 0))), (1, 1, (.const (.int 3)))]⟩,
 ⟨(some 176), (some (173, true)), .call 63 [(.tmp 174), (.tmp 175)]⟩,
 ⟨(some 177), none, .pick (.tmp 173) (.tmp 176) (.const (.bool false))⟩,
 ⟨(some 0), none, .mov (.tmp 177)⟩])
 .ret)))))))))))))))

theorem c35 : compF Try.prog 35 = some (178, [.tmp 0], k35) := by
 unfold compF; rw [Try.func35]; kernel_rfl

noncomputable abbrev k36 : CC :=
 (.seq
 (.ops [
 ⟨(some 3), none, .box (.tmp 1)⟩])
 (.seq
 (.ops [
 ⟨(some 4), none, .mov (.tmp 0)⟩,
 ⟨(some 5), none, .faddr 0 (.tmp 3)⟩,
 ⟨(some 6), none, .load false 1 (.tmp 5)⟩,
 ⟨(some 7), none, .call 8 [(.tmp 4), (.tmp 6)]⟩])
 (.seq
 (.ops [
 ⟨(some 8), none, .mov (.tmp 0)⟩,
 ⟨(some 9), none, .faddr 1 (.tmp 3)⟩,
 ⟨(some 10), none, .load false 1 (.tmp 9)⟩,
 ⟨(some 11), none, .call 8 [(.tmp 8), (.tmp 10)]⟩])
 (.seq
 (.ops [
 ⟨(some 12), none, .mov (.tmp 0)⟩,
 ⟨(some 13), none, .faddr 2 (.tmp 3)⟩,
 ⟨(some 14), none, .load false 1 (.tmp 13)⟩,
 ⟨(some 15), none, .call 64 [(.tmp 12), (.tmp 14)]⟩])
 (.seq
 (.ops [
 ⟨(some 16), none, .mov (.tmp 0)⟩,
 ⟨(some 17), none, .faddr 3 (.tmp 3)⟩,
 ⟨(some 18), none, .load false 1 (.tmp 17)⟩,
 ⟨(some 19), none, .call 8 [(.tmp 16), (.tmp 18)]⟩])
 (.seq
 (.ops [
 ⟨(some 20), none, .mov (.tmp 0)⟩,
 ⟨(some 21), none, .faddr 4 (.tmp 3)⟩,
 ⟨(some 22), none, .load false 1 (.tmp 21)⟩,
 ⟨(some 23), none, .call 65 [(.tmp 20), (.tmp 22)]⟩])
 (.ops [
 ⟨(some 24), none, .mov (.tmp 0)⟩,
 ⟨(some 25), none, .faddr 5 (.tmp 3)⟩,
 ⟨(some 26), none, .load false 1 (.tmp 25)⟩,
 ⟨(some 27), none, .call 66 [(.tmp 24), (.tmp 26)]⟩])))))))

theorem c36 : compF Try.prog 36 = some (28, [], k36) := by
 unfold compF; rw [Try.func36]; kernel_rfl

noncomputable abbrev k37 : CC :=
 (.seq
 (.ops [
 ⟨(some 3), none, .box (.tmp 0)⟩,
 ⟨(some 4), none, .box (.tmp 1)⟩,
 ⟨(some 6), none, .mov (.const (.bool false))⟩])
 (.seq
 (.ops [
 ⟨(some 7), none, .mov (.tmp 2)⟩,
 ⟨(some 8), none, .mkfn 68 [] [(.tmp 3), (.tmp 4)]⟩,
 ⟨(some 9), none, .call 67 [(.tmp 7), (.tmp 8)]⟩,
 ⟨(some 6), none, .mov (.tmp 9)⟩])
 .ret))

theorem c37 : compF Try.prog 37 = some (10, [.tmp 6], k37) := by
 unfold compF; rw [Try.func37]; kernel_rfl

noncomputable abbrev k38 : CC :=
 (.seq
 (.ops [
 ⟨(some 4), none, .mov (.const (.int 0))⟩,
 ⟨(some 5), none, .mov (.const (.int 0))⟩])
 (.seq
 (.seq
 (.ops [
 ⟨(some 9), none, .mov (.tmp 0)⟩,
 ⟨(some 10), none, .len .sl (.tmp 9)⟩,
 ⟨(some 11), none, .mov (.const (.int 0))⟩])
 (.block 0
 (.loop
 (.seq
 (.ops [
 ⟨(some 12), none, .bin .lss 3 (.tmp 11) (.tmp 10)⟩])
 (.seq
 (.cond (.tmp 12)
 .skip
 (.exit 0))
 (.seq
 (.block 1
 (.seq
 (.ops [
 ⟨(some 13), none, .mov (.tmp 11)⟩,
 ⟨(some 14), none, .iaddr 1 (.tmp 9) (.tmp 11)⟩,
 ⟨(some 15), none, .load false 1 (.tmp 14)⟩,
 ⟨(some 6), none, .mov (.tmp 13)⟩,
 ⟨(some 7), none, .mov (.tmp 15)⟩])
 (.seq
 (.ops [
 ⟨(some 16), none, .mov (.tmp 1)⟩,
 ⟨(some 17), none, .mov (.tmp 6)⟩,
 ⟨(some 18), none, .mov (.tmp 7)⟩,
 ⟨(some 19), none, .callv (.tmp 16) [(.tmp 17), (.tmp 18)]⟩,
 ⟨(some 8), none, .mov (.tmp 19)⟩])
 (.seq
 (.ops [
 ⟨(some 20), none, .mov (.tmp 8)⟩,
 ⟨(some 21), none, .bin .neq 35 (.tmp 20) (.const (.int 0))⟩])
 (.cond (.tmp 21)
 (.seq
 (.ops [
 ⟨(some 22), none, .mov (.tmp 6)⟩,
 ⟨(some 23), none, .mov (.tmp 8)⟩,
 ⟨(some 4), none, .mov (.tmp 22)⟩,
 ⟨(some 5), none, .mov (.tmp 23)⟩])
 .ret)
 .skip)))))
 (.ops [
 ⟨(some 24), none, .bin .add 3 (.tmp 11) (.const (.int 1))⟩,
 ⟨(some 11), none, .mov (.tmp 24)⟩])))))))
 (.seq
 (.ops [
 ⟨(some 4), none, .mov (.const (.int 0))⟩,
 ⟨(some 5), none, .mov (.const (.int 0))⟩])
 .ret)))

theorem c38 : compF Try.prog 38 = some (25, [.tmp 4, .tmp 5], k38) := by
 unfold compF; rw [Try.func38]; kernel_rfl

noncomputable abbrev k39 : CC :=
 (.seq
 (.ops [
 ⟨(some 5), none, .mov (.const (.int 0))⟩])
 (.seq
 (.block 0
 (.seq
 (.ops [
 ⟨(some 7), none, .mov (.tmp 1)⟩,
 ⟨(some 8), none, .call 40 [(.tmp 7)]⟩,
 ⟨(some 9), none, .un .not (.tmp 8)⟩,
 ⟨(some 6), none, .mov (.tmp 9)⟩])
 (.cond (.tmp 6)
 (.seq
 (.ops [
 ⟨(some 5), none, .mov (.const (.int 6))⟩])
 .ret)
 (.seq
 (.ops [
 ⟨(some 11), none, .faddr 2 (.tmp 2)⟩,
 ⟨(some 12), none, .load false 1 (.tmp 11)⟩,
 ⟨(some 13), none, .mov (.tmp 0)⟩,
 ⟨(some 14), none, .slice 1 (.tmp 12) none (some (.tmp 13)) none⟩,
 ⟨(some 15), none, .mov (.tmp 1)⟩,
 ⟨(some 16), none, .call 41 [(.tmp 14), (.tmp 15)]⟩,
 ⟨(some 10), none, .mov (.tmp 16)⟩])
 (.cond (.tmp 10)
 (.seq
 (.ops [
 ⟨(some 5), none, .mov (.const (.int 5))⟩])
 .ret)
 .skip)))))
 (.seq
 (.ops [
 ⟨(some 5), none, .mov (.const (.int 0))⟩])
 .ret)))

theorem c39 : compF Try.prog 39 = some (17, [.tmp 5], k39) := by
 unfold compF; rw [Try.func39]; kernel_rfl

noncomputable abbrev k40 : CC :=
 (.seq
 (.ops [
 ⟨(some 2), none, .mov (.const (.bool false))⟩])
 (.seq
 (.seq
 (.ops [
 ⟨(some 6), none, .mov (.tmp 0)⟩,
 ⟨(some 7), none, .srange (.tmp 6)⟩])
 (.block 0
 (.loop
 (.seq
 (.ops [
 ⟨(some 8), none, .snext (.tmp 7)⟩,
 ⟨(some 9), none, .extract (.tmp 8) 0⟩])
 (.seq
 (.cond (.tmp 9)
 .skip
 (.exit 0))
 (.block 1
 (.seq
 (.ops [
 ⟨(some 10), none, .extract (.tmp 8) 1⟩,
 ⟨(some 11), none, .extract (.tmp 8) 2⟩,
 ⟨(some 3), none, .mov (.tmp 10)⟩,
 ⟨(some 4), none, .mov (.tmp 11)⟩])
 (.seq
 (.ops [
 ⟨(some 12), none, .mov (.tmp 4)⟩,
 ⟨(some 13), none, .bin .geq 21 (.tmp 12) (.const (.v (.int .i32 97)))⟩,
 ⟨(some 14), none, .mov (.tmp 13)⟩,
 ⟨(some 15), (some (14, true)), .mov (.tmp 4)⟩,
 ⟨(some 16), (some (14, true)), .bin .leq 21 (.tmp 15) (.const (.v (.int .i32 122)))⟩,
 ⟨(some 17), none, .pick (.tmp 14) (.tmp 16) (.const (.bool false))⟩,
 ⟨(some 5), none, .mov (.tmp 17)⟩])
 (.seq
 (.ops [
 ⟨(some 18), none, .mov (.tmp 5)⟩,
 ⟨(some 19), none, .un .not (.tmp 18)⟩,
 ⟨(some 20), none, .mov (.tmp 19)⟩,
 ⟨(some 21), (some (20, true)), .mov (.tmp 3)⟩,
 ⟨(some 22), (some (20, true)), .bin .eql 3 (.tmp 21) (.const (.int 0))⟩,
 ⟨(some 23), (some (20, true)), .mov (.tmp 22)⟩,
 ⟨(some 24), (some (23, false)), .mov (.tmp 4)⟩,
 ⟨(some 25), (some (23, false)), .bin .neq 21 (.tmp 24) (.const (.v (.int .i32 46)))⟩,
 ⟨(some 26), (some (23, false)), .mov (.tmp 25)⟩,
 ⟨(some 27), (some (26, true)), .mov (.tmp 4)⟩,
 ⟨(some 28), (some (26, true)), .bin .lss 21 (.tmp 27) (.const (.v (.int .i32 48)))⟩,
 ⟨(some 29), (some (26, true)), .mov (.tmp 28)⟩,
 ⟨(some 30), (some (29, false)), .mov (.tmp 4)⟩,
 ⟨(some 31), (some (29, false)), .bin .gtr 21 (.tmp 30) (.const (.v (.int .i32 57)))⟩,
 ⟨(some 32), (some (26, true)), .pick (.tmp 29) (.const (.bool true)) (.tmp 31)⟩,
 ⟨(some 33), (some (23, false)), .pick (.tmp 26) (.tmp 32) (.const (.bool false))⟩,
 ⟨(some 34), (some (20, true)), .pick (.tmp 23) (.const (.bool true)) (.tmp 33)⟩,
 ⟨(some 35), none, .pick (.tmp 20) (.tmp 34) (.const (.bool false))⟩])
 (.cond (.tmp 35)
 (.seq
 (.ops [
 ⟨(some 2), none, .mov (.const (.bool false))⟩])
 .ret)
 .skip))))))))))
 (.seq
 (.ops [
 ⟨(some 36), none, .mov (.tmp 0)⟩,
 ⟨(some 37), none, .len .str (.tmp 36)⟩,
 ⟨(some 38), none, .lit [(.int 0)] 1 [(0, 1, (.tmp 37))]⟩,
 ⟨(some 39), none, .call 69 [(.const (.int 1)), (.const (.int 16)), (.tmp 38)]⟩,
 ⟨(some 40), none, .un .not (.tmp 39)⟩,
 ⟨(some 2), none, .mov (.tmp 40)⟩])
 .ret)))

theorem c40 : compF Try.prog 40 = some (41, [.tmp 2], k40) := by
 unfold compF; rw [Try.func40]; kernel_rfl

noncomputable abbrev k41 : CC :=
 (.seq
 (.ops [
 ⟨(some 4), none, .mov (.const (.bool false))⟩])
 (.seq
 (.ops [
 ⟨(some 5), none, .mov (.tmp 0)⟩,
 ⟨(some 6), none, .mov (.tmp 1)⟩,
 ⟨(some 7), none, .call 70 [(.tmp 5), (.tmp 6)]⟩,
 ⟨(some 8), none, .bin .geq 3 (.tmp 7) (.const (.int 0))⟩,
 ⟨(some 4), none, .mov (.tmp 8)⟩])
 .ret))

theorem c41 : compF Try.prog 41 = some (9, [.tmp 4], k41) := by
 unfold compF; rw [Try.func41]; kernel_rfl

noncomputable abbrev k42 : CC :=
 (.seq
 (.ops [
 ⟨(some 4), none, .mov (.const (.int 0))⟩,
 ⟨(some 5), none, .mov (.const (.int 0))⟩])
 (.seq
 (.seq
 (.ops [
 ⟨(some 9), none, .mov (.tmp 0)⟩,
 ⟨(some 10), none, .len .sl (.tmp 9)⟩,
 ⟨(some 11), none, .mov (.const (.int 0))⟩])
 (.block 0
 (.loop
 (.seq
 (.ops [
 ⟨(some 12), none, .bin .lss 3 (.tmp 11) (.tmp 10)⟩])
 (.seq
 (.cond (.tmp 12)
 .skip
 (.exit 0))
 (.seq
 (.block 1
 (.seq
 (.ops [
 ⟨(some 13), none, .mov (.tmp 11)⟩,
 ⟨(some 14), none, .iaddr 4 (.tmp 9) (.tmp 11)⟩,
 ⟨(some 15), none, .load true 4 (.tmp 14)⟩,
 ⟨(some 7), none, .alloc [(.int 0), (.int 0), (.int 0), (.int 0)]⟩,
 ⟨(some 6), none, .mov (.tmp 13)⟩,
 ⟨none, none, .store 4 (.tmp 7) (.tmp 15)⟩])
 (.seq
 (.ops [
 ⟨(some 16), none, .mov (.tmp 1)⟩,
 ⟨(some 17), none, .mov (.tmp 6)⟩,
 ⟨(some 18), none, .load true 4 (.tmp 7)⟩,
 ⟨(some 19), none, .callv (.tmp 16) [(.tmp 17), (.tmp 18)]⟩,
 ⟨(some 8), none, .mov (.tmp 19)⟩])
 (.seq
 (.ops [
 ⟨(some 20), none, .mov (.tmp 8)⟩,
 ⟨(some 21), none, .bin .neq 35 (.tmp 20) (.const (.int 0))⟩])
 (.cond (.tmp 21)
 (.seq
 (.ops [
 ⟨(some 22), none, .mov (.tmp 6)⟩,
 ⟨(some 23), none, .mov (.tmp 8)⟩,
 ⟨(some 4), none, .mov (.tmp 22)⟩,
 ⟨(some 5), none, .mov (.tmp 23)⟩])
 .ret)
 .skip)))))
 (.ops [
 ⟨(some 24), none, .bin .add 3 (.tmp 11) (.const (.int 1))⟩,
 ⟨(some 11), none, .mov (.tmp 24)⟩])))))))
 (.seq
 (.ops [
 ⟨(some 4), none, .mov (.const (.int 0))⟩,
 ⟨(some 5), none, .mov (.const (.int 0))⟩])
 .ret)))

theorem c42 : compF Try.prog 42 = some (25, [.tmp 4, .tmp 5], k42) := by
 unfold compF; rw [Try.func42]; kernel_rfl

noncomputable abbrev k43 : CC :=
 (.seq
 (.ops [
 ⟨(some 7), none, .box (.tmp 1)⟩,
 ⟨(some 8), none, .mov (.const (.int 0))⟩])
 (.seq
 (.block 0
 (.seq
 (.ops [
 ⟨(some 10), none, .faddr 3 (.tmp 2)⟩,
 ⟨(some 11), none, .load false 1 (.tmp 10)⟩,
 ⟨(some 12), none, .faddr 0 (.tmp 7)⟩,
 ⟨(some 13), none, .load false 1 (.tmp 12)⟩,
 ⟨(some 14), none, .lit [(.int 0)] 1 [(0, 1, (.tmp 13))]⟩,
 ⟨(some 15), none, .call 37 [(.const (.int 1)), (.tmp 11), (.tmp 14)]⟩,
 ⟨(some 9), none, .mov (.tmp 15)⟩])
 (.cond (.tmp 9)
 (.seq
 (.ops [
 ⟨(some 8), none, .mov (.const (.int 7))⟩])
 .ret)
 (.seq
 (.draw [
 ⟨(some 17), none, .mov (.tmp 0)⟩,
 ⟨(some 18), none, .bin .gtr 3 (.tmp 17) (.const (.int 0))⟩,
 ⟨(some 19), none, .mov (.tmp 18)⟩,
 ⟨(some 20), (some (19, true)), .faddr 0 (.tmp 7)⟩,
 ⟨(some 21), (some (19, true)), .load false 1 (.tmp 20)⟩,
 ⟨(some 22), (some (19, true)), .faddr 4 (.tmp 2)⟩,
 ⟨(some 23), (some (19, true)), .load false 1 (.tmp 22)⟩,
 ⟨(some 24), (some (19, true)), .mov (.tmp 0)⟩,
 ⟨(some 25), (some (19, true)), .bin .sub 3 (.tmp 24) (.const (.int 1))⟩,
 ⟨(some 26), (some (19, true)), .iaddr 4 (.tmp 23) (.tmp 25)⟩,
 ⟨(some 27), (some (19, true)), .faddr 0 (.tmp 26)⟩,
 ⟨(some 28), (some (19, true)), .load false 1 (.tmp 27)⟩,
 ⟨(some 29), (some (19, true)), .bin .leq 3 (.tmp 21) (.tmp 28)⟩,
 ⟨(some 30), none, .pick (.tmp 19) (.tmp 29) (.const (.bool false))⟩,
 ⟨(some 16), none, .mov (.tmp 30)⟩] [[], [0], [1, 0], [2, 1, 0], [3, 2, 1, 0], [2, 1, 0], [5, 2, 1, 0], [2, 1, 0], [7, 2, 1, 0], [6, 8, 5, 7, 2, 1, 0], [9, 6, 8, 5, 7, 2, 1, 0], [10, 9, 6, 8, 5, 7, 2, 1, 0], [4, 11, 3, 10, 9, 6, 8, 5, 7, 2, 1, 0], [12, 4, 11, 3, 10, 9, 6, 8, 5, 7, 2, 1, 0], [13, 12, 4, 11, 3, 10, 9, 6, 8, 5, 7, 2, 1, 0]])
 (.cond (.tmp 16)
 (.seq
 (.ops [
 ⟨(some 8), none, .mov (.const (.int 2))⟩])
 .ret)
 (.seq
 (.ops [
 ⟨(some 32), none, .load false 1 (.tmp 3)⟩,
 ⟨(some 33), none, .bin .sub 3 (.tmp 32) (.const (.int 1))⟩,
 ⟨(some 34), none, .faddr 1 (.tmp 7)⟩,
 ⟨(some 35), none, .load false 1 (.tmp 34)⟩,
 ⟨(some 36), none, .lit [(.int 0)] 1 [(0, 1, (.tmp 35))]⟩,
 ⟨(some 37), none, .call 37 [(.const (.int 0)), (.tmp 33), (.tmp 36)]⟩,
 ⟨(some 38), none, .mov (.tmp 37)⟩,
 ⟨(some 39), (some (38, false)), .load false 1 (.tmp 4)⟩,
 ⟨(some 40), (some (38, false)), .bin .sub 3 (.tmp 39) (.const (.int 1))⟩,
 ⟨(some 41), (some (38, false)), .faddr 2 (.tmp 7)⟩,
 ⟨(some 42), (some (38, false)), .load false 1 (.tmp 41)⟩,
 ⟨(some 43), (some (38, false)), .lit [(.int 0)] 1 [(0, 1, (.tmp 42))]⟩,
 ⟨(some 44), (some (38, false)), .call 37 [(.const (.int 0)), (.tmp 40), (.tmp 43)]⟩,
 ⟨(some 45), none, .pick (.tmp 38) (.const (.bool true)) (.tmp 44)⟩,
 ⟨(some 46), none, .mov (.tmp 45)⟩,
 ⟨(some 47), (some (46, false)), .load false 1 (.tmp 5)⟩,
 ⟨(some 48), (some (46, false)), .bin .sub 3 (.tmp 47) (.const (.int 1))⟩,
 ⟨(some 49), (some (46, false)), .faddr 3 (.tmp 7)⟩,
 ⟨(some 50), (some (46, false)), .load false 1 (.tmp 49)⟩,
 ⟨(some 51), (some (46, false)), .lit [(.int 0)] 1 [(0, 1, (.tmp 50))]⟩,
 ⟨(some 52), (some (46, false)), .call 37 [(.const (.int 0)), (.tmp 48), (.tmp 51)]⟩,
 ⟨(some 53), none, .pick (.tmp 46) (.const (.bool true)) (.tmp 52)⟩,
 ⟨(some 31), none, .mov (.tmp 53)⟩])
 (.cond (.tmp 31)
 (.seq
 (.ops [
 ⟨(some 8), none, .mov (.const (.int 4))⟩])
 .ret)
 .skip)))))))
 (.seq
 (.ops [
 ⟨(some 8), none, .mov (.const (.int 0))⟩])
 .ret)))

theorem c43 : compF Try.prog 43 = some (54, [.tmp 8], k43) := by
 unfold compF; rw [Try.func43]; kernel_rfl

noncomputable abbrev k44 : CC :=
 (.seq
 (.ops [
 ⟨(some 4), none, .mov (.const (.int 0))⟩,
 ⟨(some 5), none, .mov (.const (.int 0))⟩])
 (.seq
 (.seq
 (.ops [
 ⟨(some 9), none, .mov (.tmp 0)⟩,
 ⟨(some 10), none, .len .sl (.tmp 9)⟩,
 ⟨(some 11), none, .mov (.const (.int 0))⟩])
 (.block 0
 (.loop
 (.seq
 (.ops [
 ⟨(some 12), none, .bin .lss 3 (.tmp 11) (.tmp 10)⟩])
 (.seq
 (.cond (.tmp 12)
 .skip
 (.exit 0))
 (.seq
 (.block 1
 (.seq
 (.ops [
 ⟨(some 13), none, .mov (.tmp 11)⟩,
 ⟨(some 14), none, .iaddr 2 (.tmp 9) (.tmp 11)⟩,
 ⟨(some 15), none, .load true 2 (.tmp 14)⟩,
 ⟨(some 7), none, .alloc [(.int 0), (.int 0)]⟩,
 ⟨(some 6), none, .mov (.tmp 13)⟩,
 ⟨none, none, .store 2 (.tmp 7) (.tmp 15)⟩])
 (.seq
 (.ops [
 ⟨(some 16), none, .mov (.tmp 1)⟩,
 ⟨(some 17), none, .mov (.tmp 6)⟩,
 ⟨(some 18), none, .load true 2 (.tmp 7)⟩,
 ⟨(some 19), none, .callv (.tmp 16) [(.tmp 17), (.tmp 18)]⟩,
 ⟨(some 8), none, .mov (.tmp 19)⟩])
 (.seq
 (.ops [
 ⟨(some 20), none, .mov (.tmp 8)⟩,
 ⟨(some 21), none, .bin .neq 35 (.tmp 20) (.const (.int 0))⟩])
 (.cond (.tmp 21)
 (.seq
 (.ops [
 ⟨(some 22), none, .mov (.tmp 6)⟩,
 ⟨(some 23), none, .mov (.tmp 8)⟩,
 ⟨(some 4), none, .mov (.tmp 22)⟩,
 ⟨(some 5), none, .mov (.tmp 23)⟩])
 .ret)
 .skip)))))
 (.ops [
 ⟨(some 24), none, .bin .add 3 (.tmp 11) (.const (.int 1))⟩,
 ⟨(some 11), none, .mov (.tmp 24)⟩])))))))
 (.seq
 (.ops [
 ⟨(some 4), none, .mov (.const (.int 0))⟩,
 ⟨(some 5), none, .mov (.const (.int 0))⟩])
 .ret)))

theorem c44 : compF Try.prog 44 = some (25, [.tmp 4, .tmp 5], k44) := by
 unfold compF; rw [Try.func44]; kernel_rfl

noncomputable abbrev k45 : CC :=
 (.seq
 (.ops [
 ⟨(some 5), none, .box (.tmp 1)⟩,
 ⟨(some 6), none, .mov (.const (.int 0))⟩])
 (.seq
 (.block 0
 (.seq
 (.ops [
 ⟨(some 8), none, .load false 1 (.tmp 2)⟩,
 ⟨(some 9), none, .bin .sub 3 (.tmp 8) (.const (.int 1))⟩,
 ⟨(some 10), none, .faddr 0 (.tmp 5)⟩,
 ⟨(some 11), none, .load false 1 (.tmp 10)⟩,
 ⟨(some 12), none, .lit [(.int 0)] 1 [(0, 1, (.tmp 11))]⟩,
 ⟨(some 13), none, .call 37 [(.const (.int 0)), (.tmp 9), (.tmp 12)]⟩,
 ⟨(some 14), none, .mov (.tmp 13)⟩,
 ⟨(some 15), (some (14, false)), .faddr 1 (.tmp 3)⟩,
 ⟨(some 16), (some (14, false)), .load false 1 (.tmp 15)⟩,
 ⟨(some 17), (some (14, false)), .bin .sub 3 (.tmp 16) (.const (.int 1))⟩,
 ⟨(some 18), (some (14, false)), .faddr 1 (.tmp 5)⟩,
 ⟨(some 19), (some (14, false)), .load false 1 (.tmp 18)⟩,
 ⟨(some 20), (some (14, false)), .lit [(.int 0)] 1 [(0, 1, (.tmp 19))]⟩,
 ⟨(some 21), (some (14, false)), .call 37 [(.const (.int 0)), (.tmp 17), (.tmp 20)]⟩,
 ⟨(some 22), none, .pick (.tmp 14) (.const (.bool true)) (.tmp 21)⟩,
 ⟨(some 7), none, .mov (.tmp 22)⟩])
 (.cond (.tmp 7)
 (.seq
 (.ops [
 ⟨(some 6), none, .mov (.const (.int 4))⟩])
 .ret)
 (.seq
 (.ops [
 ⟨(some 24), none, .faddr 0 (.tmp 5)⟩,
 ⟨(some 25), none, .load false 1 (.tmp 24)⟩,
 ⟨(some 26), none, .bin .eql 3 (.tmp 25) (.const (.int 0))⟩,
 ⟨(some 23), none, .mov (.tmp 26)⟩])
 (.cond (.tmp 23)
 (.seq
 (.ops [
 ⟨(some 6), none, .mov (.const (.int 2))⟩])
 .ret)
 .skip)))))
 (.seq
 (.ops [
 ⟨(some 6), none, .mov (.const (.int 0))⟩])
 .ret)))

theorem c45 : compF Try.prog 45 = some (27, [.tmp 6], k45) := by
 unfold compF; rw [Try.func45]; kernel_rfl

noncomputable abbrev k46 : CC :=
 (.seq
 (.ops [
 ⟨(some 2), none, .box (.tmp 0)⟩,
 ⟨(some 4), none, .mov (.const (.v (.pointer none)))⟩,
 ⟨(some 5), none, .mov (.const (.int 0))⟩])
 (.seq
 (.seq
 (.ops [
 ⟨(some 11), none, .load true 6 (.tmp 2)⟩,
 ⟨(some 12), none, .call 7 [(.tmp 11)]⟩,
 ⟨(some 10), none, .mov (.tmp 12)⟩,
 ⟨(some 13), none, .extract (.tmp 10) 0⟩,
 ⟨(some 14), none, .extract (.tmp 10) 1⟩,
 ⟨(some 15), none, .extract (.tmp 10) 2⟩,
 ⟨(some 6), none, .mov (.tmp 13)⟩,
 ⟨(some 7), none, .mov (.tmp 14)⟩,
 ⟨(some 8), none, .mov (.tmp 15)⟩])
 (.seq
 (.ops [
 ⟨(some 16), none, .mov (.tmp 8)⟩,
 ⟨(some 17), none, .bin .neq 35 (.tmp 16) (.const (.int 0))⟩])
 (.cond (.tmp 17)
 (.seq
 (.ops [
 ⟨(some 18), none, .mov (.tmp 8)⟩,
 ⟨(some 4), none, .mov (.const (.v (.pointer none)))⟩,
 ⟨(some 5), none, .mov (.tmp 18)⟩])
 .ret)
 .skip)))
 (.seq
 (.seq
 (.ops [
 ⟨(some 9), none, .mov (.const (.int 0))⟩])
 (.block 0
 (.loop
 (.seq
 (.seq
 (.ops [
 ⟨(some 19), none, .mov (.tmp 9)⟩,
 ⟨(some 20), none, .bin .add 3 (.tmp 19) (.const (.int 1))⟩,
 ⟨(some 21), none, .mov (.tmp 1)⟩,
 ⟨(some 22), none, .len .sl (.tmp 21)⟩,
 ⟨(some 23), none, .bin .lss 3 (.tmp 20) (.tmp 22)⟩])
 (.cond (.tmp 23)
 .skip
 (.exit 0)))
 (.seq
 (.block 1
 (.seq
 (.draw [
 ⟨(some 26), none, .mov (.tmp 1)⟩,
 ⟨(some 27), none, .mov (.tmp 9)⟩,
 ⟨(some 28), none, .bin .add 3 (.tmp 27) (.const (.int 1))⟩,
 ⟨(some 29), none, .iaddr 1 (.tmp 26) (.tmp 28)⟩,
 ⟨(some 30), none, .load false 1 (.tmp 29)⟩,
 ⟨(some 31), none, .bin .sub 3 (.tmp 30) (.const (.int 1))⟩,
 ⟨(some 32), none, .mov (.tmp 1)⟩,
 ⟨(some 33), none, .mov (.tmp 9)⟩,
 ⟨(some 34), none, .iaddr 1 (.tmp 32) (.tmp 33)⟩,
 ⟨(some 35), none, .load false 1 (.tmp 34)⟩,
 ⟨(some 36), none, .lit [(.int 0)] 1 [(0, 1, (.tmp 35))]⟩,
 ⟨(some 37), none, .call 37 [(.const (.int 0)), (.tmp 31), (.tmp 36)]⟩] [[], [], [1], [0, 2, 1], [3, 0, 2, 1], [4, 3, 0, 2, 1], [], [], [6, 7], [8, 6, 7], [9, 8, 6, 7], [5, 10, 4, 3, 0, 2, 1, 9, 8, 6, 7]])
 (.cond (.tmp 37)
 (.seq
 (.ops [
 ⟨(some 4), none, .mov (.const (.v (.pointer none)))⟩,
 ⟨(some 5), none, .mov (.const (.int 4))⟩])
 .ret)
 .skip)))
 (.ops [
 ⟨(some 24), none, .mov (.tmp 9)⟩,
 ⟨(some 25), none, .bin .add 3 (.tmp 24) (.const (.int 2))⟩,
 ⟨(some 9), none, .mov (.tmp 25)⟩]))))))
 (.seq
 (.ops [
 ⟨(some 38), none, .load true 6 (.tmp 2)⟩,
 ⟨(some 39), none, .call 71 [(.tmp 38)]⟩,
 ⟨(some 4), none, .mov (.tmp 39)⟩,
 ⟨(some 5), none, .mov (.const (.int 0))⟩])
 .ret))))

theorem c46 : compF Try.prog 46 = some (40, [.tmp 4, .tmp 5], k46) := by
 unfold compF; rw [Try.func46]; kernel_rfl

noncomputable abbrev k47 : CC :=
 (.seq
 (.ops [
 ⟨(some 7), none, .mov (.tmp 0)⟩,
 ⟨(some 8), none, .mov (.tmp 0)⟩,
 ⟨(some 9), none, .nilchk (.tmp 8)⟩,
 ⟨(some 10), none, .faddr 0 (.tmp 9)⟩,
 ⟨(some 11), none, .load false 1 (.tmp 10)⟩,
 ⟨(some 12), none, .mov (.tmp 1)⟩,
 ⟨(some 13), none, .len .sl (.tmp 12)⟩,
 ⟨(some 14), none, .lit [(.int 0)] 1 [(0, 1, (.tmp 13))]⟩,
 ⟨(some 15), none, .append 1 8 [(.int 0)] (.tmp 11) (.tmp 14)⟩,
 ⟨(some 16), none, .nilchk (.tmp 7)⟩,
 ⟨(some 17), none, .faddr 0 (.tmp 16)⟩,
 ⟨none, none, .store 1 (.tmp 17) (.tmp 15)⟩])
 (.seq
 (.ops [
 ⟨(some 6), none, .mov (.const (.int 0))⟩])
 (.block 0
 (.loop
 (.seq
 (.seq
 (.ops [
 ⟨(some 18), none, .mov (.tmp 6)⟩,
 ⟨(some 19), none, .mov (.tmp 1)⟩,
 ⟨(some 20), none, .len .sl (.tmp 19)⟩,
 ⟨(some 21), none, .bin .lss 3 (.tmp 18) (.tmp 20)⟩])
 (.cond (.tmp 21)
 .skip
 (.exit 0)))
 (.seq
 (.block 1
 (.ops [
 ⟨(some 24), none, .mov (.tmp 2)⟩,
 ⟨(some 25), none, .mov (.tmp 0)⟩,
 ⟨(some 26), none, .mov (.tmp 1)⟩,
 ⟨(some 27), none, .mov (.tmp 6)⟩,
 ⟨(some 28), none, .iaddr 1 (.tmp 26) (.tmp 27)⟩,
 ⟨(some 29), none, .load false 1 (.tmp 28)⟩,
 ⟨(some 30), none, .callv (.tmp 24) [(.tmp 25), (.tmp 29)]⟩]))
 (.ops [
 ⟨(some 22), none, .mov (.tmp 6)⟩,
 ⟨(some 23), none, .bin .add 3 (.tmp 22) (.const (.int 1))⟩,
 ⟨(some 6), none, .mov (.tmp 23)⟩])))))))

theorem c47 : compF Try.prog 47 = some (31, [], k47) := by
 unfold compF; rw [Try.func47]; kernel_rfl

noncomputable abbrev k48 : CC :=
 (.seq
 (.ops [
 ⟨(some 4), none, .mov (.const (.int 0))⟩])
 (.block 0
 (.loop
 (.seq
 (.seq
 (.ops [
 ⟨(some 5), none, .mov (.tmp 4)⟩,
 ⟨(some 6), none, .mov (.tmp 0)⟩,
 ⟨(some 7), none, .len .sl (.tmp 6)⟩,
 ⟨(some 8), none, .bin .lss 3 (.tmp 5) (.tmp 7)⟩])
 (.cond (.tmp 8)
 .skip
 (.exit 0)))
 (.seq
 (.block 1
 (.ops [
 ⟨(some 11), none, .mov (.tmp 1)⟩,
 ⟨(some 12), none, .mov (.tmp 0)⟩,
 ⟨(some 13), none, .mov (.tmp 4)⟩,
 ⟨(some 14), none, .iaddr 1 (.tmp 12) (.tmp 13)⟩,
 ⟨(some 15), none, .callv (.tmp 11) [(.tmp 14)]⟩]))
 (.ops [
 ⟨(some 9), none, .mov (.tmp 4)⟩,
 ⟨(some 10), none, .bin .add 3 (.tmp 9) (.const (.int 1))⟩,
 ⟨(some 4), none, .mov (.tmp 10)⟩]))))))

theorem c48 : compF Try.prog 48 = some (16, [], k48) := by
 unfold compF; rw [Try.func48]; kernel_rfl

noncomputable abbrev k49 : CC :=
 (.ops [
 ⟨(some 2), none, .mov (.tmp 0)⟩,
 ⟨(some 3), none, .nilchk (.tmp 2)⟩,
 ⟨none, none, .store 1 (.tmp 3) (.const (.int (-77)))⟩])

theorem c49 : compF Try.prog 49 = some (4, [], k49) := by
 unfold compF; rw [Try.func49]; kernel_rfl

noncomputable abbrev k50 : CC :=
 (.seq
 (.ops [
 ⟨(some 4), none, .mov (.const (.int 0))⟩,
 ⟨(some 5), none, .mov (.const (.int 0))⟩])
 (.seq
 (.seq
 (.ops [
 ⟨(some 8), none, .mov (.tmp 1)⟩,
 ⟨(some 9), none, .bin .sub 3 (.tmp 8) (.const (.int 1))⟩,
 ⟨(some 10), none, .mov (.tmp 0)⟩,
 ⟨(some 11), none, .call 37 [(.const (.int 0)), (.tmp 9), (.tmp 10)]⟩])
 (.cond (.tmp 11)
 (.seq
 (.ops [
 ⟨(some 4), none, .mov (.const (.int 0))⟩,
 ⟨(some 5), none, .mov (.const (.int 4))⟩])
 .ret)
 .skip))
 (.seq
 (.seq
 (.ops [
 ⟨(some 12), none, .mov (.tmp 0)⟩,
 ⟨(some 13), none, .len .sl (.tmp 12)⟩,
 ⟨(some 14), none, .mov (.const (.int 0))⟩])
 (.block 0
 (.loop
 (.seq
 (.ops [
 ⟨(some 15), none, .bin .lss 3 (.tmp 14) (.tmp 13)⟩])
 (.seq
 (.cond (.tmp 15)
 .skip
 (.exit 0))
 (.seq
 (.block 1
 (.seq
 (.ops [
 ⟨(some 16), none, .mov (.tmp 14)⟩,
 ⟨(some 17), none, .iaddr 1 (.tmp 12) (.tmp 14)⟩,
 ⟨(some 18), none, .load false 1 (.tmp 17)⟩,
 ⟨(some 6), none, .mov (.tmp 16)⟩,
 ⟨(some 7), none, .mov (.tmp 18)⟩])
 (.seq
 (.seq
 (.ops [
 ⟨(some 19), none, .mov (.tmp 6)⟩,
 ⟨(some 20), none, .bin .gtr 3 (.tmp 19) (.const (.int 0))⟩,
 ⟨(some 21), none, .mov (.tmp 20)⟩,
 ⟨(some 22), (some (21, true)), .mov (.tmp 7)⟩,
 ⟨(some 23), (some (21, true)), .mov (.tmp 0)⟩,
 ⟨(some 24), (some (21, true)), .mov (.tmp 6)⟩,
 ⟨(some 25), (some (21, true)), .bin .sub 3 (.tmp 24) (.const (.int 1))⟩,
 ⟨(some 26), (some (21, true)), .iaddr 1 (.tmp 23) (.tmp 25)⟩,
 ⟨(some 27), (some (21, true)), .load false 1 (.tmp 26)⟩,
 ⟨(some 28), (some (21, true)), .bin .leq 3 (.tmp 22) (.tmp 27)⟩,
 ⟨(some 29), none, .pick (.tmp 21) (.tmp 28) (.const (.bool false))⟩])
 (.cond (.tmp 29)
 (.seq
 (.ops [
 ⟨(some 4), none, .mov (.const (.int 0))⟩,
 ⟨(some 5), none, .mov (.const (.int 2))⟩])
 .ret)
 .skip))
 (.ops [
 ⟨(some 30), none, .mov (.tmp 4)⟩,
 ⟨(some 31), none, .mov (.tmp 7)⟩,
 ⟨(some 32), none, .bin .shl 3 (.const (.int 1)) (.tmp 31)⟩,
 ⟨(some 33), none, .bin .or 3 (.tmp 30) (.tmp 32)⟩,
 ⟨(some 4), none, .mov (.tmp 33)⟩]))))
 (.ops [
 ⟨(some 34), none, .bin .add 3 (.tmp 14) (.const (.int 1))⟩,
 ⟨(some 14), none, .mov (.tmp 34)⟩])))))))
 (.seq
 (.ops [
 ⟨(some 35), none, .mov (.tmp 4)⟩,
 ⟨(some 4), none, .mov (.tmp 35)⟩,
 ⟨(some 5), none, .mov (.const (.int 0))⟩])
 .ret))))

theorem c50 : compF Try.prog 50 = some (36, [.tmp 4, .tmp 5], k50) := by
 unfold compF; rw [Try.func50]; kernel_rfl

noncomputable abbrev k51 : CC :=
 (.seq
 (.ops [
 ⟨(some 2), none, .mov (.const (.list .exact [] 0))⟩])
 (.seq
 (.seq
 (.ops [
 ⟨(some 3), none, .mov (.const (.int 0))⟩])
 (.block 0
 (.loop
 (.seq
 (.seq
 (.ops [
 ⟨(some 4), none, .mov (.tmp 0)⟩,
 ⟨(some 5), none, .mov (.tmp 3)⟩,
 ⟨(some 6), none, .bin .shr 3 (.tmp 4) (.tmp 5)⟩,
 ⟨(some 7), none, .bin .gtr 3 (.tmp 6) (.const (.int 0))⟩])
 (.cond (.tmp 7)
 .skip
 (.exit 0)))
 (.seq
 (.block 1
 (.seq
 (.ops [
 ⟨(some 10), none, .mov (.tmp 0)⟩,
 ⟨(some 11), none, .mov (.tmp 3)⟩,
 ⟨(some 12), none, .bin .shr 3 (.tmp 10) (.tmp 11)⟩,
 ⟨(some 13), none, .bin .and 3 (.tmp 12) (.const (.int 1))⟩,
 ⟨(some 14), none, .bin .eql 3 (.tmp 13) (.const (.int 1))⟩])
 (.cond (.tmp 14)
 (.ops [
 ⟨(some 15), none, .mov (.tmp 2)⟩,
 ⟨(some 16), none, .mov (.tmp 3)⟩,
 ⟨(some 17), none, .lit [(.int 0)] 1 [(0, 1, (.tmp 16))]⟩,
 ⟨(some 18), none, .append 1 8 [(.int 0)] (.tmp 15) (.tmp 17)⟩,
 ⟨(some 2), none, .mov (.tmp 18)⟩])
 .skip)))
 (.ops [
 ⟨(some 8), none, .mov (.tmp 3)⟩,
 ⟨(some 9), none, .bin .add 3 (.tmp 8) (.const (.int 1))⟩,
 ⟨(some 3), none, .mov (.tmp 9)⟩]))))))
 (.seq
 (.ops [
 ⟨(some 19), none, .mov (.tmp 2)⟩,
 ⟨(some 2), none, .mov (.tmp 19)⟩])
 .ret)))

theorem c51 : compF Try.prog 51 = some (20, [.tmp 2], k51) := by
 unfold compF; rw [Try.func51]; kernel_rfl

noncomputable abbrev k52 : CC :=
 (.seq
 (.ops [
 ⟨(some 6), none, .mov (.const (.int 0))⟩])
 (.seq
 (.ops [
 ⟨(some 9), none, .mov (.tmp 0)⟩,
 ⟨(some 10), none, .mkfn 72 [(.tmp 9)] []⟩,
 ⟨(some 7), none, .mov (.tmp 10)⟩])
 (.seq
 (.seq
 (.ops [
 ⟨(some 11), none, .mov (.tmp 0)⟩,
 ⟨(some 12), none, .nilchk (.tmp 11)⟩,
 ⟨(some 13), none, .faddr 0 (.tmp 12)⟩,
 ⟨(some 14), none, .faddr 4 (.tmp 13)⟩,
 ⟨(some 15), none, .load false 1 (.tmp 14)⟩,
 ⟨(some 16), none, .len .sl (.tmp 15)⟩,
 ⟨(some 17), none, .mov (.const (.int 0))⟩])
 (.block 0
 (.loop
 (.seq
 (.ops [
 ⟨(some 18), none, .bin .lss 3 (.tmp 17) (.tmp 16)⟩])
 (.seq
 (.cond (.tmp 18)
 .skip
 (.exit 0))
 (.seq
 (.block 1
 (.seq
 (.ops [
 ⟨(some 19), none, .mov (.tmp 17)⟩,
 ⟨(some 8), none, .mov (.tmp 19)⟩])
 (.seq
 (.ops [
 ⟨(some 20), none, .mov (.tmp 0)⟩,
 ⟨(some 21), none, .mov (.tmp 1)⟩,
 ⟨(some 22), none, .nilchk (.tmp 20)⟩,
 ⟨(some 23), none, .faddr 6 (.tmp 22)⟩,
 ⟨(some 24), none, .iaddrarr 3 1 (.tmp 23) (.tmp 21)⟩,
 ⟨(some 25), none, .load false 1 (.tmp 24)⟩,
 ⟨(some 26), none, .mov (.tmp 8)⟩,
 ⟨(some 27), none, .bin .shr 3 (.tmp 25) (.tmp 26)⟩,
 ⟨(some 28), none, .bin .and 3 (.tmp 27) (.const (.int 1))⟩,
 ⟨(some 29), none, .bin .eql 3 (.tmp 28) (.const (.int 1))⟩,
 ⟨(some 30), none, .mov (.tmp 29)⟩,
 ⟨(some 31), (some (30, true)), .mov (.tmp 7)⟩,
 ⟨(some 32), (some (30, true)), .mov (.tmp 8)⟩,
 ⟨(some 33), (some (30, true)), .mov (.tmp 2)⟩,
 ⟨(some 34), (some (30, true)), .callv (.tmp 31) [(.tmp 32), (.tmp 33)]⟩,
 ⟨(some 35), none, .pick (.tmp 30) (.tmp 34) (.const (.bool false))⟩])
 (.cond (.tmp 35)
 (.ops [
 ⟨(some 36), none, .mov (.tmp 6)⟩,
 ⟨(some 37), none, .mov (.tmp 8)⟩,
 ⟨(some 38), none, .bin .shl 3 (.const (.int 1)) (.tmp 37)⟩,
 ⟨(some 39), none, .bin .or 3 (.tmp 36) (.tmp 38)⟩,
 ⟨(some 6), none, .mov (.tmp 39)⟩])
 .skip))))
 (.ops [
 ⟨(some 40), none, .bin .add 3 (.tmp 17) (.const (.int 1))⟩,
 ⟨(some 17), none, .mov (.tmp 40)⟩])))))))
 (.seq
 (.ops [
 ⟨(some 41), none, .mov (.tmp 6)⟩,
 ⟨(some 6), none, .mov (.tmp 41)⟩])
 .ret))))

theorem c52 : compF Try.prog 52 = some (42, [.tmp 6], k52) := by
 unfold compF; rw [Try.func52]; kernel_rfl

noncomputable abbrev k53 : CC :=
 (.seq
 (.ops [
 ⟨(some 4), none, .mov (.const (.int 0))⟩])
 (.seq
 (.seq
 (.ops [
 ⟨(some 6), none, .mov (.tmp 0)⟩,
 ⟨(some 7), none, .len .sl (.tmp 6)⟩,
 ⟨(some 8), none, .mov (.const (.int 0))⟩])
 (.block 0
 (.loop
 (.seq
 (.ops [
 ⟨(some 9), none, .bin .lss 3 (.tmp 8) (.tmp 7)⟩])
 (.seq
 (.cond (.tmp 9)
 .skip
 (.exit 0))
 (.seq
 (.block 1
 (.seq
 (.ops [
 ⟨(some 10), none, .mov (.tmp 8)⟩,
 ⟨(some 5), none, .mov (.tmp 10)⟩])
 (.seq
 (.ops [
 ⟨(some 11), none, .mov (.tmp 1)⟩,
 ⟨(some 12), none, .mov (.tmp 0)⟩,
 ⟨(some 13), none, .mov (.tmp 5)⟩,
 ⟨(some 14), none, .iaddr 4 (.tmp 12) (.tmp 13)⟩,
 ⟨(some 15), none, .load true 4 (.tmp 14)⟩,
 ⟨(some 16), none, .callv (.tmp 11) [(.tmp 15)]⟩])
 (.cond (.tmp 16)
 (.seq
 (.ops [
 ⟨(some 17), none, .mov (.tmp 5)⟩,
 ⟨(some 4), none, .mov (.tmp 17)⟩])
 .ret)
 .skip))))
 (.ops [
 ⟨(some 18), none, .bin .add 3 (.tmp 8) (.const (.int 1))⟩,
 ⟨(some 8), none, .mov (.tmp 18)⟩])))))))
 (.seq
 (.ops [
 ⟨(some 4), none, .mov (.const (.int (-1)))⟩])
 .ret)))

theorem c53 : compF Try.prog 53 = some (19, [.tmp 4], k53) := by
 unfold compF; rw [Try.func53]; kernel_rfl

noncomputable abbrev k54 : CC :=
 (.seq
 (.ops [
 ⟨(some 2), none, .box (.tmp 0)⟩,
 ⟨(some 3), none, .mov (.const (.bool false))⟩])
 (.seq
 (.ops [
 ⟨(some 4), none, .load true 4 (.tmp 2)⟩,
 ⟨(some 5), none, .load false 1 (.tmp 1)⟩,
 ⟨(some 6), none, .faddr 1 (.tmp 2)⟩,
 ⟨(some 7), none, .load false 1 (.tmp 6)⟩,
 ⟨(some 8), none, .faddr 2 (.tmp 2)⟩,
 ⟨(some 9), none, .load false 1 (.tmp 8)⟩,
 ⟨(some 10), none, .faddr 3 (.tmp 2)⟩,
 ⟨(some 11), none, .load false 1 (.tmp 10)⟩,
 ⟨(some 12), none, .build [(.int 0), (.int 0), (.int 0), (.int 0)] [(0, 1, (.tmp 5)), (1, 1, (.tmp 7)), (2, 1, (.tmp 9)), (3, 1, (.tmp 11))]⟩,
 ⟨(some 13), none, .bin .eql 63 (.tmp 4) (.tmp 12)⟩,
 ⟨(some 3), none, .mov (.tmp 13)⟩])
 .ret))

theorem c54 : compF Try.prog 54 = some (14, [.tmp 3], k54) := by
 unfold compF; rw [Try.func54]; kernel_rfl

noncomputable abbrev k55 : CC :=
 (.seq
 (.ops [
 ⟨(some 3), none, .box (.tmp 1)⟩,
 ⟨(some 4), none, .alloc [(.list .exact [] 0)]⟩,
 ⟨(some 5), none, .alloc [(.bool false)]⟩])
 (.seq
 (.seq
 (.ops [
 ⟨(some 7), none, .mov (.tmp 0)⟩,
 ⟨(some 8), none, .call 73 [(.tmp 7)]⟩])
 (.block 0
 (.rangef (.tmp 8) [9] (rfA Try.f55 0) (rfB Try.f55 0))))
 (.seq
 (.ops [
 ⟨none, none, .store 1 (.tmp 4) (.const (.list .exact [] 0))⟩,
 ⟨none, none, .store 1 (.tmp 5) (.const (.bool false))⟩])
 .ret)))

theorem c55 : compF Try.prog 55 = some (16, [.cell 4 27, .cell 5 4], k55) := by
 unfold compF; rw [Try.func55]; kernel_rfl

theorem a55_0 : comp Try.prog 16 (rfA Try.f55 0) = (some
 (.ops [
 ⟨(some 6), none, .mov (.tmp 9)⟩])) := by
 kernel_rfl

theorem b55_0 : comp Try.prog 16 (rfB Try.f55 0) = (some
 (.block 1
 (.seq
 (.ops [
 ⟨(some 10), none, .faddr 0 (.tmp 3)⟩,
 ⟨(some 11), none, .load false 1 (.tmp 10)⟩,
 ⟨(some 12), none, .mov (.tmp 6)⟩,
 ⟨(some 13), none, .callv (.tmp 11) [(.tmp 12)]⟩])
 (.cond (.tmp 13)
 (.seq
 (.ops [
 ⟨(some 14), none, .mov (.tmp 6)⟩,
 ⟨(some 15), none, .call 51 [(.tmp 14)]⟩,
 ⟨none, none, .store 1 (.tmp 4) (.tmp 15)⟩,
 ⟨none, none, .store 1 (.tmp 5) (.const (.bool true))⟩])
 .ret)
 .skip)))) := by
 kernel_rfl

noncomputable abbrev k56 : CC :=
 (.seq
 (.ops [
 ⟨(some 2), none, .mov (.const (.list .exact [] 0))⟩])
 (.seq
 (.seq
 (.ops [
 ⟨(some 4), none, .mov (.tmp 0)⟩,
 ⟨(some 5), none, .mov (.const (.int 0))⟩])
 (.block 0
 (.loop
 (.seq
 (.ops [
 ⟨(some 6), none, .bin .lss 3 (.tmp 5) (.tmp 4)⟩])
 (.seq
 (.cond (.tmp 6)
 .skip
 (.exit 0))
 (.seq
 (.block 1
 (.seq
 (.ops [
 ⟨(some 7), none, .mov (.tmp 5)⟩,
 ⟨(some 3), none, .mov (.tmp 7)⟩])
 (.ops [
 ⟨(some 8), none, .mov (.tmp 2)⟩,
 ⟨(some 9), none, .mov (.tmp 3)⟩,
 ⟨(some 10), none, .lit [(.int 0)] 1 [(0, 1, (.tmp 9))]⟩,
 ⟨(some 11), none, .append 1 8 [(.int 0)] (.tmp 8) (.tmp 10)⟩,
 ⟨(some 2), none, .mov (.tmp 11)⟩])))
 (.ops [
 ⟨(some 12), none, .bin .add 3 (.tmp 5) (.const (.int 1))⟩,
 ⟨(some 5), none, .mov (.tmp 12)⟩])))))))
 (.seq
 (.ops [
 ⟨(some 13), none, .mov (.tmp 2)⟩,
 ⟨(some 2), none, .mov (.tmp 13)⟩])
 .ret)))

theorem c56 : compF Try.prog 56 = some (14, [.tmp 2], k56) := by
 unfold compF; rw [Try.func56]; kernel_rfl

noncomputable abbrev k57 : CC :=
 (.seq
 (.ops [
 ⟨(some 5), none, .mov (.const (.bool false))⟩])
 (.seq
 (.draw [
 ⟨(some 6), none, .load false 1 (.tmp 1)⟩,
 ⟨(some 7), none, .load false 1 (.tmp 2)⟩,
 ⟨(some 8), none, .mov (.tmp 0)⟩,
 ⟨(some 9), none, .call 52 [(.tmp 6), (.tmp 7), (.tmp 8)]⟩,
 ⟨(some 10), none, .load false 1 (.tmp 3)⟩,
 ⟨(some 11), none, .bin .shl 3 (.const (.int 1)) (.tmp 10)⟩,
 ⟨(some 12), none, .bin .eql 3 (.tmp 9) (.tmp 11)⟩,
 ⟨(some 5), none, .mov (.tmp 12)⟩] [[], [], [], [0, 1, 2], [], [4], [3, 5, 0, 1, 2, 4], [6, 3, 5, 0, 1, 2, 4]])
 .ret))

theorem c57 : compF Try.prog 57 = some (13, [.tmp 5], k57) := by
 unfold compF; rw [Try.func57]; kernel_rfl

noncomputable abbrev k58 : CC :=
 (.seq
 (.ops [
 ⟨(some 4), none, .mov (.const (.int 0))⟩])
 (.seq
 (.seq
 (.ops [
 ⟨(some 14), none, .mov (.tmp 0)⟩,
 ⟨(some 15), none, .nilchk (.tmp 14)⟩,
 ⟨(some 16), none, .faddr 9 (.tmp 15)⟩,
 ⟨(some 17), none, .load false 1 (.tmp 16)⟩,
 ⟨(some 18), none, .mov (.tmp 1)⟩,
 ⟨(some 19), none, .lookup 3 (.int 0) true (.tmp 17) (.tmp 18)⟩,
 ⟨(some 13), none, .mov (.tmp 19)⟩,
 ⟨(some 20), none, .extract (.tmp 13) 0⟩,
 ⟨(some 21), none, .extract (.tmp 13) 1⟩,
 ⟨(some 5), none, .mov (.tmp 20)⟩,
 ⟨(some 6), none, .mov (.tmp 21)⟩])
 (.seq
 (.ops [
 ⟨(some 22), none, .mov (.tmp 6)⟩])
 (.cond (.tmp 22)
 (.seq
 (.ops [
 ⟨(some 23), none, .mov (.tmp 5)⟩,
 ⟨(some 4), none, .mov (.tmp 23)⟩])
 .ret)
 .skip)))
 (.seq
 (.ops [
 ⟨(some 7), none, .mov (.const (.int 0))⟩])
 (.seq
 (.seq
 (.ops [
 ⟨(some 24), none, .mov (.tmp 0)⟩,
 ⟨(some 25), none, .nilchk (.tmp 24)⟩,
 ⟨(some 26), none, .faddr 0 (.tmp 25)⟩,
 ⟨(some 27), none, .faddr 4 (.tmp 26)⟩,
 ⟨(some 28), none, .load false 1 (.tmp 27)⟩,
 ⟨(some 29), none, .len .sl (.tmp 28)⟩,
 ⟨(some 30), none, .mov (.const (.int 0))⟩])
 (.block 0
 (.loop
 (.seq
 (.ops [
 ⟨(some 31), none, .bin .lss 3 (.tmp 30) (.tmp 29)⟩])
 (.seq
 (.cond (.tmp 31)
 .skip
 (.exit 0))
 (.seq
 (.block 1
 (.seq
 (.ops [
 ⟨(some 32), none, .mov (.tmp 30)⟩,
 ⟨(some 33), none, .iaddr 4 (.tmp 28) (.tmp 30)⟩,
 ⟨(some 34), none, .load true 4 (.tmp 33)⟩,
 ⟨(some 9), none, .alloc [(.int 0), (.int 0), (.int 0), (.int 0)]⟩,
 ⟨(some 8), none, .mov (.tmp 32)⟩,
 ⟨none, none, .store 4 (.tmp 9) (.tmp 34)⟩])
 (.seq
 (.ops [
 ⟨(some 35), none, .mov (.tmp 1)⟩,
 ⟨(some 36), none, .mov (.tmp 8)⟩,
 ⟨(some 37), none, .bin .shr 3 (.tmp 35) (.tmp 36)⟩,
 ⟨(some 38), none, .bin .and 3 (.tmp 37) (.const (.int 1))⟩,
 ⟨(some 39), none, .bin .eql 3 (.tmp 38) (.const (.int 1))⟩])
 (.cond (.tmp 39)
 (.ops [
 ⟨(some 40), none, .mov (.tmp 7)⟩,
 ⟨(some 41), none, .faddr 2 (.tmp 9)⟩,
 ⟨(some 42), none, .load false 1 (.tmp 41)⟩,
 ⟨(some 43), none, .bin .or 3 (.tmp 40) (.tmp 42)⟩,
 ⟨(some 7), none, .mov (.tmp 43)⟩])
 .skip))))
 (.ops [
 ⟨(some 44), none, .bin .add 3 (.tmp 30) (.const (.int 1))⟩,
 ⟨(some 30), none, .mov (.tmp 44)⟩])))))))
 (.seq
 (.seq
 (.ops [
 ⟨(some 10), none, .mov (.const (.bool true))⟩])
 (.block 2
 (.loop
 (.seq
 (.seq
 (.ops [
 ⟨(some 45), none, .mov (.tmp 10)⟩])
 (.cond (.tmp 45)
 .skip
 (.exit 2)))
 (.block 3
 (.seq
 (.ops [
 ⟨(some 10), none, .mov (.const (.bool false))⟩])
 (.seq
 .skip
 (.seq
 (.ops [
 ⟨(some 46), none, .mov (.tmp 0)⟩,
 ⟨(some 47), none, .nilchk (.tmp 46)⟩,
 ⟨(some 48), none, .faddr 0 (.tmp 47)⟩,
 ⟨(some 49), none, .faddr 5 (.tmp 48)⟩,
 ⟨(some 50), none, .load false 1 (.tmp 49)⟩,
 ⟨(some 51), none, .len .sl (.tmp 50)⟩,
 ⟨(some 52), none, .mov (.const (.int 0))⟩])
 (.block 4
 (.loop
 (.seq
 (.ops [
 ⟨(some 53), none, .bin .lss 3 (.tmp 52) (.tmp 51)⟩])
 (.seq
 (.cond (.tmp 53)
 .skip
 (.exit 4))
 (.seq
 (.block 5
 (.seq
 (.ops [
 ⟨(some 54), none, .iaddr 2 (.tmp 50) (.tmp 52)⟩,
 ⟨(some 55), none, .load true 2 (.tmp 54)⟩,
 ⟨(some 12), none, .alloc [(.int 0), (.int 0)]⟩,
 ⟨none, none, .store 2 (.tmp 12) (.tmp 55)⟩])
 (.seq
 (.seq
 (.ops [
 ⟨(some 56), none, .faddr 0 (.tmp 12)⟩,
 ⟨(some 57), none, .load false 1 (.tmp 56)⟩,
 ⟨(some 58), none, .mov (.tmp 7)⟩,
 ⟨(some 59), none, .bin .andNot 3 (.tmp 57) (.tmp 58)⟩,
 ⟨(some 60), none, .bin .neq 3 (.tmp 59) (.const (.int 0))⟩,
 ⟨(some 61), none, .mov (.tmp 60)⟩,
 ⟨(some 62), (some (61, false)), .mov (.tmp 7)⟩,
 ⟨(some 63), (some (61, false)), .faddr 1 (.tmp 12)⟩,
 ⟨(some 64), (some (61, false)), .load false 1 (.tmp 63)⟩,
 ⟨(some 65), (some (61, false)), .bin .shr 3 (.tmp 62) (.tmp 64)⟩,
 ⟨(some 66), (some (61, false)), .bin .and 3 (.tmp 65) (.const (.int 1))⟩,
 ⟨(some 67), (some (61, false)), .bin .eql 3 (.tmp 66) (.const (.int 1))⟩,
 ⟨(some 68), none, .pick (.tmp 61) (.const (.bool true)) (.tmp 67)⟩])
 (.cond (.tmp 68)
 (.exit 5)
 .skip))
 (.seq
 (.ops [
 ⟨(some 69), none, .mov (.tmp 7)⟩,
 ⟨(some 70), none, .faddr 1 (.tmp 12)⟩,
 ⟨(some 71), none, .load false 1 (.tmp 70)⟩,
 ⟨(some 72), none, .bin .shl 3 (.const (.int 1)) (.tmp 71)⟩,
 ⟨(some 73), none, .bin .or 3 (.tmp 69) (.tmp 72)⟩,
 ⟨(some 7), none, .mov (.tmp 73)⟩])
 (.ops [
 ⟨(some 10), none, .mov (.const (.bool true))⟩])))))
 (.ops [
 ⟨(some 74), none, .bin .add 3 (.tmp 52) (.const (.int 1))⟩,
 ⟨(some 52), none, .mov (.tmp 74)⟩]))))))))))))))
 (.seq
 (.ops [
 ⟨(some 75), none, .mov (.tmp 0)⟩,
 ⟨(some 76), none, .nilchk (.tmp 75)⟩,
 ⟨(some 77), none, .faddr 9 (.tmp 76)⟩,
 ⟨(some 78), none, .load false 1 (.tmp 77)⟩,
 ⟨(some 79), none, .mov (.tmp 1)⟩,
 ⟨(some 80), none, .mov (.tmp 7)⟩,
 ⟨none, none, .mapset 3 (.tmp 78) (.tmp 79) (.tmp 80)⟩])
 (.seq
 (.ops [
 ⟨(some 81), none, .mov (.tmp 7)⟩,
 ⟨(some 4), none, .mov (.tmp 81)⟩])
 .ret)))))))

theorem c58 : compF Try.prog 58 = some (82, [.tmp 4], k58) := by
 unfold compF; rw [Try.func58]; kernel_rfl

noncomputable abbrev k59 : CC :=
 (.seq
 (.ops [
 ⟨(some 4), none, .mov (.const (.bool false))⟩])
 (.seq
 (.draw [
 ⟨(some 5), none, .load false 1 (.tmp 1)⟩,
 ⟨(some 6), none, .mov (.tmp 0)⟩,
 ⟨(some 7), none, .call 58 [(.tmp 5), (.tmp 6)]⟩,
 ⟨(some 8), none, .load false 1 (.tmp 2)⟩,
 ⟨(some 9), none, .bin .shr 3 (.tmp 7) (.tmp 8)⟩,
 ⟨(some 10), none, .bin .and 3 (.tmp 9) (.const (.int 1))⟩,
 ⟨(some 11), none, .bin .eql 3 (.tmp 10) (.const (.int 1))⟩,
 ⟨(some 4), none, .mov (.tmp 11)⟩] [[], [], [0, 1], [], [2, 3, 0, 1], [4, 2, 3, 0, 1], [5, 4, 2, 3, 0, 1], [6, 5, 4, 2, 3, 0, 1]])
 .ret))

theorem c59 : compF Try.prog 59 = some (12, [.tmp 4], k59) := by
 unfold compF; rw [Try.func59]; kernel_rfl

noncomputable abbrev k60 : CC :=
 (.seq
 (.ops [
 ⟨(some 5), none, .mov (.const (.bool false))⟩])
 (.seq
 (.draw [
 ⟨(some 6), none, .load false 1 (.tmp 1)⟩,
 ⟨(some 7), none, .load false 1 (.tmp 2)⟩,
 ⟨(some 8), none, .mov (.tmp 0)⟩,
 ⟨(some 9), none, .bin .andNot 3 (.tmp 7) (.tmp 8)⟩,
 ⟨(some 10), none, .call 58 [(.tmp 6), (.tmp 9)]⟩,
 ⟨(some 11), none, .load false 1 (.tmp 3)⟩,
 ⟨(some 12), none, .bin .shr 3 (.tmp 10) (.tmp 11)⟩,
 ⟨(some 13), none, .bin .and 3 (.tmp 12) (.const (.int 1))⟩,
 ⟨(some 14), none, .bin .eql 3 (.tmp 13) (.const (.int 0))⟩,
 ⟨(some 5), none, .mov (.tmp 14)⟩] [[], [], [], [1, 2], [0, 3, 1, 2], [], [4, 5, 0, 3, 1, 2], [6, 4, 5, 0, 3, 1, 2], [7, 6, 4, 5, 0, 3, 1, 2], [8, 7, 6, 4, 5, 0, 3, 1, 2]])
 .ret))

theorem c60 : compF Try.prog 60 = some (15, [.tmp 5], k60) := by
 unfold compF; rw [Try.func60]; kernel_rfl

noncomputable abbrev k61 : CC :=
 (.seq
 (.ops [
 ⟨(some 4), none, .mov (.const (.bool false))⟩])
 (.seq
 (.draw [
 ⟨(some 5), none, .load false 1 (.tmp 1)⟩,
 ⟨(some 6), none, .mov (.tmp 0)⟩,
 ⟨(some 7), none, .call 58 [(.tmp 5), (.tmp 6)]⟩,
 ⟨(some 8), none, .load false 1 (.tmp 1)⟩,
 ⟨(some 9), none, .load false 1 (.tmp 2)⟩,
 ⟨(some 10), none, .call 58 [(.tmp 8), (.tmp 9)]⟩,
 ⟨(some 11), none, .bin .eql 3 (.tmp 7) (.tmp 10)⟩,
 ⟨(some 4), none, .mov (.tmp 11)⟩] [[], [], [0, 1], [], [], [3, 4, 2, 0, 1], [5, 3, 4, 2, 0, 1], [6, 5, 3, 4, 2, 0, 1]])
 .ret))

theorem c61 : compF Try.prog 61 = some (12, [.tmp 4], k61) := by
 unfold compF; rw [Try.func61]; kernel_rfl

noncomputable abbrev k62 : CC :=
 (.seq
 (.ops [
 ⟨(some 0), none, .alloc [(.int 0), (.int 0), (.list .exact [] 0), (.int 0), (.list .exact [] 0), (.list .exact [] 0)]⟩])
 (.seq
 (.ops [
 ⟨(some 1), none, .lit [(.str ⟨#[]⟩), (.str ⟨#[]⟩)] 2 [(0, 1, (.const (.str ⟨#[97, 110, 97]⟩))), (1, 1, (.const (.str ⟨#[98, 101, 110]⟩)))]⟩,
 ⟨(some 2), none, .build [(.int 0), (.int 0), (.int 0), (.int 0)] [(0, 1, (.const (.int 1))), (1, 1, (.const (.int 3))), (2, 1, (.const (.int 1))), (3, 1, (.const (.int 3)))]⟩,
 ⟨(some 3), none, .build [(.int 0), (.int 0), (.int 0), (.int 0)] [(0, 1, (.const (.int 3))), (1, 1, (.const (.int 1))), (2, 1, (.const (.int 2))), (3, 1, (.const (.int 3)))]⟩,
 ⟨(some 4), none, .build [(.int 0), (.int 0), (.int 0), (.int 0)] [(0, 1, (.const (.int 4))), (1, 1, (.const (.int 6))), (2, 1, (.const (.int 4))), (3, 1, (.const (.int 1)))]⟩,
 ⟨(some 5), none, .build [(.int 0), (.int 0), (.int 0), (.int 0)] [(0, 1, (.const (.int 6))), (1, 1, (.const (.int 3))), (2, 1, (.const (.int 6))), (3, 1, (.const (.int 2)))]⟩,
 ⟨(some 6), none, .lit [(.int 0), (.int 0), (.int 0), (.int 0), (.int 0), (.int 0), (.int 0), (.int 0), (.int 0), (.int 0), (.int 0), (.int 0), (.int 0), (.int 0), (.int 0), (.int 0)] 4 [(0, 4, (.tmp 2)), (4, 4, (.tmp 3)), (8, 4, (.tmp 4)), (12, 4, (.tmp 5))]⟩,
 ⟨(some 7), none, .build [(.int 0), (.int 0)] [(0, 1, (.const (.int 3))), (1, 1, (.const (.int 3)))]⟩,
 ⟨(some 8), none, .lit [(.int 0), (.int 0)] 1 [(0, 2, (.tmp 7))]⟩,
 ⟨(some 9), none, .build [(.int 0), (.int 0), (.list .exact [] 0), (.int 0), (.list .exact [] 0), (.list .exact [] 0)] [(0, 1, (.const (.int 3))), (1, 1, (.const (.int 4))), (2, 1, (.tmp 1)), (3, 1, (.const (.int 6))), (4, 1, (.tmp 6)), (5, 1, (.tmp 8))]⟩,
 ⟨none, none, .store 6 (.tmp 0) (.tmp 9)⟩])
 .ret))

theorem c62 : compF Try.prog 62 = some (10, [.cell 0 26], k62) := by
 unfold compF; rw [Try.func62]; kernel_rfl

noncomputable abbrev k63 : CC :=
 (.seq
 (.ops [
 ⟨(some 4), none, .mov (.const (.bool false))⟩])
 (.seq
 (.ops [
 ⟨(some 5), none, .mov (.tmp 0)⟩,
 ⟨(some 6), none, .len .sl (.tmp 5)⟩,
 ⟨(some 7), none, .mov (.tmp 1)⟩,
 ⟨(some 8), none, .len .sl (.tmp 7)⟩,
 ⟨(some 9), none, .bin .eql 3 (.tmp 6) (.tmp 8)⟩,
 ⟨(some 10), none, .mov (.tmp 9)⟩,
 ⟨(some 11), (some (10, true)), .mov (.tmp 0)⟩,
 ⟨(some 12), (some (10, true)), .mov (.tmp 1)⟩,
 ⟨(some 13), (some (10, true)), .call 74 [(.tmp 11), (.tmp 12)]⟩,
 ⟨(some 14), (some (10, true)), .un .not (.tmp 13)⟩,
 ⟨(some 15), none, .pick (.tmp 10) (.tmp 14) (.const (.bool false))⟩,
 ⟨(some 16), none, .mov (.tmp 15)⟩,
 ⟨(some 17), (some (16, true)), .mov (.tmp 1)⟩,
 ⟨(some 18), (some (16, true)), .mov (.tmp 0)⟩,
 ⟨(some 19), (some (16, true)), .call 74 [(.tmp 17), (.tmp 18)]⟩,
 ⟨(some 20), (some (16, true)), .un .not (.tmp 19)⟩,
 ⟨(some 21), none, .pick (.tmp 16) (.tmp 20) (.const (.bool false))⟩,
 ⟨(some 4), none, .mov (.tmp 21)⟩])
 .ret))

theorem c63 : compF Try.prog 63 = some (22, [.tmp 4], k63) := by
 unfold compF; rw [Try.func63]; kernel_rfl

noncomputable abbrev k64 : CC :=
 (.ops [
 ⟨(some 4), none, .mov (.tmp 0)⟩,
 ⟨(some 5), none, .mov (.tmp 1)⟩,
 ⟨(some 6), none, .call 75 [(.tmp 4), (.tmp 5), (.const (.fn 76 [] []))]⟩])

theorem c64 : compF Try.prog 64 = some (7, [], k64) := by
 unfold compF; rw [Try.func64]; kernel_rfl

noncomputable abbrev k65 : CC :=
 (.ops [
 ⟨(some 4), none, .mov (.tmp 0)⟩,
 ⟨(some 5), none, .mov (.tmp 1)⟩,
 ⟨(some 6), none, .call 77 [(.tmp 4), (.tmp 5), (.const (.fn 78 [] []))]⟩])

theorem c65 : compF Try.prog 65 = some (7, [], k65) := by
 unfold compF; rw [Try.func65]; kernel_rfl

noncomputable abbrev k66 : CC :=
 (.ops [
 ⟨(some 4), none, .mov (.tmp 0)⟩,
 ⟨(some 5), none, .mov (.tmp 1)⟩,
 ⟨(some 6), none, .call 79 [(.tmp 4), (.tmp 5), (.const (.fn 80 [] []))]⟩])

theorem c66 : compF Try.prog 66 = some (7, [], k66) := by
 unfold compF; rw [Try.func66]; kernel_rfl

noncomputable abbrev k67 : CC :=
 (.seq
 (.ops [
 ⟨(some 4), none, .mov (.const (.bool false))⟩])
 (.seq
 (.ops [
 ⟨(some 5), none, .mov (.tmp 0)⟩,
 ⟨(some 6), none, .mov (.tmp 1)⟩,
 ⟨(some 7), none, .call 81 [(.tmp 5), (.tmp 6)]⟩,
 ⟨(some 8), none, .bin .geq 3 (.tmp 7) (.const (.int 0))⟩,
 ⟨(some 4), none, .mov (.tmp 8)⟩])
 .ret))

theorem c67 : compF Try.prog 67 = some (9, [.tmp 4], k67) := by
 unfold compF; rw [Try.func67]; kernel_rfl

noncomputable abbrev k68 : CC :=
 (.seq
 (.ops [
 ⟨(some 4), none, .mov (.const (.bool false))⟩])
 (.seq
 (.ops [
 ⟨(some 5), none, .mov (.tmp 0)⟩,
 ⟨(some 6), none, .load false 1 (.tmp 1)⟩,
 ⟨(some 7), none, .bin .lss 3 (.tmp 5) (.tmp 6)⟩,
 ⟨(some 8), none, .mov (.tmp 7)⟩,
 ⟨(some 9), (some (8, false)), .mov (.tmp 0)⟩,
 ⟨(some 10), (some (8, false)), .load false 1 (.tmp 2)⟩,
 ⟨(some 11), (some (8, false)), .bin .gtr 3 (.tmp 9) (.tmp 10)⟩,
 ⟨(some 12), none, .pick (.tmp 8) (.const (.bool true)) (.tmp 11)⟩,
 ⟨(some 4), none, .mov (.tmp 12)⟩])
 .ret))

theorem c68 : compF Try.prog 68 = some (13, [.tmp 4], k68) := by
 unfold compF; rw [Try.func68]; kernel_rfl

noncomputable abbrev k69 : CC :=
 (.seq
 (.ops [
 ⟨(some 3), none, .box (.tmp 0)⟩,
 ⟨(some 4), none, .box (.tmp 1)⟩,
 ⟨(some 6), none, .mov (.const (.bool false))⟩])
 (.seq
 (.ops [
 ⟨(some 7), none, .mov (.tmp 2)⟩,
 ⟨(some 8), none, .mkfn 82 [] [(.tmp 3), (.tmp 4)]⟩,
 ⟨(some 9), none, .call 67 [(.tmp 7), (.tmp 8)]⟩,
 ⟨(some 6), none, .mov (.tmp 9)⟩])
 .ret))

theorem c69 : compF Try.prog 69 = some (10, [.tmp 6], k69) := by
 unfold compF; rw [Try.func69]; kernel_rfl

noncomputable abbrev k70 : CC :=
 (.seq
 (.ops [
 ⟨(some 4), none, .mov (.const (.int 0))⟩])
 (.seq
 (.seq
 (.ops [
 ⟨(some 6), none, .mov (.tmp 0)⟩,
 ⟨(some 7), none, .len .sl (.tmp 6)⟩,
 ⟨(some 8), none, .mov (.const (.int 0))⟩])
 (.block 0
 (.loop
 (.seq
 (.ops [
 ⟨(some 9), none, .bin .lss 3 (.tmp 8) (.tmp 7)⟩])
 (.seq
 (.cond (.tmp 9)
 .skip
 (.exit 0))
 (.seq
 (.block 1
 (.seq
 (.ops [
 ⟨(some 10), none, .mov (.tmp 8)⟩,
 ⟨(some 5), none, .mov (.tmp 10)⟩])
 (.seq
 (.ops [
 ⟨(some 11), none, .mov (.tmp 1)⟩,
 ⟨(some 12), none, .mov (.tmp 0)⟩,
 ⟨(some 13), none, .mov (.tmp 5)⟩,
 ⟨(some 14), none, .iaddr 1 (.tmp 12) (.tmp 13)⟩,
 ⟨(some 15), none, .load false 1 (.tmp 14)⟩,
 ⟨(some 16), none, .bin .eql 9 (.tmp 11) (.tmp 15)⟩])
 (.cond (.tmp 16)
 (.seq
 (.ops [
 ⟨(some 17), none, .mov (.tmp 5)⟩,
 ⟨(some 4), none, .mov (.tmp 17)⟩])
 .ret)
 .skip))))
 (.ops [
 ⟨(some 18), none, .bin .add 3 (.tmp 8) (.const (.int 1))⟩,
 ⟨(some 8), none, .mov (.tmp 18)⟩])))))))
 (.seq
 (.ops [
 ⟨(some 4), none, .mov (.const (.int (-1)))⟩])
 .ret)))

theorem c70 : compF Try.prog 70 = some (19, [.tmp 4], k70) := by
 unfold compF; rw [Try.func70]; kernel_rfl

noncomputable abbrev k71 : CC :=
 (.seq
 (.ops [
 ⟨(some 1), none, .box (.tmp 0)⟩,
 ⟨(some 2), none, .mov (.const (.v (.pointer none)))⟩])
 (.seq
 (.ops [
 ⟨(some 7), none, .load true 6 (.tmp 1)⟩,
 ⟨(some 8), none, .mkmap⟩,
 ⟨(some 9), none, .build [(.int 0), (.int 0), (.list .exact [] 0), (.int 0), (.list .exact [] 0), (.list .exact [] 0), (.int 0), (.int 0), (.int 0), (.v (.map none))] [(0, 6, (.tmp 7)), (9, 1, (.tmp 8))]⟩,
 ⟨(some 10), none, .box (.tmp 9)⟩,
 ⟨(some 3), none, .mov (.tmp 10)⟩])
 (.seq
 (.seq
 (.ops [
 ⟨(some 11), none, .faddr 4 (.tmp 1)⟩,
 ⟨(some 12), none, .load false 1 (.tmp 11)⟩,
 ⟨(some 13), none, .len .sl (.tmp 12)⟩,
 ⟨(some 14), none, .mov (.const (.int 0))⟩])
 (.block 0
 (.loop
 (.seq
 (.ops [
 ⟨(some 15), none, .bin .lss 3 (.tmp 14) (.tmp 13)⟩])
 (.seq
 (.cond (.tmp 15)
 .skip
 (.exit 0))
 (.seq
 (.block 1
 (.seq
 (.ops [
 ⟨(some 16), none, .mov (.tmp 14)⟩,
 ⟨(some 17), none, .iaddr 4 (.tmp 12) (.tmp 14)⟩,
 ⟨(some 18), none, .load true 4 (.tmp 17)⟩,
 ⟨(some 5), none, .alloc [(.int 0), (.int 0), (.int 0), (.int 0)]⟩,
 ⟨(some 4), none, .mov (.tmp 16)⟩,
 ⟨none, none, .store 4 (.tmp 5) (.tmp 18)⟩])
 (.seq
 (.ops [
 ⟨(some 19), none, .faddr 2 (.tmp 1)⟩,
 ⟨(some 20), none, .load false 1 (.tmp 19)⟩,
 ⟨(some 21), none, .len .sl (.tmp 20)⟩,
 ⟨(some 22), none, .mov (.const (.int 0))⟩])
 (.block 2
 (.loop
 (.seq
 (.ops [
 ⟨(some 23), none, .bin .lss 3 (.tmp 22) (.tmp 21)⟩])
 (.seq
 (.cond (.tmp 23)
 .skip
 (.exit 2))
 (.seq
 (.block 3
 (.seq
 (.ops [
 ⟨(some 24), none, .mov (.tmp 22)⟩,
 ⟨(some 6), none, .mov (.tmp 24)⟩])
 (.seq
 (.ops [
 ⟨(some 25), none, .faddr 3 (.tmp 5)⟩,
 ⟨(some 26), none, .load false 1 (.tmp 25)⟩,
 ⟨(some 27), none, .mov (.tmp 6)⟩,
 ⟨(some 28), none, .bin .shr 3 (.tmp 26) (.tmp 27)⟩,
 ⟨(some 29), none, .bin .and 3 (.tmp 28) (.const (.int 1))⟩,
 ⟨(some 30), none, .bin .eql 3 (.tmp 29) (.const (.int 1))⟩])
 (.cond (.tmp 30)
 (.draw [
 ⟨(some 31), none, .mov (.tmp 3)⟩,
 ⟨(some 32), none, .mov (.tmp 6)⟩,
 ⟨(some 33), none, .nilchk (.tmp 31)⟩,
 ⟨(some 34), none, .faddr 6 (.tmp 33)⟩,
 ⟨(some 35), none, .iaddrarr 3 1 (.tmp 34) (.tmp 32)⟩,
 ⟨(some 36), none, .load false 1 (.tmp 35)⟩,
 ⟨(some 37), none, .mov (.tmp 4)⟩,
 ⟨(some 38), none, .bin .shl 3 (.const (.int 1)) (.tmp 37)⟩,
 ⟨(some 39), none, .bin .or 3 (.tmp 36) (.tmp 38)⟩,
 ⟨(some 40), none, .nilchk (.tmp 31)⟩,
 ⟨(some 41), none, .faddr 6 (.tmp 40)⟩,
 ⟨(some 42), none, .iaddrarr 3 1 (.tmp 41) (.tmp 32)⟩,
 ⟨none, none, .store 1 (.tmp 42) (.tmp 39)⟩] [[], [], [0], [2, 0], [3, 1, 2, 0], [4, 3, 1, 2, 0], [], [6], [5, 7, 4, 3, 1, 2, 0, 6], [0], [9, 0], [10, 8, 9, 5, 7, 4, 3, 1, 2, 0, 6], [11, 10, 8, 9, 5, 7, 4, 3, 1, 2, 0, 6]])
 .skip))))
 (.ops [
 ⟨(some 43), none, .bin .add 3 (.tmp 22) (.const (.int 1))⟩,
 ⟨(some 22), none, .mov (.tmp 43)⟩])))))))))
 (.ops [
 ⟨(some 44), none, .bin .add 3 (.tmp 14) (.const (.int 1))⟩,
 ⟨(some 14), none, .mov (.tmp 44)⟩])))))))
 (.seq
 (.ops [
 ⟨(some 45), none, .mov (.tmp 3)⟩,
 ⟨(some 2), none, .mov (.tmp 45)⟩])
 .ret))))

theorem c71 : compF Try.prog 71 = some (46, [.tmp 2], k71) := by
 unfold compF; rw [Try.func71]; kernel_rfl

noncomputable abbrev k72 : CC :=
 (.seq
 (.ops [
 ⟨(some 6), none, .mov (.const (.bool false))⟩])
 (.seq
 (.ops [
 ⟨(some 7), none, .mov (.tmp 2)⟩,
 ⟨(some 8), none, .mov (.tmp 0)⟩,
 ⟨(some 9), none, .nilchk (.tmp 8)⟩,
 ⟨(some 10), none, .faddr 0 (.tmp 9)⟩,
 ⟨(some 11), none, .faddr 4 (.tmp 10)⟩,
 ⟨(some 12), none, .load false 1 (.tmp 11)⟩,
 ⟨(some 13), none, .mov (.tmp 1)⟩,
 ⟨(some 14), none, .iaddr 4 (.tmp 12) (.tmp 13)⟩,
 ⟨(some 15), none, .faddr 1 (.tmp 14)⟩,
 ⟨(some 16), none, .load false 1 (.tmp 15)⟩,
 ⟨(some 17), none, .bin .andNot 3 (.tmp 7) (.tmp 16)⟩,
 ⟨(some 18), none, .bin .eql 3 (.tmp 17) (.const (.int 0))⟩,
 ⟨(some 6), none, .mov (.tmp 18)⟩])
 .ret))

theorem c72 : compF Try.prog 72 = some (19, [.tmp 6], k72) := by
 unfold compF; rw [Try.func72]; kernel_rfl

noncomputable abbrev k73 : CC :=
 (.seq
 (.ops [
 ⟨(some 1), none, .box (.tmp 0)⟩,
 ⟨(some 2), none, .mov (.const (.v .nilFunc))⟩])
 (.seq
 (.ops [
 ⟨(some 3), none, .mkfn 83 [] [(.tmp 1)]⟩,
 ⟨(some 2), none, .mov (.tmp 3)⟩])
 .ret))

theorem c73 : compF Try.prog 73 = some (4, [.tmp 2], k73) := by
 unfold compF; rw [Try.func73]; kernel_rfl

noncomputable abbrev k74 : CC :=
 (.seq
 (.ops [
 ⟨(some 4), none, .mov (.const (.bool false))⟩])
 (.seq
 (.ops [
 ⟨(some 5), none, .mov (.const (.int 0))⟩])
 (.seq
 (.block 0
 (.loop
 (.seq
 (.seq
 (.draw [
 ⟨(some 6), none, .mov (.tmp 5)⟩,
 ⟨(some 7), none, .mov (.tmp 0)⟩,
 ⟨(some 8), none, .len .sl (.tmp 7)⟩,
 ⟨(some 9), none, .bin .lss 3 (.tmp 6) (.tmp 8)⟩,
 ⟨(some 10), none, .mov (.tmp 9)⟩,
 ⟨(some 11), (some (10, true)), .mov (.tmp 5)⟩,
 ⟨(some 12), (some (10, true)), .mov (.tmp 1)⟩,
 ⟨(some 13), (some (10, true)), .len .sl (.tmp 12)⟩,
 ⟨(some 14), (some (10, true)), .bin .lss 3 (.tmp 11) (.tmp 13)⟩,
 ⟨(some 15), none, .pick (.tmp 10) (.tmp 14) (.const (.bool false))⟩,
 ⟨(some 16), none, .mov (.tmp 15)⟩,
 ⟨(some 17), (some (16, true)), .mov (.tmp 0)⟩,
 ⟨(some 18), (some (16, true)), .mov (.tmp 5)⟩,
 ⟨(some 19), (some (16, true)), .iaddr 1 (.tmp 17) (.tmp 18)⟩,
 ⟨(some 20), (some (16, true)), .load false 1 (.tmp 19)⟩,
 ⟨(some 21), (some (16, true)), .mov (.tmp 1)⟩,
 ⟨(some 22), (some (16, true)), .mov (.tmp 5)⟩,
 ⟨(some 23), (some (16, true)), .iaddr 1 (.tmp 21) (.tmp 22)⟩,
 ⟨(some 24), (some (16, true)), .load false 1 (.tmp 23)⟩,
 ⟨(some 25), (some (16, true)), .bin .eql 3 (.tmp 20) (.tmp 24)⟩,
 ⟨(some 26), none, .pick (.tmp 16) (.tmp 25) (.const (.bool false))⟩] [[], [], [1], [0, 2, 1], [3, 0, 2, 1], [4, 3, 0, 2, 1], [4, 3, 0, 2, 1], [6, 4, 3, 0, 2, 1], [5, 7, 6, 4, 3, 0, 2, 1], [8, 5, 7, 6, 4, 3, 0, 2, 1], [9, 8, 5, 7, 6, 4, 3, 0, 2, 1], [10, 9, 8, 5, 7, 6, 4, 3, 0, 2, 1], [10, 9, 8, 5, 7, 6, 4, 3, 0, 2, 1], [11, 12, 10, 9, 8, 5, 7, 6, 4, 3, 0, 2, 1], [13, 11, 12, 10, 9, 8, 5, 7, 6, 4, 3, 0, 2, 1], [10, 9, 8, 5, 7, 6, 4, 3, 0, 2, 1], [10, 9, 8, 5, 7, 6, 4, 3, 0, 2, 1], [15, 16, 10, 9, 8, 5, 7, 6, 4, 3, 0, 2, 1], [17, 15, 16, 10, 9, 8, 5, 7, 6, 4, 3, 0, 2, 1], [14, 18, 13, 11, 12, 17, 15, 16, 10, 9, 8, 5, 7, 6, 4, 3, 0, 2, 1], [19, 14, 18, 13, 11, 12, 17, 15, 16, 10, 9, 8, 5, 7, 6, 4, 3, 0, 2, 1]])
 (.cond (.tmp 26)
 .skip
 (.exit 0)))
 (.block 1
 (.ops [
 ⟨(some 27), none, .mov (.tmp 5)⟩,
 ⟨(some 28), none, .bin .add 3 (.tmp 27) (.const (.int 1))⟩,
 ⟨(some 5), none, .mov (.tmp 28)⟩])))))
 (.seq
 (.seq
 (.ops [
 ⟨(some 29), none, .mov (.tmp 5)⟩,
 ⟨(some 30), none, .mov (.tmp 1)⟩,
 ⟨(some 31), none, .len .sl (.tmp 30)⟩,
 ⟨(some 32), none, .bin .eql 3 (.tmp 29) (.tmp 31)⟩])
 (.cond (.tmp 32)
 (.seq
 (.ops [
 ⟨(some 4), none, .mov (.const (.bool false))⟩])
 .ret)
 .skip))
 (.seq
 (.draw [
 ⟨(some 33), none, .mov (.tmp 5)⟩,
 ⟨(some 34), none, .mov (.tmp 0)⟩,
 ⟨(some 35), none, .len .sl (.tmp 34)⟩,
 ⟨(some 36), none, .bin .eql 3 (.tmp 33) (.tmp 35)⟩,
 ⟨(some 37), none, .mov (.tmp 36)⟩,
 ⟨(some 38), (some (37, false)), .mov (.tmp 0)⟩,
 ⟨(some 39), (some (37, false)), .mov (.tmp 5)⟩,
 ⟨(some 40), (some (37, false)), .iaddr 1 (.tmp 38) (.tmp 39)⟩,
 ⟨(some 41), (some (37, false)), .load false 1 (.tmp 40)⟩,
 ⟨(some 42), (some (37, false)), .mov (.tmp 1)⟩,
 ⟨(some 43), (some (37, false)), .mov (.tmp 5)⟩,
 ⟨(some 44), (some (37, false)), .iaddr 1 (.tmp 42) (.tmp 43)⟩,
 ⟨(some 45), (some (37, false)), .load false 1 (.tmp 44)⟩,
 ⟨(some 46), (some (37, false)), .bin .lss 3 (.tmp 41) (.tmp 45)⟩,
 ⟨(some 47), none, .pick (.tmp 37) (.const (.bool true)) (.tmp 46)⟩,
 ⟨(some 4), none, .mov (.tmp 47)⟩] [[], [], [1], [0, 2, 1], [3, 0, 2, 1], [4, 3, 0, 2, 1], [4, 3, 0, 2, 1], [5, 6, 4, 3, 0, 2, 1], [7, 5, 6, 4, 3, 0, 2, 1], [4, 3, 0, 2, 1], [4, 3, 0, 2, 1], [9, 10, 4, 3, 0, 2, 1], [11, 9, 10, 4, 3, 0, 2, 1], [8, 12, 7, 5, 6, 11, 9, 10, 4, 3, 0, 2, 1], [13, 8, 12, 7, 5, 6, 11, 9, 10, 4, 3, 0, 2, 1], [14, 13, 8, 12, 7, 5, 6, 11, 9, 10, 4, 3, 0, 2, 1]])
 .ret)))))

theorem c74 : compF Try.prog 74 = some (48, [.tmp 4], k74) := by
 unfold compF; rw [Try.func74]; kernel_rfl

noncomputable abbrev k75 : CC :=
 (.seq
 (.ops [
 ⟨(some 7), none, .mov (.tmp 0)⟩,
 ⟨(some 8), none, .mov (.tmp 0)⟩,
 ⟨(some 9), none, .nilchk (.tmp 8)⟩,
 ⟨(some 10), none, .faddr 0 (.tmp 9)⟩,
 ⟨(some 11), none, .load false 1 (.tmp 10)⟩,
 ⟨(some 12), none, .mov (.tmp 1)⟩,
 ⟨(some 13), none, .len .sl (.tmp 12)⟩,
 ⟨(some 14), none, .lit [(.int 0)] 1 [(0, 1, (.tmp 13))]⟩,
 ⟨(some 15), none, .append 1 8 [(.int 0)] (.tmp 11) (.tmp 14)⟩,
 ⟨(some 16), none, .nilchk (.tmp 7)⟩,
 ⟨(some 17), none, .faddr 0 (.tmp 16)⟩,
 ⟨none, none, .store 1 (.tmp 17) (.tmp 15)⟩])
 (.seq
 (.ops [
 ⟨(some 6), none, .mov (.const (.int 0))⟩])
 (.block 0
 (.loop
 (.seq
 (.seq
 (.ops [
 ⟨(some 18), none, .mov (.tmp 6)⟩,
 ⟨(some 19), none, .mov (.tmp 1)⟩,
 ⟨(some 20), none, .len .sl (.tmp 19)⟩,
 ⟨(some 21), none, .bin .lss 3 (.tmp 18) (.tmp 20)⟩])
 (.cond (.tmp 21)
 .skip
 (.exit 0)))
 (.seq
 (.block 1
 (.ops [
 ⟨(some 24), none, .mov (.tmp 2)⟩,
 ⟨(some 25), none, .mov (.tmp 0)⟩,
 ⟨(some 26), none, .mov (.tmp 1)⟩,
 ⟨(some 27), none, .mov (.tmp 6)⟩,
 ⟨(some 28), none, .iaddr 1 (.tmp 26) (.tmp 27)⟩,
 ⟨(some 29), none, .load false 1 (.tmp 28)⟩,
 ⟨(some 30), none, .callv (.tmp 24) [(.tmp 25), (.tmp 29)]⟩]))
 (.ops [
 ⟨(some 22), none, .mov (.tmp 6)⟩,
 ⟨(some 23), none, .bin .add 3 (.tmp 22) (.const (.int 1))⟩,
 ⟨(some 6), none, .mov (.tmp 23)⟩])))))))

theorem c75 : compF Try.prog 75 = some (31, [], k75) := by
 unfold compF; rw [Try.func75]; kernel_rfl

noncomputable abbrev k76 : CC :=
 (.ops [
 ⟨(some 4), none, .mov (.tmp 0)⟩,
 ⟨(some 5), none, .mov (.tmp 0)⟩,
 ⟨(some 6), none, .nilchk (.tmp 5)⟩,
 ⟨(some 7), none, .faddr 1 (.tmp 6)⟩,
 ⟨(some 8), none, .load false 1 (.tmp 7)⟩,
 ⟨(some 9), none, .mov (.tmp 1)⟩,
 ⟨(some 10), none, .lit [(.str ⟨#[]⟩)] 1 [(0, 1, (.tmp 9))]⟩,
 ⟨(some 11), none, .append 1 16 [(.str ⟨#[]⟩)] (.tmp 8) (.tmp 10)⟩,
 ⟨(some 12), none, .nilchk (.tmp 4)⟩,
 ⟨(some 13), none, .faddr 1 (.tmp 12)⟩,
 ⟨none, none, .store 1 (.tmp 13) (.tmp 11)⟩])

theorem c76 : compF Try.prog 76 = some (14, [], k76) := by
 unfold compF; rw [Try.func76]; kernel_rfl

noncomputable abbrev k77 : CC :=
 (.seq
 (.ops [
 ⟨(some 7), none, .mov (.tmp 0)⟩,
 ⟨(some 8), none, .mov (.tmp 0)⟩,
 ⟨(some 9), none, .nilchk (.tmp 8)⟩,
 ⟨(some 10), none, .faddr 0 (.tmp 9)⟩,
 ⟨(some 11), none, .load false 1 (.tmp 10)⟩,
 ⟨(some 12), none, .mov (.tmp 1)⟩,
 ⟨(some 13), none, .len .sl (.tmp 12)⟩,
 ⟨(some 14), none, .lit [(.int 0)] 1 [(0, 1, (.tmp 13))]⟩,
 ⟨(some 15), none, .append 1 8 [(.int 0)] (.tmp 11) (.tmp 14)⟩,
 ⟨(some 16), none, .nilchk (.tmp 7)⟩,
 ⟨(some 17), none, .faddr 0 (.tmp 16)⟩,
 ⟨none, none, .store 1 (.tmp 17) (.tmp 15)⟩])
 (.seq
 (.ops [
 ⟨(some 6), none, .mov (.const (.int 0))⟩])
 (.block 0
 (.loop
 (.seq
 (.seq
 (.ops [
 ⟨(some 18), none, .mov (.tmp 6)⟩,
 ⟨(some 19), none, .mov (.tmp 1)⟩,
 ⟨(some 20), none, .len .sl (.tmp 19)⟩,
 ⟨(some 21), none, .bin .lss 3 (.tmp 18) (.tmp 20)⟩])
 (.cond (.tmp 21)
 .skip
 (.exit 0)))
 (.seq
 (.block 1
 (.ops [
 ⟨(some 24), none, .mov (.tmp 2)⟩,
 ⟨(some 25), none, .mov (.tmp 0)⟩,
 ⟨(some 26), none, .mov (.tmp 1)⟩,
 ⟨(some 27), none, .mov (.tmp 6)⟩,
 ⟨(some 28), none, .iaddr 4 (.tmp 26) (.tmp 27)⟩,
 ⟨(some 29), none, .load true 4 (.tmp 28)⟩,
 ⟨(some 30), none, .callv (.tmp 24) [(.tmp 25), (.tmp 29)]⟩]))
 (.ops [
 ⟨(some 22), none, .mov (.tmp 6)⟩,
 ⟨(some 23), none, .bin .add 3 (.tmp 22) (.const (.int 1))⟩,
 ⟨(some 6), none, .mov (.tmp 23)⟩])))))))

theorem c77 : compF Try.prog 77 = some (31, [], k77) := by
 unfold compF; rw [Try.func77]; kernel_rfl

noncomputable abbrev k78 : CC :=
 (.seq
 (.ops [
 ⟨(some 3), none, .box (.tmp 1)⟩])
 (.seq
 (.ops [
 ⟨(some 4), none, .mov (.tmp 0)⟩,
 ⟨(some 5), none, .faddr 0 (.tmp 3)⟩,
 ⟨(some 6), none, .load false 1 (.tmp 5)⟩,
 ⟨(some 7), none, .call 8 [(.tmp 4), (.tmp 6)]⟩])
 (.seq
 (.ops [
 ⟨(some 8), none, .mov (.tmp 0)⟩,
 ⟨(some 9), none, .faddr 1 (.tmp 3)⟩,
 ⟨(some 10), none, .load false 1 (.tmp 9)⟩,
 ⟨(some 11), none, .call 8 [(.tmp 8), (.tmp 10)]⟩])
 (.seq
 (.ops [
 ⟨(some 12), none, .mov (.tmp 0)⟩,
 ⟨(some 13), none, .faddr 2 (.tmp 3)⟩,
 ⟨(some 14), none, .load false 1 (.tmp 13)⟩,
 ⟨(some 15), none, .call 8 [(.tmp 12), (.tmp 14)]⟩])
 (.ops [
 ⟨(some 16), none, .mov (.tmp 0)⟩,
 ⟨(some 17), none, .faddr 3 (.tmp 3)⟩,
 ⟨(some 18), none, .load false 1 (.tmp 17)⟩,
 ⟨(some 19), none, .call 8 [(.tmp 16), (.tmp 18)]⟩])))))

theorem c78 : compF Try.prog 78 = some (20, [], k78) := by
 unfold compF; rw [Try.func78]; kernel_rfl

noncomputable abbrev k79 : CC :=
 (.seq
 (.ops [
 ⟨(some 7), none, .mov (.tmp 0)⟩,
 ⟨(some 8), none, .mov (.tmp 0)⟩,
 ⟨(some 9), none, .nilchk (.tmp 8)⟩,
 ⟨(some 10), none, .faddr 0 (.tmp 9)⟩,
 ⟨(some 11), none, .load false 1 (.tmp 10)⟩,
 ⟨(some 12), none, .mov (.tmp 1)⟩,
 ⟨(some 13), none, .len .sl (.tmp 12)⟩,
 ⟨(some 14), none, .lit [(.int 0)] 1 [(0, 1, (.tmp 13))]⟩,
 ⟨(some 15), none, .append 1 8 [(.int 0)] (.tmp 11) (.tmp 14)⟩,
 ⟨(some 16), none, .nilchk (.tmp 7)⟩,
 ⟨(some 17), none, .faddr 0 (.tmp 16)⟩,
 ⟨none, none, .store 1 (.tmp 17) (.tmp 15)⟩])
 (.seq
 (.ops [
 ⟨(some 6), none, .mov (.const (.int 0))⟩])
 (.block 0
 (.loop
 (.seq
 (.seq
 (.ops [
 ⟨(some 18), none, .mov (.tmp 6)⟩,
 ⟨(some 19), none, .mov (.tmp 1)⟩,
 ⟨(some 20), none, .len .sl (.tmp 19)⟩,
 ⟨(some 21), none, .bin .lss 3 (.tmp 18) (.tmp 20)⟩])
 (.cond (.tmp 21)
 .skip
 (.exit 0)))
 (.seq
 (.block 1
 (.ops [
 ⟨(some 24), none, .mov (.tmp 2)⟩,
 ⟨(some 25), none, .mov (.tmp 0)⟩,
 ⟨(some 26), none, .mov (.tmp 1)⟩,
 ⟨(some 27), none, .mov (.tmp 6)⟩,
 ⟨(some 28), none, .iaddr 2 (.tmp 26) (.tmp 27)⟩,
 ⟨(some 29), none, .load true 2 (.tmp 28)⟩,
 ⟨(some 30), none, .callv (.tmp 24) [(.tmp 25), (.tmp 29)]⟩]))
 (.ops [
 ⟨(some 22), none, .mov (.tmp 6)⟩,
 ⟨(some 23), none, .bin .add 3 (.tmp 22) (.const (.int 1))⟩,
 ⟨(some 6), none, .mov (.tmp 23)⟩])))))))

theorem c79 : compF Try.prog 79 = some (31, [], k79) := by
 unfold compF; rw [Try.func79]; kernel_rfl

noncomputable abbrev k80 : CC :=
 (.seq
 (.ops [
 ⟨(some 3), none, .box (.tmp 1)⟩])
 (.seq
 (.ops [
 ⟨(some 4), none, .mov (.tmp 0)⟩,
 ⟨(some 5), none, .faddr 0 (.tmp 3)⟩,
 ⟨(some 6), none, .load false 1 (.tmp 5)⟩,
 ⟨(some 7), none, .call 8 [(.tmp 4), (.tmp 6)]⟩])
 (.ops [
 ⟨(some 8), none, .mov (.tmp 0)⟩,
 ⟨(some 9), none, .faddr 1 (.tmp 3)⟩,
 ⟨(some 10), none, .load false 1 (.tmp 9)⟩,
 ⟨(some 11), none, .call 8 [(.tmp 8), (.tmp 10)]⟩])))

theorem c80 : compF Try.prog 80 = some (12, [], k80) := by
 unfold compF; rw [Try.func80]; kernel_rfl

noncomputable abbrev k81 : CC :=
 (.seq
 (.ops [
 ⟨(some 4), none, .mov (.const (.int 0))⟩])
 (.seq
 (.seq
 (.ops [
 ⟨(some 6), none, .mov (.tmp 0)⟩,
 ⟨(some 7), none, .len .sl (.tmp 6)⟩,
 ⟨(some 8), none, .mov (.const (.int 0))⟩])
 (.block 0
 (.loop
 (.seq
 (.ops [
 ⟨(some 9), none, .bin .lss 3 (.tmp 8) (.tmp 7)⟩])
 (.seq
 (.cond (.tmp 9)
 .skip
 (.exit 0))
 (.seq
 (.block 1
 (.seq
 (.ops [
 ⟨(some 10), none, .mov (.tmp 8)⟩,
 ⟨(some 5), none, .mov (.tmp 10)⟩])
 (.seq
 (.ops [
 ⟨(some 11), none, .mov (.tmp 1)⟩,
 ⟨(some 12), none, .mov (.tmp 0)⟩,
 ⟨(some 13), none, .mov (.tmp 5)⟩,
 ⟨(some 14), none, .iaddr 1 (.tmp 12) (.tmp 13)⟩,
 ⟨(some 15), none, .load false 1 (.tmp 14)⟩,
 ⟨(some 16), none, .callv (.tmp 11) [(.tmp 15)]⟩])
 (.cond (.tmp 16)
 (.seq
 (.ops [
 ⟨(some 17), none, .mov (.tmp 5)⟩,
 ⟨(some 4), none, .mov (.tmp 17)⟩])
 .ret)
 .skip))))
 (.ops [
 ⟨(some 18), none, .bin .add 3 (.tmp 8) (.const (.int 1))⟩,
 ⟨(some 8), none, .mov (.tmp 18)⟩])))))))
 (.seq
 (.ops [
 ⟨(some 4), none, .mov (.const (.int (-1)))⟩])
 .ret)))

theorem c81 : compF Try.prog 81 = some (19, [.tmp 4], k81) := by
 unfold compF; rw [Try.func81]; kernel_rfl

noncomputable abbrev k82 : CC :=
 (.seq
 (.ops [
 ⟨(some 4), none, .mov (.const (.bool false))⟩])
 (.seq
 (.ops [
 ⟨(some 5), none, .mov (.tmp 0)⟩,
 ⟨(some 6), none, .load false 1 (.tmp 1)⟩,
 ⟨(some 7), none, .bin .lss 3 (.tmp 5) (.tmp 6)⟩,
 ⟨(some 8), none, .mov (.tmp 7)⟩,
 ⟨(some 9), (some (8, false)), .mov (.tmp 0)⟩,
 ⟨(some 10), (some (8, false)), .load false 1 (.tmp 2)⟩,
 ⟨(some 11), (some (8, false)), .bin .gtr 3 (.tmp 9) (.tmp 10)⟩,
 ⟨(some 12), none, .pick (.tmp 8) (.const (.bool true)) (.tmp 11)⟩,
 ⟨(some 4), none, .mov (.tmp 12)⟩])
 .ret))

theorem c82 : compF Try.prog 82 = some (13, [.tmp 4], k82) := by
 unfold compF; rw [Try.func82]; kernel_rfl

noncomputable abbrev k83 : CC :=
 (.seq
 (.ops [
 ⟨(some 2), none, .box (.tmp 0)⟩])
 (.seq
 (.ops [
 ⟨(some 3), none, .alloc [(.v .nilFunc)]⟩])
 (.seq
 (.ops [
 ⟨(some 5), none, .mkfn 84 [] [(.tmp 2), (.tmp 1), (.tmp 3)]⟩,
 ⟨none, none, .store 1 (.tmp 3) (.tmp 5)⟩])
 (.seq
 (.ops [
 ⟨(some 6), none, .load false 1 (.tmp 1)⟩,
 ⟨(some 7), none, .len .sl (.tmp 6)⟩,
 ⟨(some 8), none, .bin .add 3 (.tmp 7) (.const (.int 1))⟩,
 ⟨(some 9), none, .mov (.const (.int 0))⟩])
 (.block 0
 (.loop
 (.seq
 (.ops [
 ⟨(some 10), none, .bin .lss 3 (.tmp 9) (.tmp 8)⟩])
 (.seq
 (.cond (.tmp 10)
 .skip
 (.exit 0))
 (.seq
 (.block 1
 (.seq
 (.ops [
 ⟨(some 11), none, .mov (.tmp 9)⟩,
 ⟨(some 4), none, .mov (.tmp 11)⟩])
 (.seq
 (.ops [
 ⟨(some 12), none, .load false 1 (.tmp 3)⟩,
 ⟨(some 13), none, .mov (.tmp 4)⟩,
 ⟨(some 14), none, .callv (.tmp 12) [(.const (.int 0)), (.tmp 13), (.const (.int 0))]⟩,
 ⟨(some 15), none, .un .not (.tmp 14)⟩])
 (.cond (.tmp 15)
 .ret
 .skip))))
 (.ops [
 ⟨(some 16), none, .bin .add 3 (.tmp 9) (.const (.int 1))⟩,
 ⟨(some 9), none, .mov (.tmp 16)⟩]))))))))))

theorem c83 : compF Try.prog 83 = some (17, [], k83) := by
 unfold compF; rw [Try.func83]; kernel_rfl

noncomputable abbrev k84 : CC :=
 (.seq
 (.ops [
 ⟨(some 9), none, .mov (.const (.bool false))⟩])
 (.seq
 (.seq
 (.ops [
 ⟨(some 11), none, .mov (.tmp 1)⟩,
 ⟨(some 12), none, .bin .eql 3 (.tmp 11) (.const (.int 0))⟩])
 (.cond (.tmp 12)
 (.seq
 (.ops [
 ⟨(some 13), none, .load false 1 (.tmp 3)⟩,
 ⟨(some 14), none, .mov (.tmp 2)⟩,
 ⟨(some 15), none, .callv (.tmp 13) [(.tmp 14)]⟩,
 ⟨(some 9), none, .mov (.tmp 15)⟩])
 .ret)
 .skip))
 (.seq
 (.seq
 (.ops [
 ⟨(some 16), none, .mov (.tmp 0)⟩,
 ⟨(some 10), none, .mov (.tmp 16)⟩])
 (.block 0
 (.loop
 (.seq
 (.seq
 (.ops [
 ⟨(some 17), none, .mov (.tmp 10)⟩,
 ⟨(some 18), none, .load false 1 (.tmp 4)⟩,
 ⟨(some 19), none, .len .sl (.tmp 18)⟩,
 ⟨(some 20), none, .mov (.tmp 1)⟩,
 ⟨(some 21), none, .bin .sub 3 (.tmp 19) (.tmp 20)⟩,
 ⟨(some 22), none, .bin .leq 3 (.tmp 17) (.tmp 21)⟩])
 (.cond (.tmp 22)
 .skip
 (.exit 0)))
 (.seq
 (.block 1
 (.seq
 (.draw [
 ⟨(some 25), none, .load false 1 (.tmp 5)⟩,
 ⟨(some 26), none, .mov (.tmp 10)⟩,
 ⟨(some 27), none, .bin .add 3 (.tmp 26) (.const (.int 1))⟩,
 ⟨(some 28), none, .mov (.tmp 1)⟩,
 ⟨(some 29), none, .bin .sub 3 (.tmp 28) (.const (.int 1))⟩,
 ⟨(some 30), none, .mov (.tmp 2)⟩,
 ⟨(some 31), none, .load false 1 (.tmp 4)⟩,
 ⟨(some 32), none, .mov (.tmp 10)⟩,
 ⟨(some 33), none, .iaddr 1 (.tmp 31) (.tmp 32)⟩,
 ⟨(some 34), none, .load false 1 (.tmp 33)⟩,
 ⟨(some 35), none, .bin .shl 3 (.const (.int 1)) (.tmp 34)⟩,
 ⟨(some 36), none, .bin .or 3 (.tmp 30) (.tmp 35)⟩,
 ⟨(some 37), none, .callv (.tmp 25) [(.tmp 27), (.tmp 29), (.tmp 36)]⟩,
 ⟨(some 38), none, .un .not (.tmp 37)⟩] [[], [], [1], [], [3], [], [], [], [6, 7], [8, 6, 7], [9, 8, 6, 7], [5, 10, 9, 8, 6, 7], [0, 2, 4, 11, 1, 3, 5, 10, 9, 8, 6, 7], [12, 0, 2, 4, 11, 1, 3, 5, 10, 9, 8, 6, 7]])
 (.cond (.tmp 38)
 (.seq
 (.ops [
 ⟨(some 9), none, .mov (.const (.bool false))⟩])
 .ret)
 .skip)))
 (.ops [
 ⟨(some 23), none, .mov (.tmp 10)⟩,
 ⟨(some 24), none, .bin .add 3 (.tmp 23) (.const (.int 1))⟩,
 ⟨(some 10), none, .mov (.tmp 24)⟩]))))))
 (.seq
 (.ops [
 ⟨(some 9), none, .mov (.const (.bool true))⟩])
 .ret))))

theorem c84 : compF Try.prog 84 = some (39, [.tmp 9], k84) := by
 unfold compF; rw [Try.func84]; kernel_rfl

noncomputable def tab : Fns := [(2, 1, [], k2), (3, 49, [.tmp 2], k3), (4, 28, [], k4), (5, 15, [.tmp 2], k5), (6, 23, [.tmp 3], k6), (7, 85, [.tmp 2, .tmp 3, .tmp 4], k7), (8, 14, [], k8), (9, 14, [], k9), (10, 0, [], k10), (11, 19, [.tmp 3], k11), (12, 48, [.tmp 2, .tmp 3], k12), (13, 7, [], k13), (14, 2, [], k14), (15, 6, [], k15), (16, 23, [.tmp 3], k16), (17, 39, [.tmp 6, .tmp 7], k17), (18, 2, [], k18), (19, 23, [.tmp 3], k19), (20, 56, [.tmp 6, .tmp 7], k20), (21, 2, [], k21), (22, 21, [.tmp 3], k22), (23, 32, [.tmp 4, .tmp 5], k23), (24, 2, [], k24), (25, 23, [.tmp 3], k25), (26, 44, [.tmp 6, .tmp 7], k26), (27, 2, [], k27), (28, 23, [.tmp 3], k28), (29, 44, [.tmp 6, .tmp 7], k29), (30, 2, [], k30), (31, 21, [.tmp 3], k31), (32, 54, [.tmp 4, .tmp 5], k32), (33, 2, [], k33), (34, 59, [.tmp 4], k34), (35, 178, [.tmp 0], k35), (36, 28, [], k36), (37, 10, [.tmp 6], k37), (38, 25, [.tmp 4, .tmp 5], k38), (39, 17, [.tmp 5], k39), (40, 41, [.tmp 2], k40), (41, 9, [.tmp 4], k41), (42, 25, [.tmp 4, .tmp 5], k42), (43, 54, [.tmp 8], k43), (44, 25, [.tmp 4, .tmp 5], k44), (45, 27, [.tmp 6], k45), (46, 40, [.tmp 4, .tmp 5], k46), (47, 31, [], k47), (48, 16, [], k48), (49, 4, [], k49), (50, 36, [.tmp 4, .tmp 5], k50), (51, 20, [.tmp 2], k51), (52, 42, [.tmp 6], k52), (53, 19, [.tmp 4], k53), (54, 14, [.tmp 3], k54), (55, 16, [.cell 4 27, .cell 5 4], k55), (56, 14, [.tmp 2], k56), (57, 13, [.tmp 5], k57), (58, 82, [.tmp 4], k58), (59, 12, [.tmp 4], k59), (60, 15, [.tmp 5], k60), (61, 12, [.tmp 4], k61), (62, 10, [.cell 0 26], k62), (63, 22, [.tmp 4], k63), (64, 7, [], k64), (65, 7, [], k65), (66, 7, [], k66), (67, 9, [.tmp 4], k67), (68, 13, [.tmp 4], k68), (69, 10, [.tmp 6], k69), (70, 19, [.tmp 4], k70), (71, 46, [.tmp 2], k71), (72, 19, [.tmp 6], k72), (73, 4, [.tmp 2], k73), (74, 48, [.tmp 4], k74), (75, 31, [], k75), (76, 14, [], k76), (77, 31, [], k77), (78, 20, [], k78), (79, 31, [], k79), (80, 12, [], k80), (81, 19, [.tmp 4], k81), (82, 13, [.tmp 4], k82), (83, 17, [], k83), (84, 39, [.tmp 9], k84)]
theorem tab_ok : ∀ p ∈ tab, compF Try.prog p.1 = some p.2 :=
 (List.forall_mem_cons.2 ⟨c2, (List.forall_mem_cons.2 ⟨c3, (List.forall_mem_cons.2 ⟨c4, (List.forall_mem_cons.2 ⟨c5, (List.forall_mem_cons.2 ⟨c6, (List.forall_mem_cons.2 ⟨c7, (List.forall_mem_cons.2 ⟨c8, (List.forall_mem_cons.2 ⟨c9, (List.forall_mem_cons.2 ⟨c10, (List.forall_mem_cons.2 ⟨c11, (List.forall_mem_cons.2 ⟨c12, (List.forall_mem_cons.2 ⟨c13, (List.forall_mem_cons.2 ⟨c14, (List.forall_mem_cons.2 ⟨c15, (List.forall_mem_cons.2 ⟨c16, (List.forall_mem_cons.2 ⟨c17, (List.forall_mem_cons.2 ⟨c18, (List.forall_mem_cons.2 ⟨c19, (List.forall_mem_cons.2 ⟨c20, (List.forall_mem_cons.2 ⟨c21, (List.forall_mem_cons.2 ⟨c22, (List.forall_mem_cons.2 ⟨c23, (List.forall_mem_cons.2 ⟨c24, (List.forall_mem_cons.2 ⟨c25, (List.forall_mem_cons.2 ⟨c26, (List.forall_mem_cons.2 ⟨c27, (List.forall_mem_cons.2 ⟨c28, (List.forall_mem_cons.2 ⟨c29, (List.forall_mem_cons.2 ⟨c30, (List.forall_mem_cons.2 ⟨c31, (List.forall_mem_cons.2 ⟨c32, (List.forall_mem_cons.2 ⟨c33, (List.forall_mem_cons.2 ⟨c34, (List.forall_mem_cons.2 ⟨c35, (List.forall_mem_cons.2 ⟨c36, (List.forall_mem_cons.2 ⟨c37, (List.forall_mem_cons.2 ⟨c38, (List.forall_mem_cons.2 ⟨c39, (List.forall_mem_cons.2 ⟨c40, (List.forall_mem_cons.2 ⟨c41, (List.forall_mem_cons.2 ⟨c42, (List.forall_mem_cons.2 ⟨c43, (List.forall_mem_cons.2 ⟨c44, (List.forall_mem_cons.2 ⟨c45, (List.forall_mem_cons.2 ⟨c46, (List.forall_mem_cons.2 ⟨c47, (List.forall_mem_cons.2 ⟨c48, (List.forall_mem_cons.2 ⟨c49, (List.forall_mem_cons.2 ⟨c50, (List.forall_mem_cons.2 ⟨c51, (List.forall_mem_cons.2 ⟨c52, (List.forall_mem_cons.2 ⟨c53, (List.forall_mem_cons.2 ⟨c54, (List.forall_mem_cons.2 ⟨c55, (List.forall_mem_cons.2 ⟨c56, (List.forall_mem_cons.2 ⟨c57, (List.forall_mem_cons.2 ⟨c58, (List.forall_mem_cons.2 ⟨c59, (List.forall_mem_cons.2 ⟨c60, (List.forall_mem_cons.2 ⟨c61, (List.forall_mem_cons.2 ⟨c62, (List.forall_mem_cons.2 ⟨c63, (List.forall_mem_cons.2 ⟨c64, (List.forall_mem_cons.2 ⟨c65, (List.forall_mem_cons.2 ⟨c66, (List.forall_mem_cons.2 ⟨c67, (List.forall_mem_cons.2 ⟨c68, (List.forall_mem_cons.2 ⟨c69, (List.forall_mem_cons.2 ⟨c70, (List.forall_mem_cons.2 ⟨c71, (List.forall_mem_cons.2 ⟨c72, (List.forall_mem_cons.2 ⟨c73, (List.forall_mem_cons.2 ⟨c74, (List.forall_mem_cons.2 ⟨c75, (List.forall_mem_cons.2 ⟨c76, (List.forall_mem_cons.2 ⟨c77, (List.forall_mem_cons.2 ⟨c78, (List.forall_mem_cons.2 ⟨c79, (List.forall_mem_cons.2 ⟨c80, (List.forall_mem_cons.2 ⟨c81, (List.forall_mem_cons.2 ⟨c82, (List.forall_mem_cons.2 ⟨c83, (List.forall_mem_cons.2 ⟨c84, (by simp)⟩)⟩)⟩)⟩)⟩)⟩)⟩)⟩)⟩)⟩)⟩)⟩)⟩)⟩)⟩)⟩)⟩)⟩)⟩)⟩)⟩)⟩)⟩)⟩)⟩)⟩)⟩)⟩)⟩)⟩)⟩)⟩)⟩)⟩)⟩)⟩)⟩)⟩)⟩)⟩)⟩)⟩)⟩)⟩)⟩)⟩)⟩)⟩)⟩)⟩)⟩)⟩)⟩)⟩)⟩)⟩)⟩)⟩)⟩)⟩)⟩)⟩)⟩)⟩)⟩)⟩)⟩)⟩)⟩)⟩)⟩)⟩)⟩)⟩)⟩)⟩)⟩)⟩)⟩)⟩)⟩)⟩)⟩)

end Go.Proofs.Ytbekogkbdmaobaa
