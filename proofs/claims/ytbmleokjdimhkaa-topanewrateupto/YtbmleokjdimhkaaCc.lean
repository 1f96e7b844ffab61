/- The resolved code of each function, checked by the kernel. No conditions. -/
import Derived.Test.YtbmleokjdimhkaaChecked
import Derived.Test.YtbmleokjdimhkaaFf
namespace Go.Proofs.Ytbmleokjdimhkaa
open Go Go.EF Go.Proofs.Ytbmleokjdimhkaa
set_option maxRecDepth 100000

noncomputable abbrev k2 : CC :=
 (.ops [
 ⟨(some 0), none, .call 1 []⟩])

theorem c2 : compF Try.prog 2 = some (1, [], k2) := by
 unfold compF; rw [Try.func2]; kernel_rfl

noncomputable abbrev k3 : CC :=
 (.seq
 (.ops [
 ⟨(some 1), none, .box (.tmp 0)⟩,
 ⟨(some 2), none, .mov (.const (.bool false))⟩])
 (.seq
 (.ops [
 ⟨(some 3), none, .alloc [(.list .exact [] 0), (.list .exact [] 0)]⟩,
 ⟨(some 4), none, .alloc [(.list .exact [] 0), (.list .exact [] 0)]⟩])
 (.seq
 (.ops [
 ⟨(some 6), none, .load true 10 (.tmp 1)⟩,
 ⟨(some 7), none, .call 4 [(.tmp 6), (.tmp 3)]⟩])
 (.seq
 (.ops [
 ⟨(some 8), none, .mkfn 6 [] [(.tmp 1)]⟩,
 ⟨(some 9), none, .call 5 [(.tmp 8)]⟩,
 ⟨(some 10), none, .mov (.tmp 9)⟩,
 ⟨(some 11), (some (10, true)), .mkfn 11 [] [(.tmp 1)]⟩,
 ⟨(some 12), (some (10, true)), .call 5 [(.tmp 11)]⟩,
 ⟨(some 13), none, .pick (.tmp 10) (.tmp 12) (.const (.bool false))⟩,
 ⟨(some 14), none, .mov (.tmp 13)⟩,
 ⟨(some 15), (some (14, true)), .mkfn 16 [] [(.tmp 1)]⟩,
 ⟨(some 16), (some (14, true)), .call 5 [(.tmp 15)]⟩,
 ⟨(some 17), none, .pick (.tmp 14) (.tmp 16) (.const (.bool false))⟩,
 ⟨(some 18), none, .mov (.tmp 17)⟩,
 ⟨(some 19), (some (18, true)), .mkfn 19 [] [(.tmp 1)]⟩,
 ⟨(some 20), (some (18, true)), .call 5 [(.tmp 19)]⟩,
 ⟨(some 21), none, .pick (.tmp 18) (.tmp 20) (.const (.bool false))⟩,
 ⟨(some 22), none, .mov (.tmp 21)⟩,
 ⟨(some 23), (some (22, true)), .mkfn 21 [] [(.tmp 1)]⟩,
 ⟨(some 24), (some (22, true)), .call 5 [(.tmp 23)]⟩,
 ⟨(some 25), none, .pick (.tmp 22) (.tmp 24) (.const (.bool false))⟩,
 ⟨(some 26), none, .mov (.tmp 25)⟩,
 ⟨(some 27), (some (26, true)), .mkfn 23 [] [(.tmp 1)]⟩,
 ⟨(some 28), (some (26, true)), .call 5 [(.tmp 27)]⟩,
 ⟨(some 29), none, .pick (.tmp 26) (.tmp 28) (.const (.bool false))⟩,
 ⟨(some 30), none, .mov (.tmp 29)⟩,
 ⟨(some 31), (some (30, true)), .mkfn 26 [] [(.tmp 1)]⟩,
 ⟨(some 32), (some (30, true)), .call 5 [(.tmp 31)]⟩,
 ⟨(some 33), none, .pick (.tmp 30) (.tmp 32) (.const (.bool false))⟩,
 ⟨(some 34), none, .mov (.tmp 33)⟩,
 ⟨(some 35), (some (34, true)), .mkfn 28 [] [(.tmp 1)]⟩,
 ⟨(some 36), (some (34, true)), .call 5 [(.tmp 35)]⟩,
 ⟨(some 37), none, .pick (.tmp 34) (.tmp 36) (.const (.bool false))⟩,
 ⟨(some 5), none, .mov (.tmp 37)⟩])
 (.seq
 (.ops [
 ⟨(some 38), none, .load true 10 (.tmp 1)⟩,
 ⟨(some 39), none, .call 4 [(.tmp 38), (.tmp 4)]⟩])
 (.seq
 (.ops [
 ⟨(some 40), none, .mov (.tmp 5)⟩,
 ⟨(some 41), none, .mov (.tmp 40)⟩,
 ⟨(some 42), (some (41, true)), .load true 2 (.tmp 3)⟩,
 ⟨(some 43), (some (41, true)), .load true 2 (.tmp 4)⟩,
 ⟨(some 44), (some (41, true)), .call 30 [(.tmp 42), (.tmp 43)]⟩,
 ⟨(some 45), none, .pick (.tmp 41) (.tmp 44) (.const (.bool false))⟩,
 ⟨(some 46), none, .mov (.tmp 45)⟩,
 ⟨(some 47), (some (46, true)), .call 31 []⟩,
 ⟨(some 48), none, .pick (.tmp 46) (.tmp 47) (.const (.bool false))⟩,
 ⟨(some 2), none, .mov (.tmp 48)⟩])
 .ret))))))

theorem c3 : compF Try.prog 3 = some (49, [.tmp 2], k3) := by
 unfold compF; rw [Try.func3]; kernel_rfl

noncomputable abbrev k4 : CC :=
 (.seq
 (.ops [
 ⟨(some 2), none, .box (.tmp 0)⟩])
 (.seq
 (.ops [
 ⟨(some 4), none, .mov (.tmp 1)⟩,
 ⟨(some 5), none, .faddr 0 (.tmp 2)⟩,
 ⟨(some 6), none, .load true 5 (.tmp 5)⟩,
 ⟨(some 7), none, .call 32 [(.tmp 4), (.tmp 6)]⟩])
 (.seq
 (.ops [
 ⟨(some 8), none, .mov (.tmp 1)⟩,
 ⟨(some 9), none, .faddr 5 (.tmp 2)⟩,
 ⟨(some 10), none, .load false 1 (.tmp 9)⟩,
 ⟨(some 11), none, .call 8 [(.tmp 8), (.tmp 10)]⟩])
 (.seq
 (.ops [
 ⟨(some 12), none, .mov (.tmp 1)⟩,
 ⟨(some 13), none, .faddr 6 (.tmp 2)⟩,
 ⟨(some 14), none, .load false 1 (.tmp 13)⟩,
 ⟨(some 15), none, .call 8 [(.tmp 12), (.tmp 14)]⟩])
 (.seq
 (.ops [
 ⟨(some 16), none, .mov (.tmp 1)⟩,
 ⟨(some 17), none, .faddr 7 (.tmp 2)⟩,
 ⟨(some 18), none, .load false 1 (.tmp 17)⟩,
 ⟨(some 19), none, .call 8 [(.tmp 16), (.tmp 18)]⟩])
 (.seq
 (.ops [
 ⟨(some 20), none, .mov (.tmp 1)⟩,
 ⟨(some 21), none, .faddr 8 (.tmp 2)⟩,
 ⟨(some 22), none, .load false 1 (.tmp 21)⟩,
 ⟨(some 23), none, .call 8 [(.tmp 20), (.tmp 22)]⟩])
 (.ops [
 ⟨(some 24), none, .mov (.tmp 1)⟩,
 ⟨(some 25), none, .faddr 9 (.tmp 2)⟩,
 ⟨(some 26), none, .load false 1 (.tmp 25)⟩,
 ⟨(some 27), none, .call 8 [(.tmp 24), (.tmp 26)]⟩])))))))

theorem c4 : compF Try.prog 4 = some (28, [], k4) := by
 unfold compF; rw [Try.func4]; kernel_rfl

noncomputable abbrev k5 : CC :=
 (.seq
 (.ops [
 ⟨(some 2), none, .mov (.const (.bool false))⟩])
 (.seq
 (.ops [
 ⟨(some 3), none, .alloc [(.list .exact [] 0), (.list .exact [] 0)]⟩,
 ⟨(some 4), none, .alloc [(.list .exact [] 0), (.list .exact [] 0)]⟩])
 (.seq
 (.ops [
 ⟨(some 6), none, .mov (.tmp 0)⟩,
 ⟨(some 7), none, .callv (.tmp 6) [(.tmp 3)]⟩,
 ⟨(some 5), none, .mov (.tmp 7)⟩])
 (.seq
 (.ops [
 ⟨(some 8), none, .mov (.tmp 5)⟩,
 ⟨(some 9), none, .callv (.tmp 8) []⟩])
 (.seq
 (.ops [
 ⟨(some 10), none, .mov (.tmp 0)⟩,
 ⟨(some 11), none, .callv (.tmp 10) [(.tmp 4)]⟩])
 (.seq
 (.ops [
 ⟨(some 12), none, .load true 2 (.tmp 3)⟩,
 ⟨(some 13), none, .load true 2 (.tmp 4)⟩,
 ⟨(some 14), none, .call 30 [(.tmp 12), (.tmp 13)]⟩,
 ⟨(some 2), none, .mov (.tmp 14)⟩])
 .ret))))))

theorem c5 : compF Try.prog 5 = some (15, [.tmp 2], k5) := by
 unfold compF; rw [Try.func5]; kernel_rfl

noncomputable abbrev k6 : CC :=
 (.seq
 (.ops [
 ⟨(some 3), none, .mov (.const (.v .nilFunc))⟩])
 (.seq
 (.ops [
 ⟨(some 8), none, .faddr 0 (.tmp 1)⟩,
 ⟨(some 9), none, .load true 5 (.tmp 8)⟩,
 ⟨(some 10), none, .call 7 [(.tmp 9)]⟩,
 ⟨(some 7), none, .mov (.tmp 10)⟩,
 ⟨(some 11), none, .extract (.tmp 7) 0⟩,
 ⟨(some 12), none, .extract (.tmp 7) 1⟩,
 ⟨(some 13), none, .extract (.tmp 7) 2⟩,
 ⟨(some 4), none, .mov (.tmp 11)⟩,
 ⟨(some 5), none, .mov (.tmp 12)⟩,
 ⟨(some 6), none, .mov (.tmp 13)⟩])
 (.seq
 (.ops [
 ⟨(some 14), none, .mov (.tmp 0)⟩,
 ⟨(some 15), none, .mov (.tmp 4)⟩,
 ⟨(some 16), none, .call 8 [(.tmp 14), (.tmp 15)]⟩])
 (.seq
 (.ops [
 ⟨(some 17), none, .mov (.tmp 0)⟩,
 ⟨(some 18), none, .mov (.tmp 5)⟩,
 ⟨(some 19), none, .call 8 [(.tmp 17), (.tmp 18)]⟩])
 (.seq
 (.ops [
 ⟨(some 20), none, .mov (.tmp 0)⟩,
 ⟨(some 21), none, .mov (.tmp 6)⟩,
 ⟨(some 22), none, .call 9 [(.tmp 20), (.tmp 21)]⟩])
 (.seq
 (.ops [
 ⟨(some 3), none, .mov (.const (.fn 10 [] []))⟩])
 .ret))))))

theorem c6 : compF Try.prog 6 = some (23, [.tmp 3], k6) := by
 unfold compF; rw [Try.func6]; kernel_rfl

noncomputable abbrev k7 : CC :=
 (.seq
 (.ops [
 ⟨(some 1), none, .box (.tmp 0)⟩,
 ⟨(some 2), none, .mov (.const (.int 0))⟩,
 ⟨(some 3), none, .mov (.const (.int 0))⟩,
 ⟨(some 4), none, .mov (.const (.int 0))⟩])
 (.seq
 (.block 0
 (.seq
 (.ops [
 ⟨(some 6), none, .faddr 0 (.tmp 1)⟩,
 ⟨(some 7), none, .load false 1 (.tmp 6)⟩,
 ⟨(some 8), none, .lit [(.int 0)] 1 [(0, 1, (.tmp 7))]⟩,
 ⟨(some 9), none, .call 33 [(.const (.int 1)), (.const (.int 3)), (.tmp 8)]⟩,
 ⟨(some 5), none, .mov (.tmp 9)⟩])
 (.cond (.tmp 5)
 (.seq
 (.ops [
 ⟨(some 2), none, .mov (.const (.int 1))⟩,
 ⟨(some 3), none, .mov (.const (.int 0))⟩,
 ⟨(some 4), none, .mov (.const (.int 7))⟩])
 .ret)
 (.seq
 (.ops [
 ⟨(some 11), none, .faddr 1 (.tmp 1)⟩,
 ⟨(some 12), none, .load false 1 (.tmp 11)⟩,
 ⟨(some 13), none, .len .sl (.tmp 12)⟩,
 ⟨(some 14), none, .faddr 0 (.tmp 1)⟩,
 ⟨(some 15), none, .load false 1 (.tmp 14)⟩,
 ⟨(some 16), none, .bin .neq 3 (.tmp 13) (.tmp 15)⟩,
 ⟨(some 10), none, .mov (.tmp 16)⟩])
 (.cond (.tmp 10)
 (.seq
 (.ops [
 ⟨(some 2), none, .mov (.const (.int 2))⟩,
 ⟨(some 3), none, .mov (.const (.int 0))⟩,
 ⟨(some 4), none, .mov (.const (.int 3))⟩])
 .ret)
 .skip)))))
 (.seq
 (.ops [
 ⟨(some 18), none, .faddr 1 (.tmp 1)⟩,
 ⟨(some 19), none, .load false 1 (.tmp 18)⟩,
 ⟨(some 20), none, .call 34 [(.tmp 19), (.const (.fn 35 [] []))]⟩,
 ⟨(some 17), none, .mov (.tmp 20)⟩,
 ⟨(some 21), none, .extract (.tmp 17) 0⟩,
 ⟨(some 22), none, .extract (.tmp 17) 1⟩,
 ⟨(some 3), none, .mov (.tmp 21)⟩,
 ⟨(some 4), none, .mov (.tmp 22)⟩])
 (.seq
 (.block 1
 (.seq
 (.ops [
 ⟨(some 24), none, .mov (.tmp 4)⟩,
 ⟨(some 25), none, .bin .neq 36 (.tmp 24) (.const (.int 0))⟩,
 ⟨(some 23), none, .mov (.tmp 25)⟩])
 (.cond (.tmp 23)
 (.seq
 (.ops [
 ⟨(some 26), none, .mov (.tmp 3)⟩,
 ⟨(some 27), none, .mov (.tmp 4)⟩,
 ⟨(some 2), none, .mov (.const (.int 2))⟩,
 ⟨(some 3), none, .mov (.tmp 26)⟩,
 ⟨(some 4), none, .mov (.tmp 27)⟩])
 .ret)
 (.seq
 (.ops [
 ⟨(some 29), none, .faddr 2 (.tmp 1)⟩,
 ⟨(some 30), none, .load false 1 (.tmp 29)⟩,
 ⟨(some 31), none, .lit [(.int 0)] 1 [(0, 1, (.tmp 30))]⟩,
 ⟨(some 32), none, .call 33 [(.const (.int 0)), (.const (.int 20)), (.tmp 31)]⟩,
 ⟨(some 28), none, .mov (.tmp 32)⟩])
 (.cond (.tmp 28)
 (.seq
 (.ops [
 ⟨(some 2), none, .mov (.const (.int 3))⟩,
 ⟨(some 3), none, .mov (.const (.int 0))⟩,
 ⟨(some 4), none, .mov (.const (.int 7))⟩])
 .ret)
 (.seq
 (.ops [
 ⟨(some 34), none, .faddr 3 (.tmp 1)⟩,
 ⟨(some 35), none, .load false 1 (.tmp 34)⟩,
 ⟨(some 36), none, .len .sl (.tmp 35)⟩,
 ⟨(some 37), none, .bin .gtr 3 (.tmp 36) (.const (.int 3))⟩,
 ⟨(some 33), none, .mov (.tmp 37)⟩])
 (.cond (.tmp 33)
 (.seq
 (.ops [
 ⟨(some 2), none, .mov (.const (.int 4))⟩,
 ⟨(some 3), none, .mov (.const (.int 0))⟩,
 ⟨(some 4), none, .mov (.const (.int 3))⟩])
 .ret)
 .skip)))))))
 (.seq
 (.ops [
 ⟨(some 39), none, .faddr 3 (.tmp 1)⟩,
 ⟨(some 40), none, .load false 1 (.tmp 39)⟩,
 ⟨(some 41), none, .mkfn 37 [] [(.tmp 1)]⟩,
 ⟨(some 42), none, .call 36 [(.tmp 40), (.tmp 41)]⟩,
 ⟨(some 38), none, .mov (.tmp 42)⟩,
 ⟨(some 43), none, .extract (.tmp 38) 0⟩,
 ⟨(some 44), none, .extract (.tmp 38) 1⟩,
 ⟨(some 3), none, .mov (.tmp 43)⟩,
 ⟨(some 4), none, .mov (.tmp 44)⟩])
 (.seq
 (.block 2
 (.seq
 (.ops [
 ⟨(some 46), none, .mov (.tmp 4)⟩,
 ⟨(some 47), none, .bin .neq 36 (.tmp 46) (.const (.int 0))⟩,
 ⟨(some 45), none, .mov (.tmp 47)⟩])
 (.cond (.tmp 45)
 (.seq
 (.ops [
 ⟨(some 48), none, .mov (.tmp 3)⟩,
 ⟨(some 49), none, .mov (.tmp 4)⟩,
 ⟨(some 2), none, .mov (.const (.int 4))⟩,
 ⟨(some 3), none, .mov (.tmp 48)⟩,
 ⟨(some 4), none, .mov (.tmp 49)⟩])
 .ret)
 (.seq
 (.ops [
 ⟨(some 51), none, .faddr 4 (.tmp 1)⟩,
 ⟨(some 52), none, .load false 1 (.tmp 51)⟩,
 ⟨(some 53), none, .len .sl (.tmp 52)⟩,
 ⟨(some 54), none, .bin .gtr 3 (.tmp 53) (.const (.int 5))⟩,
 ⟨(some 50), none, .mov (.tmp 54)⟩])
 (.cond (.tmp 50)
 (.seq
 (.ops [
 ⟨(some 2), none, .mov (.const (.int 5))⟩,
 ⟨(some 3), none, .mov (.const (.int 0))⟩,
 ⟨(some 4), none, .mov (.const (.int 3))⟩])
 .ret)
 .skip)))))
 (.seq
 (.ops [
 ⟨(some 56), none, .faddr 4 (.tmp 1)⟩,
 ⟨(some 57), none, .load false 1 (.tmp 56)⟩,
 ⟨(some 58), none, .mkfn 42 [] [(.tmp 1)]⟩,
 ⟨(some 59), none, .call 41 [(.tmp 57), (.tmp 58)]⟩,
 ⟨(some 55), none, .mov (.tmp 59)⟩,
 ⟨(some 60), none, .extract (.tmp 55) 0⟩,
 ⟨(some 61), none, .extract (.tmp 55) 1⟩,
 ⟨(some 3), none, .mov (.tmp 60)⟩,
 ⟨(some 4), none, .mov (.tmp 61)⟩])
 (.seq
 (.seq
 (.ops [
 ⟨(some 62), none, .mov (.tmp 4)⟩,
 ⟨(some 63), none, .bin .neq 36 (.tmp 62) (.const (.int 0))⟩])
 (.cond (.tmp 63)
 (.seq
 (.ops [
 ⟨(some 64), none, .mov (.tmp 3)⟩,
 ⟨(some 65), none, .mov (.tmp 4)⟩,
 ⟨(some 2), none, .mov (.const (.int 5))⟩,
 ⟨(some 3), none, .mov (.tmp 64)⟩,
 ⟨(some 4), none, .mov (.tmp 65)⟩])
 .ret)
 .skip))
 (.seq
 (.ops [
 ⟨(some 2), none, .mov (.const (.int 0))⟩,
 ⟨(some 3), none, .mov (.const (.int 0))⟩,
 ⟨(some 4), none, .mov (.const (.int 0))⟩])
 .ret)))))))))

theorem c7 : compF Try.prog 7 = some (66, [.tmp 2, .tmp 3, .tmp 4], k7) := by
 unfold compF; rw [Try.func7]; kernel_rfl

noncomputable abbrev k8 : CC :=
 (.ops [
 ⟨(some 4), none, .mov (.tmp 0)⟩,
 ⟨(some 5), none, .mov (.tmp 0)⟩,
 ⟨(some 6), none, .nilchk (.tmp 5)⟩,
 ⟨(some 7), none, .faddr 0 (.tmp 6)⟩,
 ⟨(some 8), none, .load false 1 (.tmp 7)⟩,
 ⟨(some 9), none, .mov (.tmp 1)⟩,
 ⟨(some 10), none, .lit [(.int 0)] 1 [(0, 1, (.tmp 9))]⟩,
 ⟨(some 11), none, .append 1 8 [(.int 0)] (.tmp 8) (.tmp 10)⟩,
 ⟨(some 12), none, .nilchk (.tmp 4)⟩,
 ⟨(some 13), none, .faddr 0 (.tmp 12)⟩,
 ⟨none, none, .store 1 (.tmp 13) (.tmp 11)⟩])

theorem c8 : compF Try.prog 8 = some (14, [], k8) := by
 unfold compF; rw [Try.func8]; kernel_rfl

noncomputable abbrev k9 : CC :=
 (.ops [
 ⟨(some 4), none, .mov (.tmp 0)⟩,
 ⟨(some 5), none, .mov (.tmp 0)⟩,
 ⟨(some 6), none, .nilchk (.tmp 5)⟩,
 ⟨(some 7), none, .faddr 0 (.tmp 6)⟩,
 ⟨(some 8), none, .load false 1 (.tmp 7)⟩,
 ⟨(some 9), none, .mov (.tmp 1)⟩,
 ⟨(some 10), none, .lit [(.int 0)] 1 [(0, 1, (.tmp 9))]⟩,
 ⟨(some 11), none, .append 1 8 [(.int 0)] (.tmp 8) (.tmp 10)⟩,
 ⟨(some 12), none, .nilchk (.tmp 4)⟩,
 ⟨(some 13), none, .faddr 0 (.tmp 12)⟩,
 ⟨none, none, .store 1 (.tmp 13) (.tmp 11)⟩])

theorem c9 : compF Try.prog 9 = some (14, [], k9) := by
 unfold compF; rw [Try.func9]; kernel_rfl

noncomputable abbrev k10 : CC :=
 .skip

theorem c10 : compF Try.prog 10 = some (0, [], k10) := by
 unfold compF; rw [Try.func10]; kernel_rfl

noncomputable abbrev k11 : CC :=
 (.seq
 (.ops [
 ⟨(some 3), none, .mov (.const (.v .nilFunc))⟩])
 (.seq
 (.ops [
 ⟨(some 8), none, .faddr 0 (.tmp 1)⟩,
 ⟨(some 9), none, .load true 5 (.tmp 8)⟩,
 ⟨(some 10), none, .call 12 [(.tmp 9)]⟩,
 ⟨(some 7), none, .mov (.tmp 10)⟩,
 ⟨(some 11), none, .extract (.tmp 7) 0⟩,
 ⟨(some 12), none, .extract (.tmp 7) 1⟩,
 ⟨(some 13), none, .extract (.tmp 7) 2⟩,
 ⟨(some 4), none, .alloc [(.list .exact [] 0)]⟩,
 ⟨none, none, .store 1 (.tmp 4) (.tmp 11)⟩,
 ⟨(some 5), none, .mov (.tmp 12)⟩,
 ⟨(some 6), none, .mov (.tmp 13)⟩])
 (.seq
 (.ops [
 ⟨(some 14), none, .mov (.tmp 0)⟩,
 ⟨(some 15), none, .load false 1 (.tmp 4)⟩,
 ⟨(some 16), none, .call 13 [(.tmp 14), (.tmp 15)]⟩])
 (.seq
 (.ops [
 ⟨(some 17), none, .mov (.tmp 0)⟩,
 ⟨(some 18), none, .mov (.tmp 5)⟩,
 ⟨(some 19), none, .call 8 [(.tmp 17), (.tmp 18)]⟩])
 (.seq
 (.ops [
 ⟨(some 20), none, .mov (.tmp 0)⟩,
 ⟨(some 21), none, .mov (.tmp 6)⟩,
 ⟨(some 22), none, .call 9 [(.tmp 20), (.tmp 21)]⟩])
 (.seq
 (.ops [
 ⟨(some 23), none, .mkfn 14 [] [(.tmp 4)]⟩,
 ⟨(some 3), none, .mov (.tmp 23)⟩])
 .ret))))))

theorem c11 : compF Try.prog 11 = some (24, [.tmp 3], k11) := by
 unfold compF; rw [Try.func11]; kernel_rfl

noncomputable abbrev k12 : CC :=
 (.seq
 (.ops [
 ⟨(some 1), none, .box (.tmp 0)⟩,
 ⟨(some 2), none, .mov (.const (.list .exact [] 0))⟩,
 ⟨(some 3), none, .alloc [(.int 0)]⟩,
 ⟨(some 4), none, .mov (.const (.int 0))⟩])
 (.seq
 (.ops [
 ⟨(some 9), none, .load true 5 (.tmp 1)⟩,
 ⟨(some 10), none, .call 43 [(.tmp 9), (.const (.int 0)), (.const (.fn 44 [] []))]⟩,
 ⟨(some 8), none, .mov (.tmp 10)⟩,
 ⟨(some 11), none, .extract (.tmp 8) 0⟩,
 ⟨(some 12), none, .extract (.tmp 8) 1⟩,
 ⟨(some 5), none, .mov (.tmp 11)⟩,
 ⟨(some 4), none, .mov (.tmp 12)⟩])
 (.seq
 (.seq
 (.ops [
 ⟨(some 13), none, .mov (.tmp 4)⟩,
 ⟨(some 14), none, .bin .neq 36 (.tmp 13) (.const (.int 0))⟩])
 (.cond (.tmp 14)
 (.seq
 (.ops [
 ⟨(some 15), none, .mov (.tmp 4)⟩,
 ⟨(some 2), none, .mov (.const (.list .exact [] 0))⟩,
 ⟨none, none, .store 1 (.tmp 3) (.const (.int 0))⟩,
 ⟨(some 4), none, .mov (.tmp 15)⟩])
 .ret)
 .skip))
 (.seq
 (.ops [
 ⟨(some 6), none, .alloc [(.int 0), (.int 0), (.int 0)]⟩])
 (.seq
 (.seq
 (.ops [
 ⟨(some 16), none, .mov (.tmp 5)⟩,
 ⟨(some 17), none, .call 45 [(.tmp 16)]⟩])
 (.block 0
 (.rangef (.tmp 17) [18] (rfA Try.f12 0) (rfB Try.f12 0))))
 (.seq
 (.ops [
 ⟨(some 29), none, .faddr 0 (.tmp 1)⟩,
 ⟨(some 30), none, .load false 1 (.tmp 29)⟩,
 ⟨(some 31), none, .mkslice [(.int 0)] 1 8 (.tmp 30) (.tmp 30)⟩,
 ⟨(some 2), none, .mov (.tmp 31)⟩])
 (.seq
 (.ops [
 ⟨(some 32), none, .mov (.tmp 2)⟩,
 ⟨(some 33), none, .slicearr 3 1 (.tmp 6) none none⟩,
 ⟨(some 34), none, .copy 1 (.tmp 32) (.tmp 33)⟩])
 (.seq
 (.draw [
 ⟨(some 35), none, .mov (.tmp 2)⟩,
 ⟨(some 36), none, .load false 1 (.tmp 3)⟩,
 ⟨(some 2), none, .mov (.tmp 35)⟩,
 ⟨none, none, .store 1 (.tmp 3) (.tmp 36)⟩,
 ⟨(some 4), none, .mov (.const (.int 0))⟩] [[], [], [0], [1, 2, 0], [3, 1, 2, 0]])
 .ret))))))))

theorem c12 : compF Try.prog 12 = some (37, [.tmp 2, .cell 3 3, .tmp 4], k12) := by
 unfold compF; rw [Try.func12]; kernel_rfl

theorem a12_0 : comp Try.prog 37 (rfA Try.f12 0) = (some
 (.ops [
 ⟨(some 7), none, .alloc [(.int 0), (.int 0), (.int 0)]⟩,
 ⟨none, none, .store 3 (.tmp 7) (.tmp 18)⟩])) := by
 kernel_rfl

theorem b12_0 : comp Try.prog 37 (rfB Try.f12 0) = (some
 (.block 1
 (.seq
 (.seq
 (.ops [
 ⟨(some 19), none, .load false 1 (.tmp 3)⟩,
 ⟨(some 20), none, .bin .eql 3 (.tmp 19) (.const (.int 0))⟩,
 ⟨(some 21), none, .mov (.tmp 20)⟩,
 ⟨(some 22), (some (21, false)), .load true 3 (.tmp 7)⟩,
 ⟨(some 23), (some (21, false)), .load true 3 (.tmp 6)⟩,
 ⟨(some 24), (some (21, false)), .bin .eql 81 (.tmp 22) (.tmp 23)⟩,
 ⟨(some 25), none, .pick (.tmp 21) (.const (.bool true)) (.tmp 24)⟩])
 (.cond (.tmp 25)
 (.ops [
 ⟨(some 26), none, .load true 3 (.tmp 7)⟩,
 ⟨none, none, .store 3 (.tmp 6) (.tmp 26)⟩])
 .skip))
 (.ops [
 ⟨(some 27), none, .load false 1 (.tmp 3)⟩,
 ⟨(some 28), none, .bin .add 3 (.tmp 27) (.const (.int 1))⟩,
 ⟨none, none, .store 1 (.tmp 3) (.tmp 28)⟩])))) := by
 kernel_rfl

noncomputable abbrev k13 : CC :=
 (.ops [
 ⟨(some 4), none, .mov (.tmp 0)⟩,
 ⟨(some 5), none, .mov (.tmp 1)⟩,
 ⟨(some 6), none, .call 46 [(.tmp 4), (.tmp 5), (.const (.fn 8 [] []))]⟩])

theorem c13 : compF Try.prog 13 = some (7, [], k13) := by
 unfold compF; rw [Try.func13]; kernel_rfl

noncomputable abbrev k14 : CC :=
 (.ops [
 ⟨(some 1), none, .call 15 [(.tmp 0)]⟩])

theorem c14 : compF Try.prog 14 = some (2, [], k14) := by
 unfold compF; rw [Try.func14]; kernel_rfl

noncomputable abbrev k15 : CC :=
 (.ops [
 ⟨(some 2), none, .mov (.tmp 0)⟩,
 ⟨(some 3), none, .nilchk (.tmp 2)⟩,
 ⟨(some 4), none, .load false 1 (.tmp 3)⟩,
 ⟨(some 5), none, .call 47 [(.tmp 4), (.const (.fn 48 [] []))]⟩])

theorem c15 : compF Try.prog 15 = some (6, [], k15) := by
 unfold compF; rw [Try.func15]; kernel_rfl

noncomputable abbrev k16 : CC :=
 (.seq
 (.ops [
 ⟨(some 3), none, .mov (.const (.v .nilFunc))⟩])
 (.seq
 (.ops [
 ⟨(some 7), none, .faddr 0 (.tmp 1)⟩,
 ⟨(some 8), none, .load true 5 (.tmp 7)⟩,
 ⟨(some 9), none, .faddr 5 (.tmp 1)⟩,
 ⟨(some 10), none, .load false 1 (.tmp 9)⟩,
 ⟨(some 11), none, .call 17 [(.tmp 8), (.tmp 10)]⟩,
 ⟨(some 6), none, .mov (.tmp 11)⟩,
 ⟨(some 12), none, .extract (.tmp 6) 0⟩,
 ⟨(some 13), none, .extract (.tmp 6) 1⟩,
 ⟨(some 4), none, .alloc [(.int 0), (.int 0)]⟩,
 ⟨none, none, .store 2 (.tmp 4) (.tmp 12)⟩,
 ⟨(some 5), none, .mov (.tmp 13)⟩])
 (.seq
 (.ops [
 ⟨(some 14), none, .mov (.tmp 0)⟩,
 ⟨(some 15), none, .load true 2 (.tmp 4)⟩,
 ⟨(some 16), none, .call 18 [(.tmp 14), (.tmp 15)]⟩])
 (.seq
 (.ops [
 ⟨(some 17), none, .mov (.tmp 0)⟩,
 ⟨(some 18), none, .mov (.tmp 5)⟩,
 ⟨(some 19), none, .call 9 [(.tmp 17), (.tmp 18)]⟩])
 (.seq
 (.ops [
 ⟨(some 3), none, .mov (.const (.fn 10 [] []))⟩])
 .ret)))))

theorem c16 : compF Try.prog 16 = some (20, [.tmp 3], k16) := by
 unfold compF; rw [Try.func16]; kernel_rfl

noncomputable abbrev k17 : CC :=
 (.seq
 (.ops [
 ⟨(some 2), none, .box (.tmp 0)⟩,
 ⟨(some 3), none, .box (.tmp 1)⟩,
 ⟨(some 4), none, .alloc [(.int 0), (.int 0)]⟩,
 ⟨(some 5), none, .mov (.const (.int 0))⟩])
 (.seq
 (.draw [
 ⟨(some 9), none, .load true 5 (.tmp 2)⟩,
 ⟨(some 10), none, .load false 1 (.tmp 3)⟩,
 ⟨(some 11), none, .faddr 0 (.tmp 2)⟩,
 ⟨(some 12), none, .load false 1 (.tmp 11)⟩,
 ⟨(some 13), none, .lit [(.int 0), (.int 0)] 2 [(0, 1, (.tmp 10)), (1, 1, (.tmp 12))]⟩,
 ⟨(some 14), none, .call 49 [(.tmp 13)]⟩,
 ⟨(some 15), none, .call 43 [(.tmp 9), (.const (.int 0)), (.tmp 14)]⟩,
 ⟨(some 8), none, .mov (.tmp 15)⟩,
 ⟨(some 16), none, .extract (.tmp 8) 0⟩,
 ⟨(some 17), none, .extract (.tmp 8) 1⟩,
 ⟨(some 6), none, .mov (.tmp 16)⟩,
 ⟨(some 7), none, .mov (.tmp 17)⟩] [[], [], [], [2], [1, 3, 2], [4, 1, 3, 2], [0, 5, 4, 1, 3, 2], [6, 0, 5, 4, 1, 3, 2], [7, 6, 0, 5, 4, 1, 3, 2], [7, 6, 0, 5, 4, 1, 3, 2], [8, 7, 6, 0, 5, 4, 1, 3, 2], [9, 10, 8, 7, 6, 0, 5, 4, 1, 3, 2]])
 (.seq
 (.seq
 (.ops [
 ⟨(some 18), none, .mov (.tmp 7)⟩,
 ⟨(some 19), none, .bin .neq 36 (.tmp 18) (.const (.int 0))⟩])
 (.cond (.tmp 19)
 (.seq
 (.ops [
 ⟨(some 20), none, .build [(.int 0), (.int 0)] []⟩,
 ⟨(some 21), none, .mov (.tmp 7)⟩,
 ⟨none, none, .store 2 (.tmp 4) (.tmp 20)⟩,
 ⟨(some 5), none, .mov (.tmp 21)⟩])
 .ret)
 .skip))
 (.seq
 (.ops [
 ⟨(some 22), none, .mov (.tmp 6)⟩,
 ⟨(some 23), none, .mkfn 51 [] [(.tmp 3)]⟩,
 ⟨(some 24), none, .call 50 [(.tmp 22), (.tmp 23)]⟩,
 ⟨none, none, .store 2 (.tmp 4) (.tmp 24)⟩,
 ⟨(some 5), none, .mov (.const (.int 0))⟩])
 .ret))))

theorem c17 : compF Try.prog 17 = some (25, [.cell 4 48, .tmp 5], k17) := by
 unfold compF; rw [Try.func17]; kernel_rfl

noncomputable abbrev k18 : CC :=
 (.seq
 (.ops [
 ⟨(some 3), none, .box (.tmp 1)⟩])
 (.seq
 (.ops [
 ⟨(some 4), none, .mov (.tmp 0)⟩,
 ⟨(some 5), none, .faddr 0 (.tmp 3)⟩,
 ⟨(some 6), none, .load false 1 (.tmp 5)⟩,
 ⟨(some 7), none, .call 8 [(.tmp 4), (.tmp 6)]⟩])
 (.ops [
 ⟨(some 8), none, .mov (.tmp 0)⟩,
 ⟨(some 9), none, .faddr 1 (.tmp 3)⟩,
 ⟨(some 10), none, .load false 1 (.tmp 9)⟩,
 ⟨(some 11), none, .call 8 [(.tmp 8), (.tmp 10)]⟩])))

theorem c18 : compF Try.prog 18 = some (12, [], k18) := by
 unfold compF; rw [Try.func18]; kernel_rfl

noncomputable abbrev k19 : CC :=
 (.seq
 (.ops [
 ⟨(some 3), none, .mov (.const (.v .nilFunc))⟩])
 (.seq
 (.ops [
 ⟨(some 7), none, .faddr 0 (.tmp 1)⟩,
 ⟨(some 8), none, .load true 5 (.tmp 7)⟩,
 ⟨(some 9), none, .faddr 6 (.tmp 1)⟩,
 ⟨(some 10), none, .load false 1 (.tmp 9)⟩,
 ⟨(some 11), none, .faddr 5 (.tmp 1)⟩,
 ⟨(some 12), none, .load false 1 (.tmp 11)⟩,
 ⟨(some 13), none, .faddr 8 (.tmp 1)⟩,
 ⟨(some 14), none, .load false 1 (.tmp 13)⟩,
 ⟨(some 15), none, .call 20 [(.tmp 8), (.tmp 10), (.tmp 12), (.tmp 14)]⟩,
 ⟨(some 6), none, .mov (.tmp 15)⟩,
 ⟨(some 16), none, .extract (.tmp 6) 0⟩,
 ⟨(some 17), none, .extract (.tmp 6) 1⟩,
 ⟨(some 4), none, .alloc [(.int 0), (.int 0)]⟩,
 ⟨none, none, .store 2 (.tmp 4) (.tmp 16)⟩,
 ⟨(some 5), none, .mov (.tmp 17)⟩])
 (.seq
 (.ops [
 ⟨(some 18), none, .mov (.tmp 0)⟩,
 ⟨(some 19), none, .load true 2 (.tmp 4)⟩,
 ⟨(some 20), none, .call 18 [(.tmp 18), (.tmp 19)]⟩])
 (.seq
 (.ops [
 ⟨(some 21), none, .mov (.tmp 0)⟩,
 ⟨(some 22), none, .mov (.tmp 5)⟩,
 ⟨(some 23), none, .call 9 [(.tmp 21), (.tmp 22)]⟩])
 (.seq
 (.ops [
 ⟨(some 3), none, .mov (.const (.fn 10 [] []))⟩])
 .ret)))))

theorem c19 : compF Try.prog 19 = some (24, [.tmp 3], k19) := by
 unfold compF; rw [Try.func19]; kernel_rfl

noncomputable abbrev k20 : CC :=
 (.seq
 (.ops [
 ⟨(some 4), none, .box (.tmp 0)⟩,
 ⟨(some 5), none, .box (.tmp 1)⟩,
 ⟨(some 6), none, .box (.tmp 2)⟩,
 ⟨(some 7), none, .box (.tmp 3)⟩,
 ⟨(some 8), none, .alloc [(.int 0), (.int 0)]⟩,
 ⟨(some 9), none, .mov (.const (.int 0))⟩])
 (.seq
 (.ops [
 ⟨(some 13), none, .load true 5 (.tmp 4)⟩,
 ⟨(some 14), none, .mkfn 52 [] [(.tmp 5), (.tmp 4), (.tmp 6), (.tmp 7)]⟩,
 ⟨(some 15), none, .call 43 [(.tmp 13), (.const (.int 0)), (.tmp 14)]⟩,
 ⟨(some 12), none, .mov (.tmp 15)⟩,
 ⟨(some 16), none, .extract (.tmp 12) 0⟩,
 ⟨(some 17), none, .extract (.tmp 12) 1⟩,
 ⟨(some 10), none, .alloc [(.v (.pointer none))]⟩,
 ⟨none, none, .store 1 (.tmp 10) (.tmp 16)⟩,
 ⟨(some 11), none, .mov (.tmp 17)⟩])
 (.seq
 (.seq
 (.ops [
 ⟨(some 18), none, .mov (.tmp 11)⟩,
 ⟨(some 19), none, .bin .neq 36 (.tmp 18) (.const (.int 0))⟩])
 (.cond (.tmp 19)
 (.seq
 (.ops [
 ⟨(some 20), none, .build [(.int 0), (.int 0)] []⟩,
 ⟨(some 21), none, .mov (.tmp 11)⟩,
 ⟨none, none, .store 2 (.tmp 8) (.tmp 20)⟩,
 ⟨(some 9), none, .mov (.tmp 21)⟩])
 .ret)
 .skip))
 (.seq
 (.ops [
 ⟨(some 22), none, .load false 1 (.tmp 10)⟩,
 ⟨(some 23), none, .mkfn 53 [] [(.tmp 10), (.tmp 5), (.tmp 7), (.tmp 6)]⟩,
 ⟨(some 24), none, .call 50 [(.tmp 22), (.tmp 23)]⟩,
 ⟨none, none, .store 2 (.tmp 8) (.tmp 24)⟩,
 ⟨(some 9), none, .mov (.const (.int 0))⟩])
 .ret))))

theorem c20 : compF Try.prog 20 = some (25, [.cell 8 48, .tmp 9], k20) := by
 unfold compF; rw [Try.func20]; kernel_rfl

noncomputable abbrev k21 : CC :=
 (.seq
 (.ops [
 ⟨(some 3), none, .mov (.const (.v .nilFunc))⟩])
 (.seq
 (.ops [
 ⟨(some 7), none, .faddr 0 (.tmp 1)⟩,
 ⟨(some 8), none, .load true 5 (.tmp 7)⟩,
 ⟨(some 9), none, .faddr 7 (.tmp 1)⟩,
 ⟨(some 10), none, .load false 1 (.tmp 9)⟩,
 ⟨(some 11), none, .call 22 [(.tmp 8), (.tmp 10)]⟩,
 ⟨(some 6), none, .mov (.tmp 11)⟩,
 ⟨(some 12), none, .extract (.tmp 6) 0⟩,
 ⟨(some 13), none, .extract (.tmp 6) 1⟩,
 ⟨(some 4), none, .mov (.tmp 12)⟩,
 ⟨(some 5), none, .mov (.tmp 13)⟩])
 (.seq
 (.ops [
 ⟨(some 14), none, .mov (.tmp 0)⟩,
 ⟨(some 15), none, .mov (.tmp 4)⟩,
 ⟨(some 16), none, .call 8 [(.tmp 14), (.tmp 15)]⟩])
 (.seq
 (.ops [
 ⟨(some 17), none, .mov (.tmp 0)⟩,
 ⟨(some 18), none, .mov (.tmp 5)⟩,
 ⟨(some 19), none, .call 9 [(.tmp 17), (.tmp 18)]⟩])
 (.seq
 (.ops [
 ⟨(some 3), none, .mov (.const (.fn 10 [] []))⟩])
 .ret)))))

theorem c21 : compF Try.prog 21 = some (20, [.tmp 3], k21) := by
 unfold compF; rw [Try.func21]; kernel_rfl

noncomputable abbrev k22 : CC :=
 (.seq
 (.ops [
 ⟨(some 2), none, .box (.tmp 0)⟩,
 ⟨(some 4), none, .mov (.const (.int 0))⟩,
 ⟨(some 5), none, .mov (.const (.int 0))⟩])
 (.seq
 (.seq
 (.ops [
 ⟨(some 16), none, .load true 5 (.tmp 2)⟩,
 ⟨(some 17), none, .call 7 [(.tmp 16)]⟩,
 ⟨(some 15), none, .mov (.tmp 17)⟩,
 ⟨(some 18), none, .extract (.tmp 15) 0⟩,
 ⟨(some 19), none, .extract (.tmp 15) 1⟩,
 ⟨(some 20), none, .extract (.tmp 15) 2⟩,
 ⟨(some 6), none, .mov (.tmp 18)⟩,
 ⟨(some 7), none, .mov (.tmp 19)⟩,
 ⟨(some 8), none, .mov (.tmp 20)⟩])
 (.seq
 (.ops [
 ⟨(some 21), none, .mov (.tmp 8)⟩,
 ⟨(some 22), none, .bin .neq 36 (.tmp 21) (.const (.int 0))⟩])
 (.cond (.tmp 22)
 (.seq
 (.ops [
 ⟨(some 23), none, .mov (.tmp 8)⟩,
 ⟨(some 4), none, .mov (.const (.int 0))⟩,
 ⟨(some 5), none, .mov (.tmp 23)⟩])
 .ret)
 .skip)))
 (.seq
 (.seq
 (.ops [
 ⟨(some 24), none, .faddr 4 (.tmp 2)⟩,
 ⟨(some 25), none, .load false 1 (.tmp 24)⟩,
 ⟨(some 26), none, .len .sl (.tmp 25)⟩,
 ⟨(some 27), none, .bin .sub 3 (.tmp 26) (.const (.int 1))⟩,
 ⟨(some 28), none, .mov (.tmp 1)⟩,
 ⟨(some 29), none, .lit [(.int 0)] 1 [(0, 1, (.tmp 28))]⟩,
 ⟨(some 30), none, .call 33 [(.const (.int 0)), (.tmp 27), (.tmp 29)]⟩])
 (.cond (.tmp 30)
 (.seq
 (.ops [
 ⟨(some 4), none, .mov (.const (.int 0))⟩,
 ⟨(some 5), none, .mov (.const (.int 4))⟩])
 .ret)
 .skip))
 (.seq
 (.ops [
 ⟨(some 31), none, .faddr 4 (.tmp 2)⟩,
 ⟨(some 32), none, .load false 1 (.tmp 31)⟩,
 ⟨(some 33), none, .mov (.tmp 1)⟩,
 ⟨(some 34), none, .iaddr 4 (.tmp 32) (.tmp 33)⟩,
 ⟨(some 35), none, .load true 4 (.tmp 34)⟩,
 ⟨(some 9), none, .alloc [(.int 0), (.int 0), (.int 0), (.int 0)]⟩,
 ⟨none, none, .store 4 (.tmp 9) (.tmp 35)⟩])
 (.seq
 (.seq
 (.ops [
 ⟨(some 36), none, .faddr 3 (.tmp 9)⟩,
 ⟨(some 37), none, .load false 1 (.tmp 36)⟩,
 ⟨(some 38), none, .bin .eql 3 (.tmp 37) (.const (.int (-1)))⟩])
 (.cond (.tmp 38)
 (.seq
 (.ops [
 ⟨(some 4), none, .mov (.const (.int 0))⟩,
 ⟨(some 5), none, .mov (.const (.int 2))⟩])
 .ret)
 .skip))
 (.seq
 (.draw [
 ⟨(some 40), none, .load true 5 (.tmp 2)⟩,
 ⟨(some 41), none, .mov (.tmp 1)⟩,
 ⟨(some 42), none, .bin .shl 3 (.const (.int 1)) (.tmp 41)⟩,
 ⟨(some 43), none, .call 43 [(.tmp 40), (.tmp 42), (.const (.fn 44 [] []))]⟩,
 ⟨(some 39), none, .mov (.tmp 43)⟩,
 ⟨(some 44), none, .extract (.tmp 39) 0⟩,
 ⟨(some 45), none, .extract (.tmp 39) 1⟩,
 ⟨(some 10), none, .alloc [(.v (.pointer none))]⟩,
 ⟨none, none, .store 1 (.tmp 10) (.tmp 44)⟩,
 ⟨(some 11), none, .mov (.tmp 45)⟩] [[], [], [1], [0, 2, 1], [3, 0, 2, 1], [4, 3, 0, 2, 1], [4, 3, 0, 2, 1], [], [5, 7, 4, 3, 0, 2, 1], [6, 8, 5, 7, 4, 3, 0, 2, 1]])
 (.seq
 (.seq
 (.ops [
 ⟨(some 46), none, .mov (.tmp 11)⟩,
 ⟨(some 47), none, .bin .neq 36 (.tmp 46) (.const (.int 0))⟩])
 (.cond (.tmp 47)
 (.seq
 (.ops [
 ⟨(some 48), none, .mov (.tmp 11)⟩,
 ⟨(some 4), none, .mov (.const (.int 0))⟩,
 ⟨(some 5), none, .mov (.tmp 48)⟩])
 .ret)
 .skip))
 (.seq
 (.ops [
 ⟨(some 12), none, .alloc [(.int 0)]⟩,
 ⟨(some 13), none, .alloc [(.int 0)]⟩,
 ⟨none, none, .store 1 (.tmp 12) (.const (.int 0))⟩,
 ⟨none, none, .store 1 (.tmp 13) (.const (.int 0))⟩])
 (.seq
 (.seq
 (.ops [
 ⟨(some 49), none, .load false 1 (.tmp 10)⟩,
 ⟨(some 50), none, .call 45 [(.tmp 49)]⟩])
 (.block 0
 (.rangef (.tmp 50) [51] (rfA Try.f22 0) (rfB Try.f22 0))))
 (.seq
 (.seq
 (.ops [
 ⟨(some 63), none, .load false 1 (.tmp 12)⟩])
 (.block 2
 (.seq
 (.ops [
 ⟨(some 65), none, .load false 1 (.tmp 13)⟩,
 ⟨(some 66), none, .bin .eql 3 (.tmp 63) (.tmp 65)⟩,
 ⟨(some 64), none, .mov (.tmp 66)⟩])
 (.cond (.tmp 64)
 (.seq
 (.ops [
 ⟨(some 4), none, .mov (.const (.int 1))⟩,
 ⟨(some 5), none, .mov (.const (.int 0))⟩])
 .ret)
 (.seq
 (.ops [
 ⟨(some 68), none, .bin .eql 3 (.tmp 63) (.const (.int 0))⟩,
 ⟨(some 67), none, .mov (.tmp 68)⟩])
 (.cond (.tmp 67)
 (.seq
 (.ops [
 ⟨(some 4), none, .mov (.const (.int 2))⟩,
 ⟨(some 5), none, .mov (.const (.int 0))⟩])
 .ret)
 .skip))))))
 (.seq
 (.ops [
 ⟨(some 4), none, .mov (.const (.int 0))⟩,
 ⟨(some 5), none, .mov (.const (.int 0))⟩])
 .ret)))))))))))

theorem c22 : compF Try.prog 22 = some (69, [.tmp 4, .tmp 5], k22) := by
 unfold compF; rw [Try.func22]; kernel_rfl

theorem a22_0 : comp Try.prog 69 (rfA Try.f22 0) = (some
 (.ops [
 ⟨(some 14), none, .alloc [(.int 0), (.int 0), (.int 0)]⟩,
 ⟨none, none, .store 3 (.tmp 14) (.tmp 51)⟩])) := by
 kernel_rfl

theorem b22_0 : comp Try.prog 69 (rfB Try.f22 0) = (some
 (.block 1
 (.seq
 (.ops [
 ⟨(some 52), none, .load false 1 (.tmp 13)⟩,
 ⟨(some 53), none, .bin .add 3 (.tmp 52) (.const (.int 1))⟩,
 ⟨none, none, .store 1 (.tmp 13) (.tmp 53)⟩])
 (.seq
 (.draw [
 ⟨(some 54), none, .load false 1 (.tmp 10)⟩,
 ⟨(some 55), none, .load true 4 (.tmp 9)⟩,
 ⟨(some 56), none, .load true 3 (.tmp 14)⟩,
 ⟨(some 57), none, .call 55 [(.tmp 54), (.tmp 55), (.tmp 56)]⟩,
 ⟨(some 58), none, .faddr 3 (.tmp 9)⟩,
 ⟨(some 59), none, .load false 1 (.tmp 58)⟩,
 ⟨(some 60), none, .bin .eql 3 (.tmp 57) (.tmp 59)⟩] [[], [], [], [0, 1, 2], [], [4], [3, 5, 0, 1, 2, 4]])
 (.cond (.tmp 60)
 (.ops [
 ⟨(some 61), none, .load false 1 (.tmp 12)⟩,
 ⟨(some 62), none, .bin .add 3 (.tmp 61) (.const (.int 1))⟩,
 ⟨none, none, .store 1 (.tmp 12) (.tmp 62)⟩])
 .skip))))) := by
 kernel_rfl

noncomputable abbrev k23 : CC :=
 (.seq
 (.ops [
 ⟨(some 3), none, .mov (.const (.v .nilFunc))⟩])
 (.seq
 (.ops [
 ⟨(some 7), none, .faddr 0 (.tmp 1)⟩,
 ⟨(some 8), none, .load true 5 (.tmp 7)⟩,
 ⟨(some 9), none, .call 24 [(.tmp 8)]⟩,
 ⟨(some 6), none, .mov (.tmp 9)⟩,
 ⟨(some 10), none, .extract (.tmp 6) 0⟩,
 ⟨(some 11), none, .extract (.tmp 6) 1⟩,
 ⟨(some 4), none, .alloc [(.list .exact [] 0)]⟩,
 ⟨none, none, .store 1 (.tmp 4) (.tmp 10)⟩,
 ⟨(some 5), none, .mov (.tmp 11)⟩])
 (.seq
 (.ops [
 ⟨(some 12), none, .mov (.tmp 0)⟩,
 ⟨(some 13), none, .load false 1 (.tmp 4)⟩,
 ⟨(some 14), none, .call 13 [(.tmp 12), (.tmp 13)]⟩])
 (.seq
 (.ops [
 ⟨(some 15), none, .mov (.tmp 0)⟩,
 ⟨(some 16), none, .mov (.tmp 5)⟩,
 ⟨(some 17), none, .call 9 [(.tmp 15), (.tmp 16)]⟩])
 (.seq
 (.ops [
 ⟨(some 18), none, .mkfn 25 [] [(.tmp 4)]⟩,
 ⟨(some 3), none, .mov (.tmp 18)⟩])
 .ret)))))

theorem c23 : compF Try.prog 23 = some (19, [.tmp 3], k23) := by
 unfold compF; rw [Try.func23]; kernel_rfl

noncomputable abbrev k24 : CC :=
 (.seq
 (.ops [
 ⟨(some 1), none, .box (.tmp 0)⟩,
 ⟨(some 2), none, .mov (.const (.list .exact [] 0))⟩,
 ⟨(some 3), none, .mov (.const (.int 0))⟩])
 (.seq
 (.seq
 (.ops [
 ⟨(some 8), none, .load true 5 (.tmp 1)⟩,
 ⟨(some 9), none, .call 7 [(.tmp 8)]⟩,
 ⟨(some 7), none, .mov (.tmp 9)⟩,
 ⟨(some 10), none, .extract (.tmp 7) 0⟩,
 ⟨(some 11), none, .extract (.tmp 7) 1⟩,
 ⟨(some 12), none, .extract (.tmp 7) 2⟩,
 ⟨(some 3), none, .mov (.tmp 12)⟩])
 (.seq
 (.ops [
 ⟨(some 13), none, .mov (.tmp 3)⟩,
 ⟨(some 14), none, .bin .neq 36 (.tmp 13) (.const (.int 0))⟩])
 (.cond (.tmp 14)
 (.seq
 (.ops [
 ⟨(some 15), none, .mov (.tmp 3)⟩,
 ⟨(some 2), none, .mov (.const (.list .exact [] 0))⟩,
 ⟨(some 3), none, .mov (.tmp 15)⟩])
 .ret)
 .skip)))
 (.seq
 (.ops [
 ⟨(some 4), none, .mov (.const (.bool false))⟩])
 (.seq
 (.seq
 (.ops [
 ⟨(some 16), none, .faddr 4 (.tmp 1)⟩,
 ⟨(some 17), none, .load false 1 (.tmp 16)⟩,
 ⟨(some 18), none, .len .sl (.tmp 17)⟩,
 ⟨(some 19), none, .bin .shl 3 (.const (.int 1)) (.tmp 18)⟩,
 ⟨(some 20), none, .mov (.const (.int 0))⟩])
 (.block 0
 (.loop
 (.seq
 (.ops [
 ⟨(some 21), none, .bin .lss 3 (.tmp 20) (.tmp 19)⟩])
 (.seq
 (.cond (.tmp 21)
 .skip
 (.exit 0))
 (.seq
 (.block 1
 (.seq
 (.ops [
 ⟨(some 22), none, .mov (.tmp 20)⟩,
 ⟨(some 5), none, .mov (.tmp 22)⟩])
 (.seq
 (.ops [
 ⟨(some 23), none, .mov (.tmp 5)⟩,
 ⟨(some 24), none, .faddr 4 (.tmp 1)⟩,
 ⟨(some 25), none, .load false 1 (.tmp 24)⟩,
 ⟨(some 26), none, .len .sl (.tmp 25)⟩,
 ⟨(some 27), none, .call 56 [(.tmp 23), (.tmp 26)]⟩,
 ⟨(some 6), none, .mov (.tmp 27)⟩])
 (.seq
 (.seq
 (.ops [
 ⟨(some 28), none, .mov (.tmp 4)⟩,
 ⟨(some 29), none, .mov (.tmp 28)⟩,
 ⟨(some 30), (some (29, true)), .mov (.tmp 6)⟩,
 ⟨(some 31), (some (29, true)), .len .sl (.tmp 30)⟩,
 ⟨(some 32), (some (29, true)), .mov (.tmp 2)⟩,
 ⟨(some 33), (some (29, true)), .len .sl (.tmp 32)⟩,
 ⟨(some 34), (some (29, true)), .bin .gtr 3 (.tmp 31) (.tmp 33)⟩,
 ⟨(some 35), (some (29, true)), .mov (.tmp 34)⟩,
 ⟨(some 36), (some (35, false)), .mov (.tmp 6)⟩,
 ⟨(some 37), (some (35, false)), .len .sl (.tmp 36)⟩,
 ⟨(some 38), (some (35, false)), .mov (.tmp 2)⟩,
 ⟨(some 39), (some (35, false)), .len .sl (.tmp 38)⟩,
 ⟨(some 40), (some (35, false)), .bin .eql 3 (.tmp 37) (.tmp 39)⟩,
 ⟨(some 41), (some (35, false)), .mov (.tmp 40)⟩,
 ⟨(some 42), (some (41, true)), .mov (.tmp 6)⟩,
 ⟨(some 43), (some (41, true)), .mov (.tmp 2)⟩,
 ⟨(some 44), (some (41, true)), .call 57 [(.tmp 42), (.tmp 43)]⟩,
 ⟨(some 45), (some (41, true)), .bin .gtr 3 (.tmp 44) (.const (.int 0))⟩,
 ⟨(some 46), (some (35, false)), .pick (.tmp 41) (.tmp 45) (.const (.bool false))⟩,
 ⟨(some 47), (some (29, true)), .pick (.tmp 35) (.const (.bool true)) (.tmp 46)⟩,
 ⟨(some 48), none, .pick (.tmp 29) (.tmp 47) (.const (.bool false))⟩])
 (.cond (.tmp 48)
 (.exit 1)
 .skip))
 (.seq
 (.ops [
 ⟨(some 49), none, .load true 5 (.tmp 1)⟩,
 ⟨(some 50), none, .mov (.tmp 5)⟩,
 ⟨(some 51), none, .call 58 [(.tmp 49), (.tmp 50)]⟩,
 ⟨(some 52), none, .call 59 [(.tmp 51)]⟩])
 (.cond (.tmp 52)
 (.ops [
 ⟨(some 53), none, .mov (.tmp 6)⟩,
 ⟨(some 2), none, .mov (.tmp 53)⟩,
 ⟨(some 4), none, .mov (.const (.bool true))⟩])
 .skip))))))
 (.ops [
 ⟨(some 54), none, .bin .add 3 (.tmp 20) (.const (.int 1))⟩,
 ⟨(some 20), none, .mov (.tmp 54)⟩])))))))
 (.seq
 (.seq
 (.ops [
 ⟨(some 55), none, .mov (.tmp 4)⟩,
 ⟨(some 56), none, .un .not (.tmp 55)⟩])
 (.cond (.tmp 56)
 (.seq
 (.ops [
 ⟨(some 2), none, .mov (.const (.list .exact [] 0))⟩,
 ⟨(some 3), none, .mov (.const (.int 9))⟩])
 .ret)
 .skip))
 (.seq
 (.ops [
 ⟨(some 57), none, .mov (.tmp 2)⟩,
 ⟨(some 2), none, .mov (.tmp 57)⟩,
 ⟨(some 3), none, .mov (.const (.int 0))⟩])
 .ret))))))

theorem c24 : compF Try.prog 24 = some (58, [.tmp 2, .tmp 3], k24) := by
 unfold compF; rw [Try.func24]; kernel_rfl

noncomputable abbrev k25 : CC :=
 (.ops [
 ⟨(some 1), none, .call 15 [(.tmp 0)]⟩])

theorem c25 : compF Try.prog 25 = some (2, [], k25) := by
 unfold compF; rw [Try.func25]; kernel_rfl

noncomputable abbrev k26 : CC :=
 (.seq
 (.ops [
 ⟨(some 3), none, .mov (.const (.v .nilFunc))⟩])
 (.seq
 (.ops [
 ⟨(some 7), none, .faddr 0 (.tmp 1)⟩,
 ⟨(some 8), none, .load true 5 (.tmp 7)⟩,
 ⟨(some 9), none, .faddr 6 (.tmp 1)⟩,
 ⟨(some 10), none, .load false 1 (.tmp 9)⟩,
 ⟨(some 11), none, .call 27 [(.tmp 8), (.tmp 10)]⟩,
 ⟨(some 6), none, .mov (.tmp 11)⟩,
 ⟨(some 12), none, .extract (.tmp 6) 0⟩,
 ⟨(some 13), none, .extract (.tmp 6) 1⟩,
 ⟨(some 4), none, .alloc [(.int 0), (.int 0)]⟩,
 ⟨none, none, .store 2 (.tmp 4) (.tmp 12)⟩,
 ⟨(some 5), none, .mov (.tmp 13)⟩])
 (.seq
 (.ops [
 ⟨(some 14), none, .mov (.tmp 0)⟩,
 ⟨(some 15), none, .load true 2 (.tmp 4)⟩,
 ⟨(some 16), none, .call 18 [(.tmp 14), (.tmp 15)]⟩])
 (.seq
 (.ops [
 ⟨(some 17), none, .mov (.tmp 0)⟩,
 ⟨(some 18), none, .mov (.tmp 5)⟩,
 ⟨(some 19), none, .call 9 [(.tmp 17), (.tmp 18)]⟩])
 (.seq
 (.ops [
 ⟨(some 3), none, .mov (.const (.fn 10 [] []))⟩])
 .ret)))))

theorem c26 : compF Try.prog 26 = some (20, [.tmp 3], k26) := by
 unfold compF; rw [Try.func26]; kernel_rfl

noncomputable abbrev k27 : CC :=
 (.seq
 (.ops [
 ⟨(some 2), none, .box (.tmp 0)⟩,
 ⟨(some 3), none, .box (.tmp 1)⟩,
 ⟨(some 4), none, .alloc [(.int 0), (.int 0)]⟩,
 ⟨(some 5), none, .mov (.const (.int 0))⟩])
 (.seq
 (.draw [
 ⟨(some 9), none, .load true 5 (.tmp 2)⟩,
 ⟨(some 10), none, .load false 1 (.tmp 3)⟩,
 ⟨(some 11), none, .faddr 3 (.tmp 2)⟩,
 ⟨(some 12), none, .load false 1 (.tmp 11)⟩,
 ⟨(some 13), none, .len .sl (.tmp 12)⟩,
 ⟨(some 14), none, .lit [(.int 0), (.int 0)] 2 [(0, 1, (.tmp 10)), (1, 1, (.tmp 13))]⟩,
 ⟨(some 15), none, .call 49 [(.tmp 14)]⟩,
 ⟨(some 16), none, .call 43 [(.tmp 9), (.const (.int 0)), (.tmp 15)]⟩,
 ⟨(some 8), none, .mov (.tmp 16)⟩,
 ⟨(some 17), none, .extract (.tmp 8) 0⟩,
 ⟨(some 18), none, .extract (.tmp 8) 1⟩,
 ⟨(some 6), none, .alloc [(.v (.pointer none))]⟩,
 ⟨none, none, .store 1 (.tmp 6) (.tmp 17)⟩,
 ⟨(some 7), none, .mov (.tmp 18)⟩] [[], [], [], [2], [3, 2], [1, 4, 3, 2], [5, 1, 4, 3, 2], [0, 6, 5, 1, 4, 3, 2], [7, 0, 6, 5, 1, 4, 3, 2], [8, 7, 0, 6, 5, 1, 4, 3, 2], [8, 7, 0, 6, 5, 1, 4, 3, 2], [], [9, 11, 8, 7, 0, 6, 5, 1, 4, 3, 2], [10, 12, 9, 11, 8, 7, 0, 6, 5, 1, 4, 3, 2]])
 (.seq
 (.seq
 (.ops [
 ⟨(some 19), none, .mov (.tmp 7)⟩,
 ⟨(some 20), none, .bin .neq 36 (.tmp 19) (.const (.int 0))⟩])
 (.cond (.tmp 20)
 (.seq
 (.ops [
 ⟨(some 21), none, .build [(.int 0), (.int 0)] []⟩,
 ⟨(some 22), none, .mov (.tmp 7)⟩,
 ⟨none, none, .store 2 (.tmp 4) (.tmp 21)⟩,
 ⟨(some 5), none, .mov (.tmp 22)⟩])
 .ret)
 .skip))
 (.seq
 (.ops [
 ⟨(some 23), none, .load false 1 (.tmp 6)⟩,
 ⟨(some 24), none, .mkfn 60 [] [(.tmp 2), (.tmp 3), (.tmp 6)]⟩,
 ⟨(some 25), none, .call 50 [(.tmp 23), (.tmp 24)]⟩,
 ⟨none, none, .store 2 (.tmp 4) (.tmp 25)⟩,
 ⟨(some 5), none, .mov (.const (.int 0))⟩])
 .ret))))

theorem c27 : compF Try.prog 27 = some (26, [.cell 4 48, .tmp 5], k27) := by
 unfold compF; rw [Try.func27]; kernel_rfl

noncomputable abbrev k28 : CC :=
 (.seq
 (.ops [
 ⟨(some 3), none, .mov (.const (.v .nilFunc))⟩])
 (.seq
 (.ops [
 ⟨(some 8), none, .faddr 0 (.tmp 1)⟩,
 ⟨(some 9), none, .load true 5 (.tmp 8)⟩,
 ⟨(some 10), none, .faddr 5 (.tmp 1)⟩,
 ⟨(some 11), none, .load false 1 (.tmp 10)⟩,
 ⟨(some 12), none, .faddr 9 (.tmp 1)⟩,
 ⟨(some 13), none, .load false 1 (.tmp 12)⟩,
 ⟨(some 14), none, .call 29 [(.tmp 9), (.tmp 11), (.tmp 13)]⟩,
 ⟨(some 7), none, .mov (.tmp 14)⟩,
 ⟨(some 15), none, .extract (.tmp 7) 0⟩,
 ⟨(some 16), none, .extract (.tmp 7) 1⟩,
 ⟨(some 17), none, .extract (.tmp 7) 2⟩,
 ⟨(some 4), none, .mov (.tmp 15)⟩,
 ⟨(some 5), none, .mov (.tmp 16)⟩,
 ⟨(some 6), none, .mov (.tmp 17)⟩])
 (.seq
 (.ops [
 ⟨(some 18), none, .mov (.tmp 0)⟩,
 ⟨(some 19), none, .mov (.tmp 4)⟩,
 ⟨(some 20), none, .call 8 [(.tmp 18), (.tmp 19)]⟩])
 (.seq
 (.ops [
 ⟨(some 21), none, .mov (.tmp 0)⟩,
 ⟨(some 22), none, .mov (.tmp 5)⟩,
 ⟨(some 23), none, .call 8 [(.tmp 21), (.tmp 22)]⟩])
 (.seq
 (.ops [
 ⟨(some 24), none, .mov (.tmp 0)⟩,
 ⟨(some 25), none, .mov (.tmp 6)⟩,
 ⟨(some 26), none, .call 9 [(.tmp 24), (.tmp 25)]⟩])
 (.seq
 (.ops [
 ⟨(some 3), none, .mov (.const (.fn 10 [] []))⟩])
 .ret))))))

theorem c28 : compF Try.prog 28 = some (27, [.tmp 3], k28) := by
 unfold compF; rw [Try.func28]; kernel_rfl

noncomputable abbrev k29 : CC :=
 (.seq
 (.ops [
 ⟨(some 3), none, .box (.tmp 0)⟩,
 ⟨(some 4), none, .box (.tmp 1)⟩,
 ⟨(some 5), none, .box (.tmp 2)⟩,
 ⟨(some 6), none, .mov (.const (.int 0))⟩,
 ⟨(some 7), none, .mov (.const (.int 0))⟩,
 ⟨(some 8), none, .mov (.const (.int 0))⟩])
 (.seq
 (.ops [
 ⟨(some 14), none, .load true 5 (.tmp 3)⟩,
 ⟨(some 15), none, .mkfn 61 [] [(.tmp 4), (.tmp 3), (.tmp 5)]⟩,
 ⟨(some 16), none, .call 43 [(.tmp 14), (.const (.int 0)), (.tmp 15)]⟩,
 ⟨(some 13), none, .mov (.tmp 16)⟩,
 ⟨(some 17), none, .extract (.tmp 13) 0⟩,
 ⟨(some 18), none, .extract (.tmp 13) 1⟩,
 ⟨(some 9), none, .mov (.tmp 17)⟩,
 ⟨(some 8), none, .mov (.tmp 18)⟩])
 (.seq
 (.seq
 (.ops [
 ⟨(some 19), none, .mov (.tmp 8)⟩,
 ⟨(some 20), none, .bin .neq 36 (.tmp 19) (.const (.int 0))⟩])
 (.cond (.tmp 20)
 (.seq
 (.ops [
 ⟨(some 21), none, .mov (.tmp 8)⟩,
 ⟨(some 6), none, .mov (.const (.int 0))⟩,
 ⟨(some 7), none, .mov (.const (.int 0))⟩,
 ⟨(some 8), none, .mov (.tmp 21)⟩])
 .ret)
 .skip))
 (.seq
 (.ops [
 ⟨(some 22), none, .mov (.tmp 9)⟩,
 ⟨(some 23), none, .mkfn 62 [] [(.tmp 4)]⟩,
 ⟨(some 24), none, .call 50 [(.tmp 22), (.tmp 23)]⟩,
 ⟨(some 25), none, .field false 0 1 (.tmp 24)⟩,
 ⟨(some 10), none, .mov (.tmp 25)⟩])
 (.seq
 (.seq
 (.ops [
 ⟨(some 26), none, .mov (.const (.int 0))⟩])
 (.block 0
 (.loop
 (.seq
 (.ops [
 ⟨(some 27), none, .bin .lss 3 (.tmp 26) (.const (.int 100))⟩])
 (.seq
 (.cond (.tmp 27)
 .skip
 (.exit 0))
 (.seq
 (.block 1
 (.seq
 (.ops [
 ⟨(some 28), none, .mov (.tmp 26)⟩,
 ⟨(some 11), none, .mov (.tmp 28)⟩])
 (.seq
 (.ops [
 ⟨(some 29), none, .faddr 3 (.tmp 3)⟩,
 ⟨(some 30), none, .load false 1 (.tmp 29)⟩,
 ⟨(some 31), none, .len .sl (.tmp 30)⟩,
 ⟨(some 32), none, .mov (.const (.int 0))⟩])
 (.block 2
 (.loop
 (.seq
 (.ops [
 ⟨(some 33), none, .bin .lss 3 (.tmp 32) (.tmp 31)⟩])
 (.seq
 (.cond (.tmp 33)
 .skip
 (.exit 2))
 (.seq
 (.block 3
 (.seq
 (.ops [
 ⟨(some 34), none, .mov (.tmp 32)⟩,
 ⟨(some 12), none, .mov (.tmp 34)⟩])
 (.seq
 (.draw [
 ⟨(some 35), none, .mov (.tmp 9)⟩,
 ⟨(some 36), none, .mov (.tmp 12)⟩,
 ⟨(some 37), none, .mov (.tmp 11)⟩,
 ⟨(some 38), none, .mov (.tmp 10)⟩,
 ⟨(some 39), none, .build [(.int 0), (.int 0), (.int 0)] [(0, 1, (.tmp 36)), (1, 1, (.tmp 37)), (2, 1, (.tmp 38))]⟩,
 ⟨(some 40), none, .call 54 [(.tmp 35), (.tmp 39)]⟩,
 ⟨(some 41), none, .load false 1 (.tmp 5)⟩,
 ⟨(some 42), none, .bin .geq 3 (.tmp 40) (.tmp 41)⟩] [[], [], [], [], [1, 2, 3], [0, 4, 1, 2, 3], [], [5, 6, 0, 4, 1, 2, 3]])
 (.cond (.tmp 42)
 (.seq
 (.ops [
 ⟨(some 43), none, .mov (.tmp 12)⟩,
 ⟨(some 44), none, .mov (.tmp 11)⟩,
 ⟨(some 6), none, .mov (.tmp 43)⟩,
 ⟨(some 7), none, .mov (.tmp 44)⟩,
 ⟨(some 8), none, .mov (.const (.int 0))⟩])
 .ret)
 .skip))))
 (.ops [
 ⟨(some 45), none, .bin .add 3 (.tmp 32) (.const (.int 1))⟩,
 ⟨(some 32), none, .mov (.tmp 45)⟩])))))))))
 (.ops [
 ⟨(some 46), none, .bin .add 3 (.tmp 26) (.const (.int 1))⟩,
 ⟨(some 26), none, .mov (.tmp 46)⟩])))))))
 (.seq
 (.ops [
 ⟨(some 6), none, .mov (.const (.int 0))⟩,
 ⟨(some 7), none, .mov (.const (.int 0))⟩,
 ⟨(some 8), none, .mov (.const (.int 9))⟩])
 .ret))))))

theorem c29 : compF Try.prog 29 = some (47, [.tmp 6, .tmp 7, .tmp 8], k29) := by
 unfold compF; rw [Try.func29]; kernel_rfl

noncomputable abbrev k30 : CC :=
 (.seq
 (.ops [
 ⟨(some 2), none, .box (.tmp 0)⟩,
 ⟨(some 3), none, .box (.tmp 1)⟩,
 ⟨(some 4), none, .mov (.const (.bool false))⟩])
 (.seq
 (.seq
 (.ops [
 ⟨(some 7), none, .faddr 0 (.tmp 2)⟩,
 ⟨(some 8), none, .load false 1 (.tmp 7)⟩,
 ⟨(some 9), none, .len .sl (.tmp 8)⟩,
 ⟨(some 10), none, .faddr 0 (.tmp 3)⟩,
 ⟨(some 11), none, .load false 1 (.tmp 10)⟩,
 ⟨(some 12), none, .len .sl (.tmp 11)⟩,
 ⟨(some 13), none, .bin .neq 3 (.tmp 9) (.tmp 12)⟩,
 ⟨(some 14), none, .mov (.tmp 13)⟩,
 ⟨(some 15), (some (14, false)), .faddr 1 (.tmp 2)⟩,
 ⟨(some 16), (some (14, false)), .load false 1 (.tmp 15)⟩,
 ⟨(some 17), (some (14, false)), .len .sl (.tmp 16)⟩,
 ⟨(some 18), (some (14, false)), .faddr 1 (.tmp 3)⟩,
 ⟨(some 19), (some (14, false)), .load false 1 (.tmp 18)⟩,
 ⟨(some 20), (some (14, false)), .len .sl (.tmp 19)⟩,
 ⟨(some 21), (some (14, false)), .bin .neq 3 (.tmp 17) (.tmp 20)⟩,
 ⟨(some 22), none, .pick (.tmp 14) (.const (.bool true)) (.tmp 21)⟩])
 (.cond (.tmp 22)
 (.seq
 (.ops [
 ⟨(some 4), none, .mov (.const (.bool false))⟩])
 .ret)
 .skip))
 (.seq
 (.seq
 (.ops [
 ⟨(some 5), none, .mov (.const (.int 0))⟩])
 (.block 0
 (.loop
 (.seq
 (.seq
 (.ops [
 ⟨(some 23), none, .mov (.tmp 5)⟩,
 ⟨(some 24), none, .faddr 0 (.tmp 2)⟩,
 ⟨(some 25), none, .load false 1 (.tmp 24)⟩,
 ⟨(some 26), none, .len .sl (.tmp 25)⟩,
 ⟨(some 27), none, .bin .lss 3 (.tmp 23) (.tmp 26)⟩])
 (.cond (.tmp 27)
 .skip
 (.exit 0)))
 (.seq
 (.block 1
 (.seq
 (.draw [
 ⟨(some 30), none, .faddr 0 (.tmp 2)⟩,
 ⟨(some 31), none, .load false 1 (.tmp 30)⟩,
 ⟨(some 32), none, .mov (.tmp 5)⟩,
 ⟨(some 33), none, .iaddr 1 (.tmp 31) (.tmp 32)⟩,
 ⟨(some 34), none, .load false 1 (.tmp 33)⟩,
 ⟨(some 35), none, .faddr 0 (.tmp 3)⟩,
 ⟨(some 36), none, .load false 1 (.tmp 35)⟩,
 ⟨(some 37), none, .mov (.tmp 5)⟩,
 ⟨(some 38), none, .iaddr 1 (.tmp 36) (.tmp 37)⟩,
 ⟨(some 39), none, .load false 1 (.tmp 38)⟩,
 ⟨(some 40), none, .bin .neq 3 (.tmp 34) (.tmp 39)⟩] [[], [0], [], [1, 2, 0], [3, 1, 2, 0], [], [5], [], [6, 7, 5], [8, 6, 7, 5], [4, 9, 3, 1, 2, 0, 8, 6, 7, 5]])
 (.cond (.tmp 40)
 (.seq
 (.ops [
 ⟨(some 4), none, .mov (.const (.bool false))⟩])
 .ret)
 .skip)))
 (.ops [
 ⟨(some 28), none, .mov (.tmp 5)⟩,
 ⟨(some 29), none, .bin .add 3 (.tmp 28) (.const (.int 1))⟩,
 ⟨(some 5), none, .mov (.tmp 29)⟩]))))))
 (.seq
 (.seq
 (.ops [
 ⟨(some 6), none, .mov (.const (.int 0))⟩])
 (.block 2
 (.loop
 (.seq
 (.seq
 (.ops [
 ⟨(some 41), none, .mov (.tmp 6)⟩,
 ⟨(some 42), none, .faddr 1 (.tmp 2)⟩,
 ⟨(some 43), none, .load false 1 (.tmp 42)⟩,
 ⟨(some 44), none, .len .sl (.tmp 43)⟩,
 ⟨(some 45), none, .bin .lss 3 (.tmp 41) (.tmp 44)⟩])
 (.cond (.tmp 45)
 .skip
 (.exit 2)))
 (.seq
 (.block 3
 (.seq
 (.draw [
 ⟨(some 48), none, .faddr 1 (.tmp 2)⟩,
 ⟨(some 49), none, .load false 1 (.tmp 48)⟩,
 ⟨(some 50), none, .mov (.tmp 6)⟩,
 ⟨(some 51), none, .iaddr 1 (.tmp 49) (.tmp 50)⟩,
 ⟨(some 52), none, .load false 1 (.tmp 51)⟩,
 ⟨(some 53), none, .faddr 1 (.tmp 3)⟩,
 ⟨(some 54), none, .load false 1 (.tmp 53)⟩,
 ⟨(some 55), none, .mov (.tmp 6)⟩,
 ⟨(some 56), none, .iaddr 1 (.tmp 54) (.tmp 55)⟩,
 ⟨(some 57), none, .load false 1 (.tmp 56)⟩,
 ⟨(some 58), none, .bin .neq 9 (.tmp 52) (.tmp 57)⟩] [[], [0], [], [1, 2, 0], [3, 1, 2, 0], [], [5], [], [6, 7, 5], [8, 6, 7, 5], [4, 9, 3, 1, 2, 0, 8, 6, 7, 5]])
 (.cond (.tmp 58)
 (.seq
 (.ops [
 ⟨(some 4), none, .mov (.const (.bool false))⟩])
 .ret)
 .skip)))
 (.ops [
 ⟨(some 46), none, .mov (.tmp 6)⟩,
 ⟨(some 47), none, .bin .add 3 (.tmp 46) (.const (.int 1))⟩,
 ⟨(some 6), none, .mov (.tmp 47)⟩]))))))
 (.seq
 (.ops [
 ⟨(some 4), none, .mov (.const (.bool true))⟩])
 .ret)))))

theorem c30 : compF Try.prog 30 = some (59, [.tmp 4], k30) := by
 unfold compF; rw [Try.func30]; kernel_rfl

noncomputable abbrev k31 : CC :=
 (.seq
 (.ops [
 ⟨(some 0), none, .mov (.const (.bool false))⟩])
 (.seq
 (.ops [
 ⟨(some 28), none, .call 63 [(.const (.int (-1)))]⟩,
 ⟨(some 29), none, .call 63 [(.const (.int 17))]⟩,
 ⟨(some 30), none, .call 63 [(.const (.int 24))]⟩,
 ⟨(some 1), none, .alloc [(.int 0), (.list .exact [] 0), (.int 0), (.list .exact [] 0), (.list .exact [] 0)]⟩,
 ⟨(some 2), none, .alloc [(.int 0), (.list .exact [] 0), (.int 0), (.list .exact [] 0), (.list .exact [] 0)]⟩,
 ⟨(some 3), none, .alloc [(.int 0), (.list .exact [] 0), (.int 0), (.list .exact [] 0), (.list .exact [] 0)]⟩,
 ⟨none, none, .store 5 (.tmp 1) (.tmp 28)⟩,
 ⟨none, none, .store 5 (.tmp 2) (.tmp 29)⟩,
 ⟨none, none, .store 5 (.tmp 3) (.tmp 30)⟩])
 (.seq
 (.ops [
 ⟨(some 32), none, .load true 5 (.tmp 1)⟩,
 ⟨(some 33), none, .call 12 [(.tmp 32)]⟩,
 ⟨(some 31), none, .mov (.tmp 33)⟩,
 ⟨(some 34), none, .extract (.tmp 31) 0⟩,
 ⟨(some 35), none, .extract (.tmp 31) 1⟩,
 ⟨(some 36), none, .extract (.tmp 31) 2⟩,
 ⟨(some 4), none, .mov (.tmp 34)⟩,
 ⟨(some 5), none, .mov (.tmp 35)⟩,
 ⟨(some 6), none, .mov (.tmp 36)⟩])
 (.seq
 (.ops [
 ⟨(some 38), none, .load true 5 (.tmp 1)⟩,
 ⟨(some 39), none, .call 17 [(.tmp 38), (.const (.int 1))]⟩,
 ⟨(some 37), none, .mov (.tmp 39)⟩,
 ⟨(some 40), none, .extract (.tmp 37) 0⟩,
 ⟨(some 41), none, .extract (.tmp 37) 1⟩,
 ⟨(some 7), none, .alloc [(.int 0), (.int 0)]⟩,
 ⟨none, none, .store 2 (.tmp 7) (.tmp 40)⟩,
 ⟨(some 8), none, .mov (.tmp 41)⟩])
 (.seq
 (.ops [
 ⟨(some 43), none, .load true 5 (.tmp 1)⟩,
 ⟨(some 44), none, .call 20 [(.tmp 43), (.const (.int 0)), (.const (.int 1)), (.const (.int 21))]⟩,
 ⟨(some 42), none, .mov (.tmp 44)⟩,
 ⟨(some 45), none, .extract (.tmp 42) 0⟩,
 ⟨(some 46), none, .extract (.tmp 42) 1⟩,
 ⟨(some 9), none, .alloc [(.int 0), (.int 0)]⟩,
 ⟨none, none, .store 2 (.tmp 9) (.tmp 45)⟩,
 ⟨(some 10), none, .mov (.tmp 46)⟩])
 (.seq
 (.ops [
 ⟨(some 48), none, .load true 5 (.tmp 2)⟩,
 ⟨(some 49), none, .call 22 [(.tmp 48), (.const (.int 1))]⟩,
 ⟨(some 47), none, .mov (.tmp 49)⟩,
 ⟨(some 50), none, .extract (.tmp 47) 0⟩,
 ⟨(some 51), none, .extract (.tmp 47) 1⟩,
 ⟨(some 11), none, .mov (.tmp 50)⟩,
 ⟨(some 12), none, .mov (.tmp 51)⟩])
 (.seq
 (.ops [
 ⟨(some 53), none, .load true 5 (.tmp 3)⟩,
 ⟨(some 54), none, .call 22 [(.tmp 53), (.const (.int 1))]⟩,
 ⟨(some 52), none, .mov (.tmp 54)⟩,
 ⟨(some 55), none, .extract (.tmp 52) 0⟩,
 ⟨(some 56), none, .extract (.tmp 52) 1⟩,
 ⟨(some 13), none, .mov (.tmp 55)⟩,
 ⟨(some 14), none, .mov (.tmp 56)⟩])
 (.seq
 (.ops [
 ⟨(some 58), none, .load true 5 (.tmp 3)⟩,
 ⟨(some 59), none, .call 24 [(.tmp 58)]⟩,
 ⟨(some 57), none, .mov (.tmp 59)⟩,
 ⟨(some 60), none, .extract (.tmp 57) 0⟩,
 ⟨(some 61), none, .extract (.tmp 57) 1⟩,
 ⟨(some 15), none, .mov (.tmp 60)⟩,
 ⟨(some 16), none, .mov (.tmp 61)⟩])
 (.seq
 (.ops [
 ⟨(some 63), none, .load true 5 (.tmp 2)⟩,
 ⟨(some 64), none, .call 24 [(.tmp 63)]⟩,
 ⟨(some 62), none, .mov (.tmp 64)⟩,
 ⟨(some 65), none, .extract (.tmp 62) 0⟩,
 ⟨(some 66), none, .extract (.tmp 62) 1⟩,
 ⟨(some 17), none, .mov (.tmp 65)⟩,
 ⟨(some 18), none, .mov (.tmp 66)⟩])
 (.seq
 (.ops [
 ⟨(some 68), none, .load true 5 (.tmp 1)⟩,
 ⟨(some 69), none, .call 27 [(.tmp 68), (.const (.int 1))]⟩,
 ⟨(some 67), none, .mov (.tmp 69)⟩,
 ⟨(some 70), none, .extract (.tmp 67) 0⟩,
 ⟨(some 71), none, .extract (.tmp 67) 1⟩,
 ⟨(some 19), none, .alloc [(.int 0), (.int 0)]⟩,
 ⟨none, none, .store 2 (.tmp 19) (.tmp 70)⟩,
 ⟨(some 20), none, .mov (.tmp 71)⟩])
 (.seq
 (.ops [
 ⟨(some 73), none, .load true 5 (.tmp 1)⟩,
 ⟨(some 74), none, .call 29 [(.tmp 73), (.const (.int 0)), (.const (.int 30))]⟩,
 ⟨(some 72), none, .mov (.tmp 74)⟩,
 ⟨(some 75), none, .extract (.tmp 72) 0⟩,
 ⟨(some 76), none, .extract (.tmp 72) 1⟩,
 ⟨(some 77), none, .extract (.tmp 72) 2⟩,
 ⟨(some 21), none, .mov (.tmp 75)⟩,
 ⟨(some 22), none, .mov (.tmp 76)⟩,
 ⟨(some 23), none, .mov (.tmp 77)⟩])
 (.seq
 (.ops [
 ⟨(some 79), none, .load true 5 (.tmp 3)⟩,
 ⟨(some 80), none, .call 17 [(.tmp 79), (.const (.int 0))]⟩,
 ⟨(some 78), none, .mov (.tmp 80)⟩,
 ⟨(some 81), none, .extract (.tmp 78) 0⟩,
 ⟨(some 82), none, .extract (.tmp 78) 1⟩,
 ⟨(some 24), none, .alloc [(.int 0), (.int 0)]⟩,
 ⟨none, none, .store 2 (.tmp 24) (.tmp 81)⟩,
 ⟨(some 25), none, .mov (.tmp 82)⟩])
 (.seq
 (.ops [
 ⟨(some 84), none, .load true 5 (.tmp 1)⟩,
 ⟨(some 85), none, .call 22 [(.tmp 84), (.const (.int 1))]⟩,
 ⟨(some 83), none, .mov (.tmp 85)⟩,
 ⟨(some 86), none, .extract (.tmp 83) 0⟩,
 ⟨(some 87), none, .extract (.tmp 83) 1⟩,
 ⟨(some 26), none, .mov (.tmp 86)⟩,
 ⟨(some 27), none, .mov (.tmp 87)⟩])
 (.seq
 (.draw [
 ⟨(some 88), none, .mov (.tmp 6)⟩,
 ⟨(some 89), none, .bin .eql 36 (.tmp 88) (.const (.int 0))⟩,
 ⟨(some 90), none, .mov (.tmp 89)⟩,
 ⟨(some 91), (some (90, true)), .mov (.tmp 8)⟩,
 ⟨(some 92), (some (90, true)), .bin .eql 36 (.tmp 91) (.const (.int 0))⟩,
 ⟨(some 93), none, .pick (.tmp 90) (.tmp 92) (.const (.bool false))⟩,
 ⟨(some 94), none, .mov (.tmp 93)⟩,
 ⟨(some 95), (some (94, true)), .mov (.tmp 10)⟩,
 ⟨(some 96), (some (94, true)), .bin .eql 36 (.tmp 95) (.const (.int 0))⟩,
 ⟨(some 97), none, .pick (.tmp 94) (.tmp 96) (.const (.bool false))⟩,
 ⟨(some 98), none, .mov (.tmp 97)⟩,
 ⟨(some 99), (some (98, true)), .mov (.tmp 12)⟩,
 ⟨(some 100), (some (98, true)), .bin .eql 36 (.tmp 99) (.const (.int 0))⟩,
 ⟨(some 101), none, .pick (.tmp 98) (.tmp 100) (.const (.bool false))⟩,
 ⟨(some 102), none, .mov (.tmp 101)⟩,
 ⟨(some 103), (some (102, true)), .mov (.tmp 14)⟩,
 ⟨(some 104), (some (102, true)), .bin .eql 36 (.tmp 103) (.const (.int 0))⟩,
 ⟨(some 105), none, .pick (.tmp 102) (.tmp 104) (.const (.bool false))⟩,
 ⟨(some 106), none, .mov (.tmp 105)⟩,
 ⟨(some 107), (some (106, true)), .mov (.tmp 16)⟩,
 ⟨(some 108), (some (106, true)), .bin .eql 36 (.tmp 107) (.const (.int 0))⟩,
 ⟨(some 109), none, .pick (.tmp 106) (.tmp 108) (.const (.bool false))⟩,
 ⟨(some 110), none, .mov (.tmp 109)⟩,
 ⟨(some 111), (some (110, true)), .mov (.tmp 18)⟩,
 ⟨(some 112), (some (110, true)), .bin .eql 36 (.tmp 111) (.const (.int 0))⟩,
 ⟨(some 113), none, .pick (.tmp 110) (.tmp 112) (.const (.bool false))⟩,
 ⟨(some 114), none, .mov (.tmp 113)⟩,
 ⟨(some 115), (some (114, true)), .mov (.tmp 20)⟩,
 ⟨(some 116), (some (114, true)), .bin .eql 36 (.tmp 115) (.const (.int 0))⟩,
 ⟨(some 117), none, .pick (.tmp 114) (.tmp 116) (.const (.bool false))⟩,
 ⟨(some 118), none, .mov (.tmp 117)⟩,
 ⟨(some 119), (some (118, true)), .mov (.tmp 23)⟩,
 ⟨(some 120), (some (118, true)), .bin .eql 36 (.tmp 119) (.const (.int 0))⟩,
 ⟨(some 121), none, .pick (.tmp 118) (.tmp 120) (.const (.bool false))⟩,
 ⟨(some 122), none, .mov (.tmp 121)⟩,
 ⟨(some 123), (some (122, true)), .mov (.tmp 25)⟩,
 ⟨(some 124), (some (122, true)), .bin .eql 36 (.tmp 123) (.const (.int 8))⟩,
 ⟨(some 125), none, .pick (.tmp 122) (.tmp 124) (.const (.bool false))⟩,
 ⟨(some 126), none, .mov (.tmp 125)⟩,
 ⟨(some 127), (some (126, true)), .mov (.tmp 27)⟩,
 ⟨(some 128), (some (126, true)), .bin .eql 36 (.tmp 127) (.const (.int 2))⟩,
 ⟨(some 129), none, .pick (.tmp 126) (.tmp 128) (.const (.bool false))⟩,
 ⟨(some 130), none, .mov (.tmp 129)⟩,
 ⟨(some 131), (some (130, true)), .mov (.tmp 4)⟩,
 ⟨(some 132), (some (130, true)), .lit [(.int 0), (.int 0)] 2 [(0, 1, (.const (.int 12))), (1, 1, (.const (.int 10)))]⟩,
 ⟨(some 133), (some (130, true)), .call 64 [(.tmp 131), (.tmp 132)]⟩,
 ⟨(some 134), none, .pick (.tmp 130) (.tmp 133) (.const (.bool false))⟩,
 ⟨(some 135), none, .mov (.tmp 134)⟩,
 ⟨(some 136), (some (135, true)), .mov (.tmp 5)⟩,
 ⟨(some 137), (some (135, true)), .bin .eql 3 (.tmp 136) (.const (.int 5))⟩,
 ⟨(some 138), none, .pick (.tmp 135) (.tmp 137) (.const (.bool false))⟩,
 ⟨(some 139), none, .mov (.tmp 138)⟩,
 ⟨(some 140), (some (139, true)), .load true 2 (.tmp 7)⟩,
 ⟨(some 141), (some (139, true)), .call 65 [(.const (.int 10)), (.const (.int 14))]⟩,
 ⟨(some 142), (some (139, true)), .bin .eql 48 (.tmp 140) (.tmp 141)⟩,
 ⟨(some 143), none, .pick (.tmp 139) (.tmp 142) (.const (.bool false))⟩,
 ⟨(some 144), none, .mov (.tmp 143)⟩,
 ⟨(some 145), (some (144, true)), .load true 2 (.tmp 9)⟩,
 ⟨(some 146), (some (144, true)), .call 65 [(.const (.int 20)), (.const (.int 28))]⟩,
 ⟨(some 147), (some (144, true)), .bin .eql 48 (.tmp 145) (.tmp 146)⟩,
 ⟨(some 148), none, .pick (.tmp 144) (.tmp 147) (.const (.bool false))⟩,
 ⟨(some 149), none, .mov (.tmp 148)⟩,
 ⟨(some 150), (some (149, true)), .mov (.tmp 11)⟩,
 ⟨(some 151), (some (149, true)), .bin .eql 3 (.tmp 150) (.const (.int 0))⟩,
 ⟨(some 152), none, .pick (.tmp 149) (.tmp 151) (.const (.bool false))⟩,
 ⟨(some 153), none, .mov (.tmp 152)⟩,
 ⟨(some 154), (some (153, true)), .mov (.tmp 13)⟩,
 ⟨(some 155), (some (153, true)), .bin .eql 3 (.tmp 154) (.const (.int 2))⟩,
 ⟨(some 156), none, .pick (.tmp 153) (.tmp 155) (.const (.bool false))⟩,
 ⟨(some 157), none, .mov (.tmp 156)⟩,
 ⟨(some 158), (some (157, true)), .mov (.tmp 15)⟩,
 ⟨(some 159), (some (157, true)), .lit [(.int 0)] 1 [(0, 1, (.const (.int 0)))]⟩,
 ⟨(some 160), (some (157, true)), .call 64 [(.tmp 158), (.tmp 159)]⟩,
 ⟨(some 161), none, .pick (.tmp 157) (.tmp 160) (.const (.bool false))⟩,
 ⟨(some 162), none, .mov (.tmp 161)⟩,
 ⟨(some 163), (some (162, true)), .mov (.tmp 17)⟩,
 ⟨(some 164), (some (162, true)), .len .sl (.tmp 163)⟩,
 ⟨(some 165), (some (162, true)), .bin .eql 3 (.tmp 164) (.const (.int 0))⟩,
 ⟨(some 166), none, .pick (.tmp 162) (.tmp 165) (.const (.bool false))⟩,
 ⟨(some 167), none, .mov (.tmp 166)⟩,
 ⟨(some 168), (some (167, true)), .load true 2 (.tmp 19)⟩,
 ⟨(some 169), (some (167, true)), .call 65 [(.const (.int 15)), (.const (.int 21))]⟩,
 ⟨(some 170), (some (167, true)), .bin .eql 48 (.tmp 168) (.tmp 169)⟩,
 ⟨(some 171), none, .pick (.tmp 167) (.tmp 170) (.const (.bool false))⟩,
 ⟨(some 172), none, .mov (.tmp 171)⟩,
 ⟨(some 173), (some (172, true)), .mov (.tmp 21)⟩,
 ⟨(some 174), (some (172, true)), .bin .eql 3 (.tmp 173) (.const (.int 0))⟩,
 ⟨(some 175), none, .pick (.tmp 172) (.tmp 174) (.const (.bool false))⟩,
 ⟨(some 176), none, .mov (.tmp 175)⟩,
 ⟨(some 177), (some (176, true)), .mov (.tmp 22)⟩,
 ⟨(some 178), (some (176, true)), .bin .eql 3 (.tmp 177) (.const (.int 26))⟩,
 ⟨(some 179), none, .pick (.tmp 176) (.tmp 178) (.const (.bool false))⟩,
 ⟨(some 0), none, .mov (.tmp 179)⟩] [[], [0], [1, 0], [2, 1, 0], [3, 2, 1, 0], [4, 3, 2, 1, 0], [5, 4, 3, 2, 1, 0], [6, 5, 4, 3, 2, 1, 0], [7, 6, 5, 4, 3, 2, 1, 0], [8, 7, 6, 5, 4, 3, 2, 1, 0], [9, 8, 7, 6, 5, 4, 3, 2, 1, 0], [10, 9, 8, 7, 6, 5, 4, 3, 2, 1, 0], [11, 10, 9, 8, 7, 6, 5, 4, 3, 2, 1, 0], [12, 11, 10, 9, 8, 7, 6, 5, 4, 3, 2, 1, 0], [13, 12, 11, 10, 9, 8, 7, 6, 5, 4, 3, 2, 1, 0], [14, 13, 12, 11, 10, 9, 8, 7, 6, 5, 4, 3, 2, 1, 0], [15, 14, 13, 12, 11, 10, 9, 8, 7, 6, 5, 4, 3, 2, 1, 0], [16, 15, 14, 13, 12, 11, 10, 9, 8, 7, 6, 5, 4, 3, 2, 1, 0], [17, 16, 15, 14, 13, 12, 11, 10, 9, 8, 7, 6, 5, 4, 3, 2, 1, 0], [18, 17, 16, 15, 14, 13, 12, 11, 10, 9, 8, 7, 6, 5, 4, 3, 2, 1, 0], [19, 18, 17, 16, 15, 14, 13, 12, 11, 10, 9, 8, 7, 6, 5, 4, 3, 2, 1, 0], [20, 19, 18, 17, 16, 15, 14, 13, 12, 11, 10, 9, 8, 7, 6, 5, 4, 3, 2, 1, 0], [21, 20, 19, 18, 17, 16, 15, 14, 13, 12, 11, 10, 9, 8, 7, 6, 5, 4, 3, 2, 1, 0], [22, 21, 20, 19, 18, 17, 16, 15, 14, 13, 12, 11, 10, 9, 8, 7, 6, 5, 4, 3, 2, 1, 0], [23, 22, 21, 20, 19, 18, 17, 16, 15, 14, 13, 12, 11, 10, 9, 8, 7, 6, 5, 4, 3, 2, 1, 0], [24, 23, 22, 21, 20, 19, 18, 17, 16, 15, 14, 13, 12, 11, 10, 9, 8, 7, 6, 5, 4, 3, 2, 1, 0], [25, 24, 23, 22, 21, 20, 19, 18, 17, 16, 15, 14, 13, 12, 11, 10, 9, 8, 7, 6, 5, 4, 3, 2, 1, 0], [26, 25, 24, 23, 22, 21, 20, 19, 18, 17, 16, 15, 14, 13, 12, 11, 10, 9, 8, 7, 6, 5, 4, 3, 2, 1, 0], [27, 26, 25, 24, 23, 22, 21, 20, 19, 18, 17, 16, 15, 14, 13, 12, 11, 10, 9, 8, 7, 6, 5, 4, 3, 2, 1, 0], [28, 27, 26, 25, 24, 23, 22, 21, 20, 19, 18, 17, 16, 15, 14, 13, 12, 11, 10, 9, 8, 7, 6, 5, 4, 3, 2, 1, 0], [29, 28, 27, 26, 25, 24, 23, 22, 21, 20, 19, 18, 17, 16, 15, 14, 13, 12, 11, 10, 9, 8, 7, 6, 5, 4, 3, 2, 1, 0], [30, 29, 28, 27, 26, 25, 24, 23, 22, 21, 20, 19, 18, 17, 16, 15, 14, 13, 12, 11, 10, 9, 8, 7, 6, 5, 4, 3, 2, 1, 0], [31, 30, 29, 28, 27, 26, 25, 24, 23, 22, 21, 20, 19, 18, 17, 16, 15, 14, 13, 12, 11, 10, 9, 8, 7, 6, 5, 4, 3, 2, 1, 0], [32, 31, 30, 29, 28, 27, 26, 25, 24, 23, 22, 21, 20, 19, 18, 17, 16, 15, 14, 13, 12, 11, 10, 9, 8, 7, 6, 5, 4, 3, 2, 1, 0], [33, 32, 31, 30, 29, 28, 27, 26, 25, 24, 23, 22, 21, 20, 19, 18, 17, 16, 15, 14, 13, 12, 11, 10, 9, 8, 7, 6, 5, 4, 3, 2, 1, 0], [34, 33, 32, 31, 30, 29, 28, 27, 26, 25, 24, 23, 22, 21, 20, 19, 18, 17, 16, 15, 14, 13, 12, 11, 10, 9, 8, 7, 6, 5, 4, 3, 2, 1, 0], [35, 34, 33, 32, 31, 30, 29, 28, 27, 26, 25, 24, 23, 22, 21, 20, 19, 18, 17, 16, 15, 14, 13, 12, 11, 10, 9, 8, 7, 6, 5, 4, 3, 2, 1, 0], [36, 35, 34, 33, 32, 31, 30, 29, 28, 27, 26, 25, 24, 23, 22, 21, 20, 19, 18, 17, 16, 15, 14, 13, 12, 11, 10, 9, 8, 7, 6, 5, 4, 3, 2, 1, 0], [37, 36, 35, 34, 33, 32, 31, 30, 29, 28, 27, 26, 25, 24, 23, 22, 21, 20, 19, 18, 17, 16, 15, 14, 13, 12, 11, 10, 9, 8, 7, 6, 5, 4, 3, 2, 1, 0], [38, 37, 36, 35, 34, 33, 32, 31, 30, 29, 28, 27, 26, 25, 24, 23, 22, 21, 20, 19, 18, 17, 16, 15, 14, 13, 12, 11, 10, 9, 8, 7, 6, 5, 4, 3, 2, 1, 0], [39, 38, 37, 36, 35, 34, 33, 32, 31, 30, 29, 28, 27, 26, 25, 24, 23, 22, 21, 20, 19, 18, 17, 16, 15, 14, 13, 12, 11, 10, 9, 8, 7, 6, 5, 4, 3, 2, 1, 0], [40, 39, 38, 37, 36, 35, 34, 33, 32, 31, 30, 29, 28, 27, 26, 25, 24, 23, 22, 21, 20, 19, 18, 17, 16, 15, 14, 13, 12, 11, 10, 9, 8, 7, 6, 5, 4, 3, 2, 1, 0], [41, 40, 39, 38, 37, 36, 35, 34, 33, 32, 31, 30, 29, 28, 27, 26, 25, 24, 23, 22, 21, 20, 19, 18, 17, 16, 15, 14, 13, 12, 11, 10, 9, 8, 7, 6, 5, 4, 3, 2, 1, 0], [42, 41, 40, 39, 38, 37, 36, 35, 34, 33, 32, 31, 30, 29, 28, 27, 26, 25, 24, 23, 22, 21, 20, 19, 18, 17, 16, 15, 14, 13, 12, 11, 10, 9, 8, 7, 6, 5, 4, 3, 2, 1, 0], [42, 41, 40, 39, 38, 37, 36, 35, 34, 33, 32, 31, 30, 29, 28, 27, 26, 25, 24, 23, 22, 21, 20, 19, 18, 17, 16, 15, 14, 13, 12, 11, 10, 9, 8, 7, 6, 5, 4, 3, 2, 1, 0], [43, 44, 42, 41, 40, 39, 38, 37, 36, 35, 34, 33, 32, 31, 30, 29, 28, 27, 26, 25, 24, 23, 22, 21, 20, 19, 18, 17, 16, 15, 14, 13, 12, 11, 10, 9, 8, 7, 6, 5, 4, 3, 2, 1, 0], [45, 43, 44, 42, 41, 40, 39, 38, 37, 36, 35, 34, 33, 32, 31, 30, 29, 28, 27, 26, 25, 24, 23, 22, 21, 20, 19, 18, 17, 16, 15, 14, 13, 12, 11, 10, 9, 8, 7, 6, 5, 4, 3, 2, 1, 0], [46, 45, 43, 44, 42, 41, 40, 39, 38, 37, 36, 35, 34, 33, 32, 31, 30, 29, 28, 27, 26, 25, 24, 23, 22, 21, 20, 19, 18, 17, 16, 15, 14, 13, 12, 11, 10, 9, 8, 7, 6, 5, 4, 3, 2, 1, 0], [47, 46, 45, 43, 44, 42, 41, 40, 39, 38, 37, 36, 35, 34, 33, 32, 31, 30, 29, 28, 27, 26, 25, 24, 23, 22, 21, 20, 19, 18, 17, 16, 15, 14, 13, 12, 11, 10, 9, 8, 7, 6, 5, 4, 3, 2, 1, 0], [48, 47, 46, 45, 43, 44, 42, 41, 40, 39, 38, 37, 36, 35, 34, 33, 32, 31, 30, 29, 28, 27, 26, 25, 24, 23, 22, 21, 20, 19, 18, 17, 16, 15, 14, 13, 12, 11, 10, 9, 8, 7, 6, 5, 4, 3, 2, 1, 0], [49, 48, 47, 46, 45, 43, 44, 42, 41, 40, 39, 38, 37, 36, 35, 34, 33, 32, 31, 30, 29, 28, 27, 26, 25, 24, 23, 22, 21, 20, 19, 18, 17, 16, 15, 14, 13, 12, 11, 10, 9, 8, 7, 6, 5, 4, 3, 2, 1, 0], [50, 49, 48, 47, 46, 45, 43, 44, 42, 41, 40, 39, 38, 37, 36, 35, 34, 33, 32, 31, 30, 29, 28, 27, 26, 25, 24, 23, 22, 21, 20, 19, 18, 17, 16, 15, 14, 13, 12, 11, 10, 9, 8, 7, 6, 5, 4, 3, 2, 1, 0], [51, 50, 49, 48, 47, 46, 45, 43, 44, 42, 41, 40, 39, 38, 37, 36, 35, 34, 33, 32, 31, 30, 29, 28, 27, 26, 25, 24, 23, 22, 21, 20, 19, 18, 17, 16, 15, 14, 13, 12, 11, 10, 9, 8, 7, 6, 5, 4, 3, 2, 1, 0], [51, 50, 49, 48, 47, 46, 45, 43, 44, 42, 41, 40, 39, 38, 37, 36, 35, 34, 33, 32, 31, 30, 29, 28, 27, 26, 25, 24, 23, 22, 21, 20, 19, 18, 17, 16, 15, 14, 13, 12, 11, 10, 9, 8, 7, 6, 5, 4, 3, 2, 1, 0], [52, 53, 51, 50, 49, 48, 47, 46, 45, 43, 44, 42, 41, 40, 39, 38, 37, 36, 35, 34, 33, 32, 31, 30, 29, 28, 27, 26, 25, 24, 23, 22, 21, 20, 19, 18, 17, 16, 15, 14, 13, 12, 11, 10, 9, 8, 7, 6, 5, 4, 3, 2, 1, 0], [54, 52, 53, 51, 50, 49, 48, 47, 46, 45, 43, 44, 42, 41, 40, 39, 38, 37, 36, 35, 34, 33, 32, 31, 30, 29, 28, 27, 26, 25, 24, 23, 22, 21, 20, 19, 18, 17, 16, 15, 14, 13, 12, 11, 10, 9, 8, 7, 6, 5, 4, 3, 2, 1, 0], [55, 54, 52, 53, 51, 50, 49, 48, 47, 46, 45, 43, 44, 42, 41, 40, 39, 38, 37, 36, 35, 34, 33, 32, 31, 30, 29, 28, 27, 26, 25, 24, 23, 22, 21, 20, 19, 18, 17, 16, 15, 14, 13, 12, 11, 10, 9, 8, 7, 6, 5, 4, 3, 2, 1, 0], [56, 55, 54, 52, 53, 51, 50, 49, 48, 47, 46, 45, 43, 44, 42, 41, 40, 39, 38, 37, 36, 35, 34, 33, 32, 31, 30, 29, 28, 27, 26, 25, 24, 23, 22, 21, 20, 19, 18, 17, 16, 15, 14, 13, 12, 11, 10, 9, 8, 7, 6, 5, 4, 3, 2, 1, 0], [56, 55, 54, 52, 53, 51, 50, 49, 48, 47, 46, 45, 43, 44, 42, 41, 40, 39, 38, 37, 36, 35, 34, 33, 32, 31, 30, 29, 28, 27, 26, 25, 24, 23, 22, 21, 20, 19, 18, 17, 16, 15, 14, 13, 12, 11, 10, 9, 8, 7, 6, 5, 4, 3, 2, 1, 0], [57, 58, 56, 55, 54, 52, 53, 51, 50, 49, 48, 47, 46, 45, 43, 44, 42, 41, 40, 39, 38, 37, 36, 35, 34, 33, 32, 31, 30, 29, 28, 27, 26, 25, 24, 23, 22, 21, 20, 19, 18, 17, 16, 15, 14, 13, 12, 11, 10, 9, 8, 7, 6, 5, 4, 3, 2, 1, 0], [59, 57, 58, 56, 55, 54, 52, 53, 51, 50, 49, 48, 47, 46, 45, 43, 44, 42, 41, 40, 39, 38, 37, 36, 35, 34, 33, 32, 31, 30, 29, 28, 27, 26, 25, 24, 23, 22, 21, 20, 19, 18, 17, 16, 15, 14, 13, 12, 11, 10, 9, 8, 7, 6, 5, 4, 3, 2, 1, 0], [60, 59, 57, 58, 56, 55, 54, 52, 53, 51, 50, 49, 48, 47, 46, 45, 43, 44, 42, 41, 40, 39, 38, 37, 36, 35, 34, 33, 32, 31, 30, 29, 28, 27, 26, 25, 24, 23, 22, 21, 20, 19, 18, 17, 16, 15, 14, 13, 12, 11, 10, 9, 8, 7, 6, 5, 4, 3, 2, 1, 0], [61, 60, 59, 57, 58, 56, 55, 54, 52, 53, 51, 50, 49, 48, 47, 46, 45, 43, 44, 42, 41, 40, 39, 38, 37, 36, 35, 34, 33, 32, 31, 30, 29, 28, 27, 26, 25, 24, 23, 22, 21, 20, 19, 18, 17, 16, 15, 14, 13, 12, 11, 10, 9, 8, 7, 6, 5, 4, 3, 2, 1, 0], [62, 61, 60, 59, 57, 58, 56, 55, 54, 52, 53, 51, 50, 49, 48, 47, 46, 45, 43, 44, 42, 41, 40, 39, 38, 37, 36, 35, 34, 33, 32, 31, 30, 29, 28, 27, 26, 25, 24, 23, 22, 21, 20, 19, 18, 17, 16, 15, 14, 13, 12, 11, 10, 9, 8, 7, 6, 5, 4, 3, 2, 1, 0], [63, 62, 61, 60, 59, 57, 58, 56, 55, 54, 52, 53, 51, 50, 49, 48, 47, 46, 45, 43, 44, 42, 41, 40, 39, 38, 37, 36, 35, 34, 33, 32, 31, 30, 29, 28, 27, 26, 25, 24, 23, 22, 21, 20, 19, 18, 17, 16, 15, 14, 13, 12, 11, 10, 9, 8, 7, 6, 5, 4, 3, 2, 1, 0], [64, 63, 62, 61, 60, 59, 57, 58, 56, 55, 54, 52, 53, 51, 50, 49, 48, 47, 46, 45, 43, 44, 42, 41, 40, 39, 38, 37, 36, 35, 34, 33, 32, 31, 30, 29, 28, 27, 26, 25, 24, 23, 22, 21, 20, 19, 18, 17, 16, 15, 14, 13, 12, 11, 10, 9, 8, 7, 6, 5, 4, 3, 2, 1, 0], [65, 64, 63, 62, 61, 60, 59, 57, 58, 56, 55, 54, 52, 53, 51, 50, 49, 48, 47, 46, 45, 43, 44, 42, 41, 40, 39, 38, 37, 36, 35, 34, 33, 32, 31, 30, 29, 28, 27, 26, 25, 24, 23, 22, 21, 20, 19, 18, 17, 16, 15, 14, 13, 12, 11, 10, 9, 8, 7, 6, 5, 4, 3, 2, 1, 0], [66, 65, 64, 63, 62, 61, 60, 59, 57, 58, 56, 55, 54, 52, 53, 51, 50, 49, 48, 47, 46, 45, 43, 44, 42, 41, 40, 39, 38, 37, 36, 35, 34, 33, 32, 31, 30, 29, 28, 27, 26, 25, 24, 23, 22, 21, 20, 19, 18, 17, 16, 15, 14, 13, 12, 11, 10, 9, 8, 7, 6, 5, 4, 3, 2, 1, 0], [67, 66, 65, 64, 63, 62, 61, 60, 59, 57, 58, 56, 55, 54, 52, 53, 51, 50, 49, 48, 47, 46, 45, 43, 44, 42, 41, 40, 39, 38, 37, 36, 35, 34, 33, 32, 31, 30, 29, 28, 27, 26, 25, 24, 23, 22, 21, 20, 19, 18, 17, 16, 15, 14, 13, 12, 11, 10, 9, 8, 7, 6, 5, 4, 3, 2, 1, 0], [68, 67, 66, 65, 64, 63, 62, 61, 60, 59, 57, 58, 56, 55, 54, 52, 53, 51, 50, 49, 48, 47, 46, 45, 43, 44, 42, 41, 40, 39, 38, 37, 36, 35, 34, 33, 32, 31, 30, 29, 28, 27, 26, 25, 24, 23, 22, 21, 20, 19, 18, 17, 16, 15, 14, 13, 12, 11, 10, 9, 8, 7, 6, 5, 4, 3, 2, 1, 0], [69, 68, 67, 66, 65, 64, 63, 62, 61, 60, 59, 57, 58, 56, 55, 54, 52, 53, 51, 50, 49, 48, 47, 46, 45, 43, 44, 42, 41, 40, 39, 38, 37, 36, 35, 34, 33, 32, 31, 30, 29, 28, 27, 26, 25, 24, 23, 22, 21, 20, 19, 18, 17, 16, 15, 14, 13, 12, 11, 10, 9, 8, 7, 6, 5, 4, 3, 2, 1, 0], [69, 68, 67, 66, 65, 64, 63, 62, 61, 60, 59, 57, 58, 56, 55, 54, 52, 53, 51, 50, 49, 48, 47, 46, 45, 43, 44, 42, 41, 40, 39, 38, 37, 36, 35, 34, 33, 32, 31, 30, 29, 28, 27, 26, 25, 24, 23, 22, 21, 20, 19, 18, 17, 16, 15, 14, 13, 12, 11, 10, 9, 8, 7, 6, 5, 4, 3, 2, 1, 0], [70, 71, 69, 68, 67, 66, 65, 64, 63, 62, 61, 60, 59, 57, 58, 56, 55, 54, 52, 53, 51, 50, 49, 48, 47, 46, 45, 43, 44, 42, 41, 40, 39, 38, 37, 36, 35, 34, 33, 32, 31, 30, 29, 28, 27, 26, 25, 24, 23, 22, 21, 20, 19, 18, 17, 16, 15, 14, 13, 12, 11, 10, 9, 8, 7, 6, 5, 4, 3, 2, 1, 0], [72, 70, 71, 69, 68, 67, 66, 65, 64, 63, 62, 61, 60, 59, 57, 58, 56, 55, 54, 52, 53, 51, 50, 49, 48, 47, 46, 45, 43, 44, 42, 41, 40, 39, 38, 37, 36, 35, 34, 33, 32, 31, 30, 29, 28, 27, 26, 25, 24, 23, 22, 21, 20, 19, 18, 17, 16, 15, 14, 13, 12, 11, 10, 9, 8, 7, 6, 5, 4, 3, 2, 1, 0], [73, 72, 70, 71, 69, 68, 67, 66, 65, 64, 63, 62, 61, 60, 59, 57, 58, 56, 55, 54, 52, 53, 51, 50, 49, 48, 47, 46, 45, 43, 44, 42, 41, 40, 39, 38, 37, 36, 35, 34, 33, 32, 31, 30, 29, 28, 27, 26, 25, 24, 23, 22, 21, 20, 19, 18, 17, 16, 15, 14, 13, 12, 11, 10, 9, 8, 7, 6, 5, 4, 3, 2, 1, 0], [74, 73, 72, 70, 71, 69, 68, 67, 66, 65, 64, 63, 62, 61, 60, 59, 57, 58, 56, 55, 54, 52, 53, 51, 50, 49, 48, 47, 46, 45, 43, 44, 42, 41, 40, 39, 38, 37, 36, 35, 34, 33, 32, 31, 30, 29, 28, 27, 26, 25, 24, 23, 22, 21, 20, 19, 18, 17, 16, 15, 14, 13, 12, 11, 10, 9, 8, 7, 6, 5, 4, 3, 2, 1, 0], [75, 74, 73, 72, 70, 71, 69, 68, 67, 66, 65, 64, 63, 62, 61, 60, 59, 57, 58, 56, 55, 54, 52, 53, 51, 50, 49, 48, 47, 46, 45, 43, 44, 42, 41, 40, 39, 38, 37, 36, 35, 34, 33, 32, 31, 30, 29, 28, 27, 26, 25, 24, 23, 22, 21, 20, 19, 18, 17, 16, 15, 14, 13, 12, 11, 10, 9, 8, 7, 6, 5, 4, 3, 2, 1, 0], [76, 75, 74, 73, 72, 70, 71, 69, 68, 67, 66, 65, 64, 63, 62, 61, 60, 59, 57, 58, 56, 55, 54, 52, 53, 51, 50, 49, 48, 47, 46, 45, 43, 44, 42, 41, 40, 39, 38, 37, 36, 35, 34, 33, 32, 31, 30, 29, 28, 27, 26, 25, 24, 23, 22, 21, 20, 19, 18, 17, 16, 15, 14, 13, 12, 11, 10, 9, 8, 7, 6, 5, 4, 3, 2, 1, 0], [77, 76, 75, 74, 73, 72, 70, 71, 69, 68, 67, 66, 65, 64, 63, 62, 61, 60, 59, 57, 58, 56, 55, 54, 52, 53, 51, 50, 49, 48, 47, 46, 45, 43, 44, 42, 41, 40, 39, 38, 37, 36, 35, 34, 33, 32, 31, 30, 29, 28, 27, 26, 25, 24, 23, 22, 21, 20, 19, 18, 17, 16, 15, 14, 13, 12, 11, 10, 9, 8, 7, 6, 5, 4, 3, 2, 1, 0], [78, 77, 76, 75, 74, 73, 72, 70, 71, 69, 68, 67, 66, 65, 64, 63, 62, 61, 60, 59, 57, 58, 56, 55, 54, 52, 53, 51, 50, 49, 48, 47, 46, 45, 43, 44, 42, 41, 40, 39, 38, 37, 36, 35, 34, 33, 32, 31, 30, 29, 28, 27, 26, 25, 24, 23, 22, 21, 20, 19, 18, 17, 16, 15, 14, 13, 12, 11, 10, 9, 8, 7, 6, 5, 4, 3, 2, 1, 0], [79, 78, 77, 76, 75, 74, 73, 72, 70, 71, 69, 68, 67, 66, 65, 64, 63, 62, 61, 60, 59, 57, 58, 56, 55, 54, 52, 53, 51, 50, 49, 48, 47, 46, 45, 43, 44, 42, 41, 40, 39, 38, 37, 36, 35, 34, 33, 32, 31, 30, 29, 28, 27, 26, 25, 24, 23, 22, 21, 20, 19, 18, 17, 16, 15, 14, 13, 12, 11, 10, 9, 8, 7, 6, 5, 4, 3, 2, 1, 0], [79, 78, 77, 76, 75, 74, 73, 72, 70, 71, 69, 68, 67, 66, 65, 64, 63, 62, 61, 60, 59, 57, 58, 56, 55, 54, 52, 53, 51, 50, 49, 48, 47, 46, 45, 43, 44, 42, 41, 40, 39, 38, 37, 36, 35, 34, 33, 32, 31, 30, 29, 28, 27, 26, 25, 24, 23, 22, 21, 20, 19, 18, 17, 16, 15, 14, 13, 12, 11, 10, 9, 8, 7, 6, 5, 4, 3, 2, 1, 0], [80, 81, 79, 78, 77, 76, 75, 74, 73, 72, 70, 71, 69, 68, 67, 66, 65, 64, 63, 62, 61, 60, 59, 57, 58, 56, 55, 54, 52, 53, 51, 50, 49, 48, 47, 46, 45, 43, 44, 42, 41, 40, 39, 38, 37, 36, 35, 34, 33, 32, 31, 30, 29, 28, 27, 26, 25, 24, 23, 22, 21, 20, 19, 18, 17, 16, 15, 14, 13, 12, 11, 10, 9, 8, 7, 6, 5, 4, 3, 2, 1, 0], [82, 80, 81, 79, 78, 77, 76, 75, 74, 73, 72, 70, 71, 69, 68, 67, 66, 65, 64, 63, 62, 61, 60, 59, 57, 58, 56, 55, 54, 52, 53, 51, 50, 49, 48, 47, 46, 45, 43, 44, 42, 41, 40, 39, 38, 37, 36, 35, 34, 33, 32, 31, 30, 29, 28, 27, 26, 25, 24, 23, 22, 21, 20, 19, 18, 17, 16, 15, 14, 13, 12, 11, 10, 9, 8, 7, 6, 5, 4, 3, 2, 1, 0], [83, 82, 80, 81, 79, 78, 77, 76, 75, 74, 73, 72, 70, 71, 69, 68, 67, 66, 65, 64, 63, 62, 61, 60, 59, 57, 58, 56, 55, 54, 52, 53, 51, 50, 49, 48, 47, 46, 45, 43, 44, 42, 41, 40, 39, 38, 37, 36, 35, 34, 33, 32, 31, 30, 29, 28, 27, 26, 25, 24, 23, 22, 21, 20, 19, 18, 17, 16, 15, 14, 13, 12, 11, 10, 9, 8, 7, 6, 5, 4, 3, 2, 1, 0], [84, 83, 82, 80, 81, 79, 78, 77, 76, 75, 74, 73, 72, 70, 71, 69, 68, 67, 66, 65, 64, 63, 62, 61, 60, 59, 57, 58, 56, 55, 54, 52, 53, 51, 50, 49, 48, 47, 46, 45, 43, 44, 42, 41, 40, 39, 38, 37, 36, 35, 34, 33, 32, 31, 30, 29, 28, 27, 26, 25, 24, 23, 22, 21, 20, 19, 18, 17, 16, 15, 14, 13, 12, 11, 10, 9, 8, 7, 6, 5, 4, 3, 2, 1, 0], [85, 84, 83, 82, 80, 81, 79, 78, 77, 76, 75, 74, 73, 72, 70, 71, 69, 68, 67, 66, 65, 64, 63, 62, 61, 60, 59, 57, 58, 56, 55, 54, 52, 53, 51, 50, 49, 48, 47, 46, 45, 43, 44, 42, 41, 40, 39, 38, 37, 36, 35, 34, 33, 32, 31, 30, 29, 28, 27, 26, 25, 24, 23, 22, 21, 20, 19, 18, 17, 16, 15, 14, 13, 12, 11, 10, 9, 8, 7, 6, 5, 4, 3, 2, 1, 0], [86, 85, 84, 83, 82, 80, 81, 79, 78, 77, 76, 75, 74, 73, 72, 70, 71, 69, 68, 67, 66, 65, 64, 63, 62, 61, 60, 59, 57, 58, 56, 55, 54, 52, 53, 51, 50, 49, 48, 47, 46, 45, 43, 44, 42, 41, 40, 39, 38, 37, 36, 35, 34, 33, 32, 31, 30, 29, 28, 27, 26, 25, 24, 23, 22, 21, 20, 19, 18, 17, 16, 15, 14, 13, 12, 11, 10, 9, 8, 7, 6, 5, 4, 3, 2, 1, 0], [87, 86, 85, 84, 83, 82, 80, 81, 79, 78, 77, 76, 75, 74, 73, 72, 70, 71, 69, 68, 67, 66, 65, 64, 63, 62, 61, 60, 59, 57, 58, 56, 55, 54, 52, 53, 51, 50, 49, 48, 47, 46, 45, 43, 44, 42, 41, 40, 39, 38, 37, 36, 35, 34, 33, 32, 31, 30, 29, 28, 27, 26, 25, 24, 23, 22, 21, 20, 19, 18, 17, 16, 15, 14, 13, 12, 11, 10, 9, 8, 7, 6, 5, 4, 3, 2, 1, 0], [88, 87, 86, 85, 84, 83, 82, 80, 81, 79, 78, 77, 76, 75, 74, 73, 72, 70, 71, 69, 68, 67, 66, 65, 64, 63, 62, 61, 60, 59, 57, 58, 56, 55, 54, 52, 53, 51, 50, 49, 48, 47, 46, 45, 43, 44, 42, 41, 40, 39, 38, 37, 36, 35, 34, 33, 32, 31, 30, 29, 28, 27, 26, 25, 24, 23, 22, 21, 20, 19, 18, 17, 16, 15, 14, 13, 12, 11, 10, 9, 8, 7, 6, 5, 4, 3, 2, 1, 0], [89, 88, 87, 86, 85, 84, 83, 82, 80, 81, 79, 78, 77, 76, 75, 74, 73, 72, 70, 71, 69, 68, 67, 66, 65, 64, 63, 62, 61, 60, 59, 57, 58, 56, 55, 54, 52, 53, 51, 50, 49, 48, 47, 46, 45, 43, 44, 42, 41, 40, 39, 38, 37, 36, 35, 34, 33, 32, 31, 30, 29, 28, 27, 26, 25, 24, 23, 22, 21, 20, 19, 18, 17, 16, 15, 14, 13, 12, 11, 10, 9, 8, 7, 6, 5, 4, 3, 2, 1, 0], [90, 89, 88, 87, 86, 85, 84, 83, 82, 80, 81, 79, 78, 77, 76, 75, 74, 73, 72, 70, 71, 69, 68, 67, 66, 65, 64, 63, 62, 61, 60, 59, 57, 58, 56, 55, 54, 52, 53, 51, 50, 49, 48, 47, 46, 45, 43, 44, 42, 41, 40, 39, 38, 37, 36, 35, 34, 33, 32, 31, 30, 29, 28, 27, 26, 25, 24, 23, 22, 21, 20, 19, 18, 17, 16, 15, 14, 13, 12, 11, 10, 9, 8, 7, 6, 5, 4, 3, 2, 1, 0], [91, 90, 89, 88, 87, 86, 85, 84, 83, 82, 80, 81, 79, 78, 77, 76, 75, 74, 73, 72, 70, 71, 69, 68, 67, 66, 65, 64, 63, 62, 61, 60, 59, 57, 58, 56, 55, 54, 52, 53, 51, 50, 49, 48, 47, 46, 45, 43, 44, 42, 41, 40, 39, 38, 37, 36, 35, 34, 33, 32, 31, 30, 29, 28, 27, 26, 25, 24, 23, 22, 21, 20, 19, 18, 17, 16, 15, 14, 13, 12, 11, 10, 9, 8, 7, 6, 5, 4, 3, 2, 1, 0]])
 .ret))))))))))))))

theorem c31 : compF Try.prog 31 = some (180, [.tmp 0], k31) := by
 unfold compF; rw [Try.func31]; kernel_rfl

noncomputable abbrev k32 : CC :=
 (.seq
 (.ops [
 ⟨(some 3), none, .box (.tmp 1)⟩])
 (.seq
 (.ops [
 ⟨(some 4), none, .mov (.tmp 0)⟩,
 ⟨(some 5), none, .faddr 0 (.tmp 3)⟩,
 ⟨(some 6), none, .load false 1 (.tmp 5)⟩,
 ⟨(some 7), none, .call 8 [(.tmp 4), (.tmp 6)]⟩])
 (.seq
 (.ops [
 ⟨(some 8), none, .mov (.tmp 0)⟩,
 ⟨(some 9), none, .faddr 1 (.tmp 3)⟩,
 ⟨(some 10), none, .load false 1 (.tmp 9)⟩,
 ⟨(some 11), none, .call 66 [(.tmp 8), (.tmp 10)]⟩])
 (.seq
 (.ops [
 ⟨(some 12), none, .mov (.tmp 0)⟩,
 ⟨(some 13), none, .faddr 2 (.tmp 3)⟩,
 ⟨(some 14), none, .load false 1 (.tmp 13)⟩,
 ⟨(some 15), none, .call 8 [(.tmp 12), (.tmp 14)]⟩])
 (.seq
 (.ops [
 ⟨(some 16), none, .mov (.tmp 0)⟩,
 ⟨(some 17), none, .faddr 3 (.tmp 3)⟩,
 ⟨(some 18), none, .load false 1 (.tmp 17)⟩,
 ⟨(some 19), none, .call 67 [(.tmp 16), (.tmp 18)]⟩])
 (.ops [
 ⟨(some 20), none, .mov (.tmp 0)⟩,
 ⟨(some 21), none, .faddr 4 (.tmp 3)⟩,
 ⟨(some 22), none, .load false 1 (.tmp 21)⟩,
 ⟨(some 23), none, .call 68 [(.tmp 20), (.tmp 22)]⟩]))))))

theorem c32 : compF Try.prog 32 = some (24, [], k32) := by
 unfold compF; rw [Try.func32]; kernel_rfl

noncomputable abbrev k33 : CC :=
 (.seq
 (.ops [
 ⟨(some 3), none, .box (.tmp 0)⟩,
 ⟨(some 4), none, .box (.tmp 1)⟩,
 ⟨(some 6), none, .mov (.const (.bool false))⟩])
 (.seq
 (.ops [
 ⟨(some 7), none, .mov (.tmp 2)⟩,
 ⟨(some 8), none, .mkfn 70 [] [(.tmp 3), (.tmp 4)]⟩,
 ⟨(some 9), none, .call 69 [(.tmp 7), (.tmp 8)]⟩,
 ⟨(some 6), none, .mov (.tmp 9)⟩])
 .ret))

theorem c33 : compF Try.prog 33 = some (10, [.tmp 6], k33) := by
 unfold compF; rw [Try.func33]; kernel_rfl

noncomputable abbrev k34 : CC :=
 (.seq
 (.ops [
 ⟨(some 4), none, .mov (.const (.int 0))⟩,
 ⟨(some 5), none, .mov (.const (.int 0))⟩])
 (.seq
 (.seq
 (.ops [
 ⟨(some 9), none, .mov (.tmp 0)⟩,
 ⟨(some 10), none, .len .sl (.tmp 9)⟩,
 ⟨(some 11), none, .mov (.const (.int 0))⟩])
 (.block 0
 (.loop
 (.seq
 (.ops [
 ⟨(some 12), none, .bin .lss 3 (.tmp 11) (.tmp 10)⟩])
 (.seq
 (.cond (.tmp 12)
 .skip
 (.exit 0))
 (.seq
 (.block 1
 (.seq
 (.ops [
 ⟨(some 13), none, .mov (.tmp 11)⟩,
 ⟨(some 14), none, .iaddr 2 (.tmp 9) (.tmp 11)⟩,
 ⟨(some 15), none, .load true 2 (.tmp 14)⟩,
 ⟨(some 7), none, .alloc [(.int 0), (.int 0)]⟩,
 ⟨(some 6), none, .mov (.tmp 13)⟩,
 ⟨none, none, .store 2 (.tmp 7) (.tmp 15)⟩])
 (.seq
 (.ops [
 ⟨(some 16), none, .mov (.tmp 1)⟩,
 ⟨(some 17), none, .mov (.tmp 6)⟩,
 ⟨(some 18), none, .load true 2 (.tmp 7)⟩,
 ⟨(some 19), none, .callv (.tmp 16) [(.tmp 17), (.tmp 18)]⟩,
 ⟨(some 8), none, .mov (.tmp 19)⟩])
 (.seq
 (.ops [
 ⟨(some 20), none, .mov (.tmp 8)⟩,
 ⟨(some 21), none, .bin .neq 36 (.tmp 20) (.const (.int 0))⟩])
 (.cond (.tmp 21)
 (.seq
 (.ops [
 ⟨(some 22), none, .mov (.tmp 6)⟩,
 ⟨(some 23), none, .mov (.tmp 8)⟩,
 ⟨(some 4), none, .mov (.tmp 22)⟩,
 ⟨(some 5), none, .mov (.tmp 23)⟩])
 .ret)
 .skip)))))
 (.ops [
 ⟨(some 24), none, .bin .add 3 (.tmp 11) (.const (.int 1))⟩,
 ⟨(some 11), none, .mov (.tmp 24)⟩])))))))
 (.seq
 (.ops [
 ⟨(some 4), none, .mov (.const (.int 0))⟩,
 ⟨(some 5), none, .mov (.const (.int 0))⟩])
 .ret)))

theorem c34 : compF Try.prog 34 = some (25, [.tmp 4, .tmp 5], k34) := by
 unfold compF; rw [Try.func34]; kernel_rfl

noncomputable abbrev k35 : CC :=
 (.seq
 (.ops [
 ⟨(some 3), none, .box (.tmp 1)⟩,
 ⟨(some 4), none, .mov (.const (.int 0))⟩])
 (.seq
 (.block 0
 (.seq
 (.ops [
 ⟨(some 6), none, .faddr 0 (.tmp 3)⟩,
 ⟨(some 7), none, .load false 1 (.tmp 6)⟩,
 ⟨(some 8), none, .faddr 1 (.tmp 3)⟩,
 ⟨(some 9), none, .load false 1 (.tmp 8)⟩,
 ⟨(some 10), none, .lit [(.int 0), (.int 0)] 2 [(0, 1, (.tmp 7)), (1, 1, (.tmp 9))]⟩,
 ⟨(some 11), none, .call 33 [(.const (.int 1)), (.const (.int 20)), (.tmp 10)]⟩,
 ⟨(some 5), none, .mov (.tmp 11)⟩])
 (.cond (.tmp 5)
 (.seq
 (.ops [
 ⟨(some 4), none, .mov (.const (.int 7))⟩])
 .ret)
 (.seq
 (.ops [
 ⟨(some 13), none, .faddr 0 (.tmp 3)⟩,
 ⟨(some 14), none, .load false 1 (.tmp 13)⟩,
 ⟨(some 15), none, .faddr 1 (.tmp 3)⟩,
 ⟨(some 16), none, .load false 1 (.tmp 15)⟩,
 ⟨(some 17), none, .bin .gtr 3 (.tmp 14) (.tmp 16)⟩,
 ⟨(some 12), none, .mov (.tmp 17)⟩])
 (.cond (.tmp 12)
 (.seq
 (.ops [
 ⟨(some 4), none, .mov (.const (.int 2))⟩])
 .ret)
 .skip)))))
 (.seq
 (.ops [
 ⟨(some 4), none, .mov (.const (.int 0))⟩])
 .ret)))

theorem c35 : compF Try.prog 35 = some (18, [.tmp 4], k35) := by
 unfold compF; rw [Try.func35]; kernel_rfl

noncomputable abbrev k36 : CC :=
 (.seq
 (.ops [
 ⟨(some 4), none, .mov (.const (.int 0))⟩,
 ⟨(some 5), none, .mov (.const (.int 0))⟩])
 (.seq
 (.seq
 (.ops [
 ⟨(some 9), none, .mov (.tmp 0)⟩,
 ⟨(some 10), none, .len .sl (.tmp 9)⟩,
 ⟨(some 11), none, .mov (.const (.int 0))⟩])
 (.block 0
 (.loop
 (.seq
 (.ops [
 ⟨(some 12), none, .bin .lss 3 (.tmp 11) (.tmp 10)⟩])
 (.seq
 (.cond (.tmp 12)
 .skip
 (.exit 0))
 (.seq
 (.block 1
 (.seq
 (.ops [
 ⟨(some 13), none, .mov (.tmp 11)⟩,
 ⟨(some 14), none, .iaddr 3 (.tmp 9) (.tmp 11)⟩,
 ⟨(some 15), none, .load true 3 (.tmp 14)⟩,
 ⟨(some 7), none, .alloc [(.str ⟨#[]⟩), (.int 0), (.int 0)]⟩,
 ⟨(some 6), none, .mov (.tmp 13)⟩,
 ⟨none, none, .store 3 (.tmp 7) (.tmp 15)⟩])
 (.seq
 (.ops [
 ⟨(some 16), none, .mov (.tmp 1)⟩,
 ⟨(some 17), none, .mov (.tmp 6)⟩,
 ⟨(some 18), none, .load true 3 (.tmp 7)⟩,
 ⟨(some 19), none, .callv (.tmp 16) [(.tmp 17), (.tmp 18)]⟩,
 ⟨(some 8), none, .mov (.tmp 19)⟩])
 (.seq
 (.ops [
 ⟨(some 20), none, .mov (.tmp 8)⟩,
 ⟨(some 21), none, .bin .neq 36 (.tmp 20) (.const (.int 0))⟩])
 (.cond (.tmp 21)
 (.seq
 (.ops [
 ⟨(some 22), none, .mov (.tmp 6)⟩,
 ⟨(some 23), none, .mov (.tmp 8)⟩,
 ⟨(some 4), none, .mov (.tmp 22)⟩,
 ⟨(some 5), none, .mov (.tmp 23)⟩])
 .ret)
 .skip)))))
 (.ops [
 ⟨(some 24), none, .bin .add 3 (.tmp 11) (.const (.int 1))⟩,
 ⟨(some 11), none, .mov (.tmp 24)⟩])))))))
 (.seq
 (.ops [
 ⟨(some 4), none, .mov (.const (.int 0))⟩,
 ⟨(some 5), none, .mov (.const (.int 0))⟩])
 .ret)))

theorem c36 : compF Try.prog 36 = some (25, [.tmp 4, .tmp 5], k36) := by
 unfold compF; rw [Try.func36]; kernel_rfl

noncomputable abbrev k37 : CC :=
 (.seq
 (.ops [
 ⟨(some 4), none, .box (.tmp 1)⟩,
 ⟨(some 5), none, .mov (.const (.int 0))⟩])
 (.seq
 (.block 0
 (.seq
 (.ops [
 ⟨(some 7), none, .faddr 0 (.tmp 4)⟩,
 ⟨(some 8), none, .load false 1 (.tmp 7)⟩,
 ⟨(some 9), none, .call 38 [(.tmp 8)]⟩,
 ⟨(some 10), none, .un .not (.tmp 9)⟩,
 ⟨(some 6), none, .mov (.tmp 10)⟩])
 (.cond (.tmp 6)
 (.seq
 (.ops [
 ⟨(some 5), none, .mov (.const (.int 6))⟩])
 .ret)
 (.seq
 (.ops [
 ⟨(some 12), none, .faddr 3 (.tmp 2)⟩,
 ⟨(some 13), none, .load false 1 (.tmp 12)⟩,
 ⟨(some 14), none, .mov (.tmp 0)⟩,
 ⟨(some 15), none, .slice 3 (.tmp 13) none (some (.tmp 14)) none⟩,
 ⟨(some 16), none, .mkfn 40 [] [(.tmp 4)]⟩,
 ⟨(some 17), none, .call 39 [(.tmp 15), (.tmp 16)]⟩,
 ⟨(some 11), none, .mov (.tmp 17)⟩])
 (.cond (.tmp 11)
 (.seq
 (.ops [
 ⟨(some 5), none, .mov (.const (.int 5))⟩])
 .ret)
 (.seq
 (.ops [
 ⟨(some 19), none, .faddr 1 (.tmp 4)⟩,
 ⟨(some 20), none, .load false 1 (.tmp 19)⟩,
 ⟨(some 21), none, .lit [(.int 0)] 1 [(0, 1, (.tmp 20))]⟩,
 ⟨(some 22), none, .call 33 [(.const (.int 0)), (.const (.int 20)), (.tmp 21)]⟩,
 ⟨(some 23), none, .mov (.tmp 22)⟩,
 ⟨(some 24), (some (23, false)), .faddr 2 (.tmp 4)⟩,
 ⟨(some 25), (some (23, false)), .load false 1 (.tmp 24)⟩,
 ⟨(some 26), (some (23, false)), .lit [(.int 0)] 1 [(0, 1, (.tmp 25))]⟩,
 ⟨(some 27), (some (23, false)), .call 33 [(.const (.int 0)), (.const (.int 2)), (.tmp 26)]⟩,
 ⟨(some 28), none, .pick (.tmp 23) (.const (.bool true)) (.tmp 27)⟩,
 ⟨(some 18), none, .mov (.tmp 28)⟩])
 (.cond (.tmp 18)
 (.seq
 (.ops [
 ⟨(some 5), none, .mov (.const (.int 7))⟩])
 .ret)
 .skip)))))))
 (.seq
 (.ops [
 ⟨(some 5), none, .mov (.const (.int 0))⟩])
 .ret)))

theorem c37 : compF Try.prog 37 = some (29, [.tmp 5], k37) := by
 unfold compF; rw [Try.func37]; kernel_rfl

noncomputable abbrev k38 : CC :=
 (.seq
 (.ops [
 ⟨(some 2), none, .mov (.const (.bool false))⟩])
 (.seq
 (.seq
 (.ops [
 ⟨(some 6), none, .mov (.tmp 0)⟩,
 ⟨(some 7), none, .srange (.tmp 6)⟩])
 (.block 0
 (.loop
 (.seq
 (.ops [
 ⟨(some 8), none, .snext (.tmp 7)⟩,
 ⟨(some 9), none, .extract (.tmp 8) 0⟩])
 (.seq
 (.cond (.tmp 9)
 .skip
 (.exit 0))
 (.block 1
 (.seq
 (.ops [
 ⟨(some 10), none, .extract (.tmp 8) 1⟩,
 ⟨(some 11), none, .extract (.tmp 8) 2⟩,
 ⟨(some 3), none, .mov (.tmp 10)⟩,
 ⟨(some 4), none, .mov (.tmp 11)⟩])
 (.seq
 (.ops [
 ⟨(some 12), none, .mov (.tmp 4)⟩,
 ⟨(some 13), none, .bin .geq 21 (.tmp 12) (.const (.v (.int .i32 97)))⟩,
 ⟨(some 14), none, .mov (.tmp 13)⟩,
 ⟨(some 15), (some (14, true)), .mov (.tmp 4)⟩,
 ⟨(some 16), (some (14, true)), .bin .leq 21 (.tmp 15) (.const (.v (.int .i32 122)))⟩,
 ⟨(some 17), none, .pick (.tmp 14) (.tmp 16) (.const (.bool false))⟩,
 ⟨(some 5), none, .mov (.tmp 17)⟩])
 (.seq
 (.ops [
 ⟨(some 18), none, .mov (.tmp 5)⟩,
 ⟨(some 19), none, .un .not (.tmp 18)⟩,
 ⟨(some 20), none, .mov (.tmp 19)⟩,
 ⟨(some 21), (some (20, true)), .mov (.tmp 3)⟩,
 ⟨(some 22), (some (20, true)), .bin .eql 3 (.tmp 21) (.const (.int 0))⟩,
 ⟨(some 23), (some (20, true)), .mov (.tmp 22)⟩,
 ⟨(some 24), (some (23, false)), .mov (.tmp 4)⟩,
 ⟨(some 25), (some (23, false)), .bin .neq 21 (.tmp 24) (.const (.v (.int .i32 46)))⟩,
 ⟨(some 26), (some (23, false)), .mov (.tmp 25)⟩,
 ⟨(some 27), (some (26, true)), .mov (.tmp 4)⟩,
 ⟨(some 28), (some (26, true)), .bin .lss 21 (.tmp 27) (.const (.v (.int .i32 48)))⟩,
 ⟨(some 29), (some (26, true)), .mov (.tmp 28)⟩,
 ⟨(some 30), (some (29, false)), .mov (.tmp 4)⟩,
 ⟨(some 31), (some (29, false)), .bin .gtr 21 (.tmp 30) (.const (.v (.int .i32 57)))⟩,
 ⟨(some 32), (some (26, true)), .pick (.tmp 29) (.const (.bool true)) (.tmp 31)⟩,
 ⟨(some 33), (some (23, false)), .pick (.tmp 26) (.tmp 32) (.const (.bool false))⟩,
 ⟨(some 34), (some (20, true)), .pick (.tmp 23) (.const (.bool true)) (.tmp 33)⟩,
 ⟨(some 35), none, .pick (.tmp 20) (.tmp 34) (.const (.bool false))⟩])
 (.cond (.tmp 35)
 (.seq
 (.ops [
 ⟨(some 2), none, .mov (.const (.bool false))⟩])
 .ret)
 .skip))))))))))
 (.seq
 (.ops [
 ⟨(some 36), none, .mov (.tmp 0)⟩,
 ⟨(some 37), none, .len .str (.tmp 36)⟩,
 ⟨(some 38), none, .lit [(.int 0)] 1 [(0, 1, (.tmp 37))]⟩,
 ⟨(some 39), none, .call 71 [(.const (.int 1)), (.const (.int 16)), (.tmp 38)]⟩,
 ⟨(some 40), none, .un .not (.tmp 39)⟩,
 ⟨(some 2), none, .mov (.tmp 40)⟩])
 .ret)))

theorem c38 : compF Try.prog 38 = some (41, [.tmp 2], k38) := by
 unfold compF; rw [Try.func38]; kernel_rfl

noncomputable abbrev k39 : CC :=
 (.seq
 (.ops [
 ⟨(some 4), none, .mov (.const (.bool false))⟩])
 (.seq
 (.ops [
 ⟨(some 5), none, .mov (.tmp 0)⟩,
 ⟨(some 6), none, .mov (.tmp 1)⟩,
 ⟨(some 7), none, .call 72 [(.tmp 5), (.tmp 6)]⟩,
 ⟨(some 8), none, .bin .geq 3 (.tmp 7) (.const (.int 0))⟩,
 ⟨(some 4), none, .mov (.tmp 8)⟩])
 .ret))

theorem c39 : compF Try.prog 39 = some (9, [.tmp 4], k39) := by
 unfold compF; rw [Try.func39]; kernel_rfl

noncomputable abbrev k40 : CC :=
 (.seq
 (.ops [
 ⟨(some 2), none, .box (.tmp 0)⟩,
 ⟨(some 3), none, .mov (.const (.bool false))⟩])
 (.seq
 (.ops [
 ⟨(some 4), none, .faddr 0 (.tmp 2)⟩,
 ⟨(some 5), none, .load false 1 (.tmp 4)⟩,
 ⟨(some 6), none, .faddr 0 (.tmp 1)⟩,
 ⟨(some 7), none, .load false 1 (.tmp 6)⟩,
 ⟨(some 8), none, .bin .eql 9 (.tmp 5) (.tmp 7)⟩,
 ⟨(some 3), none, .mov (.tmp 8)⟩])
 .ret))

theorem c40 : compF Try.prog 40 = some (9, [.tmp 3], k40) := by
 unfold compF; rw [Try.func40]; kernel_rfl

noncomputable abbrev k41 : CC :=
 (.seq
 (.ops [
 ⟨(some 4), none, .mov (.const (.int 0))⟩,
 ⟨(some 5), none, .mov (.const (.int 0))⟩])
 (.seq
 (.seq
 (.ops [
 ⟨(some 9), none, .mov (.tmp 0)⟩,
 ⟨(some 10), none, .len .sl (.tmp 9)⟩,
 ⟨(some 11), none, .mov (.const (.int 0))⟩])
 (.block 0
 (.loop
 (.seq
 (.ops [
 ⟨(some 12), none, .bin .lss 3 (.tmp 11) (.tmp 10)⟩])
 (.seq
 (.cond (.tmp 12)
 .skip
 (.exit 0))
 (.seq
 (.block 1
 (.seq
 (.ops [
 ⟨(some 13), none, .mov (.tmp 11)⟩,
 ⟨(some 14), none, .iaddr 4 (.tmp 9) (.tmp 11)⟩,
 ⟨(some 15), none, .load true 4 (.tmp 14)⟩,
 ⟨(some 7), none, .alloc [(.int 0), (.int 0), (.int 0), (.int 0)]⟩,
 ⟨(some 6), none, .mov (.tmp 13)⟩,
 ⟨none, none, .store 4 (.tmp 7) (.tmp 15)⟩])
 (.seq
 (.ops [
 ⟨(some 16), none, .mov (.tmp 1)⟩,
 ⟨(some 17), none, .mov (.tmp 6)⟩,
 ⟨(some 18), none, .load true 4 (.tmp 7)⟩,
 ⟨(some 19), none, .callv (.tmp 16) [(.tmp 17), (.tmp 18)]⟩,
 ⟨(some 8), none, .mov (.tmp 19)⟩])
 (.seq
 (.ops [
 ⟨(some 20), none, .mov (.tmp 8)⟩,
 ⟨(some 21), none, .bin .neq 36 (.tmp 20) (.const (.int 0))⟩])
 (.cond (.tmp 21)
 (.seq
 (.ops [
 ⟨(some 22), none, .mov (.tmp 6)⟩,
 ⟨(some 23), none, .mov (.tmp 8)⟩,
 ⟨(some 4), none, .mov (.tmp 22)⟩,
 ⟨(some 5), none, .mov (.tmp 23)⟩])
 .ret)
 .skip)))))
 (.ops [
 ⟨(some 24), none, .bin .add 3 (.tmp 11) (.const (.int 1))⟩,
 ⟨(some 11), none, .mov (.tmp 24)⟩])))))))
 (.seq
 (.ops [
 ⟨(some 4), none, .mov (.const (.int 0))⟩,
 ⟨(some 5), none, .mov (.const (.int 0))⟩])
 .ret)))

theorem c41 : compF Try.prog 41 = some (25, [.tmp 4, .tmp 5], k41) := by
 unfold compF; rw [Try.func41]; kernel_rfl

noncomputable abbrev k42 : CC :=
 (.seq
 (.ops [
 ⟨(some 4), none, .box (.tmp 1)⟩,
 ⟨(some 5), none, .mov (.const (.int 0))⟩])
 (.seq
 (.block 0
 (.seq
 (.ops [
 ⟨(some 7), none, .faddr 3 (.tmp 2)⟩,
 ⟨(some 8), none, .load false 1 (.tmp 7)⟩,
 ⟨(some 9), none, .len .sl (.tmp 8)⟩,
 ⟨(some 10), none, .bin .sub 3 (.tmp 9) (.const (.int 1))⟩,
 ⟨(some 11), none, .faddr 0 (.tmp 4)⟩,
 ⟨(some 12), none, .load false 1 (.tmp 11)⟩,
 ⟨(some 13), none, .lit [(.int 0)] 1 [(0, 1, (.tmp 12))]⟩,
 ⟨(some 14), none, .call 33 [(.const (.int 0)), (.tmp 10), (.tmp 13)]⟩,
 ⟨(some 15), none, .mov (.tmp 14)⟩,
 ⟨(some 16), (some (15, false)), .faddr 0 (.tmp 2)⟩,
 ⟨(some 17), (some (15, false)), .load false 1 (.tmp 16)⟩,
 ⟨(some 18), (some (15, false)), .bin .sub 3 (.tmp 17) (.const (.int 1))⟩,
 ⟨(some 19), (some (15, false)), .faddr 1 (.tmp 4)⟩,
 ⟨(some 20), (some (15, false)), .load false 1 (.tmp 19)⟩,
 ⟨(some 21), (some (15, false)), .lit [(.int 0)] 1 [(0, 1, (.tmp 20))]⟩,
 ⟨(some 22), (some (15, false)), .call 33 [(.const (.int 0)), (.tmp 18), (.tmp 21)]⟩,
 ⟨(some 23), none, .pick (.tmp 15) (.const (.bool true)) (.tmp 22)⟩,
 ⟨(some 6), none, .mov (.tmp 23)⟩])
 (.cond (.tmp 6)
 (.seq
 (.ops [
 ⟨(some 5), none, .mov (.const (.int 4))⟩])
 .ret)
 (.seq
 (.ops [
 ⟨(some 25), none, .faddr 2 (.tmp 4)⟩,
 ⟨(some 26), none, .load false 1 (.tmp 25)⟩,
 ⟨(some 27), none, .lit [(.int 0)] 1 [(0, 1, (.tmp 26))]⟩,
 ⟨(some 28), none, .call 33 [(.const (.int 0)), (.const (.int 99)), (.tmp 27)]⟩,
 ⟨(some 29), none, .mov (.tmp 28)⟩,
 ⟨(some 30), (some (29, false)), .faddr 3 (.tmp 4)⟩,
 ⟨(some 31), (some (29, false)), .load false 1 (.tmp 30)⟩,
 ⟨(some 32), (some (29, false)), .lit [(.int 0)] 1 [(0, 1, (.tmp 31))]⟩,
 ⟨(some 33), (some (29, false)), .call 33 [(.const (.int (-1))), (.const (.int 198)), (.tmp 32)]⟩,
 ⟨(some 34), none, .pick (.tmp 29) (.const (.bool true)) (.tmp 33)⟩,
 ⟨(some 24), none, .mov (.tmp 34)⟩])
 (.cond (.tmp 24)
 (.seq
 (.ops [
 ⟨(some 5), none, .mov (.const (.int 7))⟩])
 .ret)
 .skip)))))
 (.seq
 (.ops [
 ⟨(some 5), none, .mov (.const (.int 0))⟩])
 .ret)))

theorem c42 : compF Try.prog 42 = some (35, [.tmp 5], k42) := by
 unfold compF; rw [Try.func42]; kernel_rfl

noncomputable abbrev k43 : CC :=
 (.seq
 (.ops [
 ⟨(some 3), none, .box (.tmp 0)⟩,
 ⟨(some 6), none, .mov (.const (.v (.pointer none)))⟩,
 ⟨(some 7), none, .mov (.const (.int 0))⟩])
 (.seq
 (.seq
 (.ops [
 ⟨(some 14), none, .load true 5 (.tmp 3)⟩,
 ⟨(some 15), none, .call 7 [(.tmp 14)]⟩,
 ⟨(some 13), none, .mov (.tmp 15)⟩,
 ⟨(some 16), none, .extract (.tmp 13) 0⟩,
 ⟨(some 17), none, .extract (.tmp 13) 1⟩,
 ⟨(some 18), none, .extract (.tmp 13) 2⟩,
 ⟨(some 8), none, .mov (.tmp 16)⟩,
 ⟨(some 9), none, .mov (.tmp 17)⟩,
 ⟨(some 10), none, .mov (.tmp 18)⟩])
 (.seq
 (.ops [
 ⟨(some 19), none, .mov (.tmp 10)⟩,
 ⟨(some 20), none, .bin .neq 36 (.tmp 19) (.const (.int 0))⟩])
 (.cond (.tmp 20)
 (.seq
 (.ops [
 ⟨(some 21), none, .mov (.tmp 10)⟩,
 ⟨(some 6), none, .mov (.const (.v (.pointer none)))⟩,
 ⟨(some 7), none, .mov (.tmp 21)⟩])
 .ret)
 .skip)))
 (.seq
 (.seq
 (.ops [
 ⟨(some 22), none, .mov (.tmp 2)⟩,
 ⟨(some 23), none, .callv (.tmp 22) []⟩,
 ⟨(some 11), none, .mov (.tmp 23)⟩])
 (.seq
 (.ops [
 ⟨(some 24), none, .mov (.tmp 11)⟩,
 ⟨(some 25), none, .bin .neq 36 (.tmp 24) (.const (.int 0))⟩])
 (.cond (.tmp 25)
 (.seq
 (.ops [
 ⟨(some 26), none, .mov (.tmp 11)⟩,
 ⟨(some 6), none, .mov (.const (.v (.pointer none)))⟩,
 ⟨(some 7), none, .mov (.tmp 26)⟩])
 .ret)
 .skip)))
 (.seq
 (.ops [
 ⟨(some 27), none, .load true 5 (.tmp 3)⟩,
 ⟨(some 28), none, .mov (.tmp 1)⟩,
 ⟨(some 29), none, .call 58 [(.tmp 27), (.tmp 28)]⟩,
 ⟨(some 12), none, .mov (.tmp 29)⟩])
 (.seq
 (.seq
 (.ops [
 ⟨(some 30), none, .mov (.tmp 12)⟩,
 ⟨(some 31), none, .call 59 [(.tmp 30)]⟩,
 ⟨(some 32), none, .un .not (.tmp 31)⟩])
 (.cond (.tmp 32)
 (.seq
 (.ops [
 ⟨(some 6), none, .mov (.const (.v (.pointer none)))⟩,
 ⟨(some 7), none, .mov (.const (.int 8))⟩])
 .ret)
 .skip))
 (.seq
 (.ops [
 ⟨(some 33), none, .mov (.tmp 12)⟩,
 ⟨(some 6), none, .mov (.tmp 33)⟩,
 ⟨(some 7), none, .mov (.const (.int 0))⟩])
 .ret))))))

theorem c43 : compF Try.prog 43 = some (34, [.tmp 6, .tmp 7], k43) := by
 unfold compF; rw [Try.func43]; kernel_rfl

noncomputable abbrev k44 : CC :=
 (.seq
 (.ops [
 ⟨(some 0), none, .mov (.const (.int 0))⟩])
 (.seq
 (.ops [
 ⟨(some 0), none, .mov (.const (.int 0))⟩])
 .ret))

theorem c44 : compF Try.prog 44 = some (1, [.tmp 0], k44) := by
 unfold compF; rw [Try.func44]; kernel_rfl

noncomputable abbrev k45 : CC :=
 (.seq
 (.ops [
 ⟨(some 1), none, .box (.tmp 0)⟩,
 ⟨(some 2), none, .mov (.const (.v .nilFunc))⟩])
 (.seq
 (.ops [
 ⟨(some 3), none, .mkfn 73 [] [(.tmp 1)]⟩,
 ⟨(some 2), none, .mov (.tmp 3)⟩])
 .ret))

theorem c45 : compF Try.prog 45 = some (4, [.tmp 2], k45) := by
 unfold compF; rw [Try.func45]; kernel_rfl

noncomputable abbrev k46 : CC :=
 (.seq
 (.ops [
 ⟨(some 7), none, .mov (.tmp 0)⟩,
 ⟨(some 8), none, .mov (.tmp 0)⟩,
 ⟨(some 9), none, .nilchk (.tmp 8)⟩,
 ⟨(some 10), none, .faddr 0 (.tmp 9)⟩,
 ⟨(some 11), none, .load false 1 (.tmp 10)⟩,
 ⟨(some 12), none, .mov (.tmp 1)⟩,
 ⟨(some 13), none, .len .sl (.tmp 12)⟩,
 ⟨(some 14), none, .lit [(.int 0)] 1 [(0, 1, (.tmp 13))]⟩,
 ⟨(some 15), none, .append 1 8 [(.int 0)] (.tmp 11) (.tmp 14)⟩,
 ⟨(some 16), none, .nilchk (.tmp 7)⟩,
 ⟨(some 17), none, .faddr 0 (.tmp 16)⟩,
 ⟨none, none, .store 1 (.tmp 17) (.tmp 15)⟩])
 (.seq
 (.ops [
 ⟨(some 6), none, .mov (.const (.int 0))⟩])
 (.block 0
 (.loop
 (.seq
 (.seq
 (.ops [
 ⟨(some 18), none, .mov (.tmp 6)⟩,
 ⟨(some 19), none, .mov (.tmp 1)⟩,
 ⟨(some 20), none, .len .sl (.tmp 19)⟩,
 ⟨(some 21), none, .bin .lss 3 (.tmp 18) (.tmp 20)⟩])
 (.cond (.tmp 21)
 .skip
 (.exit 0)))
 (.seq
 (.block 1
 (.ops [
 ⟨(some 24), none, .mov (.tmp 2)⟩,
 ⟨(some 25), none, .mov (.tmp 0)⟩,
 ⟨(some 26), none, .mov (.tmp 1)⟩,
 ⟨(some 27), none, .mov (.tmp 6)⟩,
 ⟨(some 28), none, .iaddr 1 (.tmp 26) (.tmp 27)⟩,
 ⟨(some 29), none, .load false 1 (.tmp 28)⟩,
 ⟨(some 30), none, .callv (.tmp 24) [(.tmp 25), (.tmp 29)]⟩]))
 (.ops [
 ⟨(some 22), none, .mov (.tmp 6)⟩,
 ⟨(some 23), none, .bin .add 3 (.tmp 22) (.const (.int 1))⟩,
 ⟨(some 6), none, .mov (.tmp 23)⟩])))))))

theorem c46 : compF Try.prog 46 = some (31, [], k46) := by
 unfold compF; rw [Try.func46]; kernel_rfl

noncomputable abbrev k47 : CC :=
 (.seq
 (.ops [
 ⟨(some 4), none, .mov (.const (.int 0))⟩])
 (.block 0
 (.loop
 (.seq
 (.seq
 (.ops [
 ⟨(some 5), none, .mov (.tmp 4)⟩,
 ⟨(some 6), none, .mov (.tmp 0)⟩,
 ⟨(some 7), none, .len .sl (.tmp 6)⟩,
 ⟨(some 8), none, .bin .lss 3 (.tmp 5) (.tmp 7)⟩])
 (.cond (.tmp 8)
 .skip
 (.exit 0)))
 (.seq
 (.block 1
 (.ops [
 ⟨(some 11), none, .mov (.tmp 1)⟩,
 ⟨(some 12), none, .mov (.tmp 0)⟩,
 ⟨(some 13), none, .mov (.tmp 4)⟩,
 ⟨(some 14), none, .iaddr 1 (.tmp 12) (.tmp 13)⟩,
 ⟨(some 15), none, .callv (.tmp 11) [(.tmp 14)]⟩]))
 (.ops [
 ⟨(some 9), none, .mov (.tmp 4)⟩,
 ⟨(some 10), none, .bin .add 3 (.tmp 9) (.const (.int 1))⟩,
 ⟨(some 4), none, .mov (.tmp 10)⟩]))))))

theorem c47 : compF Try.prog 47 = some (16, [], k47) := by
 unfold compF; rw [Try.func47]; kernel_rfl

noncomputable abbrev k48 : CC :=
 (.ops [
 ⟨(some 2), none, .mov (.tmp 0)⟩,
 ⟨(some 3), none, .nilchk (.tmp 2)⟩,
 ⟨none, none, .store 1 (.tmp 3) (.const (.int (-77)))⟩])

theorem c48 : compF Try.prog 48 = some (4, [], k48) := by
 unfold compF; rw [Try.func48]; kernel_rfl

noncomputable abbrev k49 : CC :=
 (.seq
 (.ops [
 ⟨(some 1), none, .box (.tmp 0)⟩,
 ⟨(some 2), none, .mov (.const (.v .nilFunc))⟩])
 (.seq
 (.ops [
 ⟨(some 3), none, .mkfn 75 [] [(.tmp 1)]⟩,
 ⟨(some 2), none, .mov (.tmp 3)⟩])
 .ret))

theorem c49 : compF Try.prog 49 = some (4, [.tmp 2], k49) := by
 unfold compF; rw [Try.func49]; kernel_rfl

noncomputable abbrev k50 : CC :=
 (.seq
 (.ops [
 ⟨(some 3), none, .box (.tmp 1)⟩,
 ⟨(some 4), none, .alloc [(.int 0), (.int 0)]⟩])
 (.seq
 (.ops [
 ⟨(some 5), none, .alloc [(.bool false)]⟩,
 ⟨none, none, .store 1 (.tmp 5) (.const (.bool true))⟩])
 (.seq
 (.seq
 (.ops [
 ⟨(some 9), none, .mov (.tmp 0)⟩,
 ⟨(some 10), none, .call 45 [(.tmp 9)]⟩])
 (.block 0
 (.rangef (.tmp 10) [11] (rfA Try.f50 0) (rfB Try.f50 0))))
 (.seq
 (.ops [
 ⟨(some 32), none, .load true 2 (.tmp 4)⟩,
 ⟨none, none, .store 2 (.tmp 4) (.tmp 32)⟩])
 .ret))))

theorem c50 : compF Try.prog 50 = some (33, [.cell 4 48], k50) := by
 unfold compF; rw [Try.func50]; kernel_rfl

theorem a50_0 : comp Try.prog 33 (rfA Try.f50 0) = (some
 (.ops [
 ⟨(some 6), none, .alloc [(.int 0), (.int 0), (.int 0)]⟩,
 ⟨none, none, .store 3 (.tmp 6) (.tmp 11)⟩])) := by
 kernel_rfl

theorem b50_0 : comp Try.prog 33 (rfB Try.f50 0) = (some
 (.block 1
 (.seq
 (.ops [
 ⟨(some 12), none, .load false 1 (.tmp 3)⟩,
 ⟨(some 13), none, .load true 3 (.tmp 6)⟩,
 ⟨(some 14), none, .callv (.tmp 12) [(.tmp 13)]⟩,
 ⟨(some 7), none, .mov (.tmp 14)⟩])
 (.seq
 (.seq
 (.ops [
 ⟨(some 15), none, .load false 1 (.tmp 5)⟩])
 (.cond (.tmp 15)
 (.ops [
 ⟨(some 16), none, .mov (.tmp 7)⟩,
 ⟨(some 17), none, .mov (.tmp 7)⟩,
 ⟨(some 18), none, .build [(.int 0), (.int 0)] [(0, 1, (.tmp 16)), (1, 1, (.tmp 17))]⟩,
 ⟨none, none, .store 2 (.tmp 4) (.tmp 18)⟩,
 ⟨none, none, .store 1 (.tmp 5) (.const (.bool false))⟩])
 .skip))
 (.seq
 (.ops [
 ⟨(some 19), none, .faddr 0 (.tmp 4)⟩,
 ⟨(some 20), none, .load false 1 (.tmp 19)⟩,
 ⟨(some 21), none, .mov (.tmp 7)⟩,
 ⟨(some 22), none, .mnmx false [(.tmp 20), (.tmp 21)]⟩,
 ⟨(some 23), none, .faddr 1 (.tmp 4)⟩,
 ⟨(some 24), none, .load false 1 (.tmp 23)⟩,
 ⟨(some 25), none, .mov (.tmp 7)⟩,
 ⟨(some 26), none, .mnmx true [(.tmp 24), (.tmp 25)]⟩,
 ⟨(some 27), none, .build [(.int 0), (.int 0)] [(0, 1, (.tmp 22)), (1, 1, (.tmp 26))]⟩,
 ⟨(some 8), none, .alloc [(.int 0), (.int 0)]⟩,
 ⟨none, none, .store 2 (.tmp 8) (.tmp 27)⟩])
 (.seq
 (.ops [
 ⟨(some 28), none, .load true 2 (.tmp 8)⟩,
 ⟨(some 29), none, .load true 2 (.tmp 4)⟩,
 ⟨(some 30), none, .bin .neq 48 (.tmp 28) (.tmp 29)⟩])
 (.cond (.tmp 30)
 (.ops [
 ⟨(some 31), none, .load true 2 (.tmp 8)⟩,
 ⟨none, none, .store 2 (.tmp 4) (.tmp 31)⟩])
 .skip))))))) := by
 kernel_rfl

noncomputable abbrev k51 : CC :=
 (.seq
 (.ops [
 ⟨(some 2), none, .box (.tmp 0)⟩,
 ⟨(some 3), none, .mov (.const (.int 0))⟩])
 (.seq
 (.ops [
 ⟨(some 4), none, .load false 1 (.tmp 1)⟩,
 ⟨(some 5), none, .iaddrarr 3 1 (.tmp 2) (.tmp 4)⟩,
 ⟨(some 6), none, .load false 1 (.tmp 5)⟩,
 ⟨(some 3), none, .mov (.tmp 6)⟩])
 .ret))

theorem c51 : compF Try.prog 51 = some (7, [.tmp 3], k51) := by
 unfold compF; rw [Try.func51]; kernel_rfl

noncomputable abbrev k52 : CC :=
 (.seq
 (.ops [
 ⟨(some 4), none, .mov (.const (.int 0))⟩])
 (.seq
 (.ops [
 ⟨(some 6), none, .load false 1 (.tmp 0)⟩,
 ⟨(some 7), none, .faddr 3 (.tmp 1)⟩,
 ⟨(some 8), none, .load false 1 (.tmp 7)⟩,
 ⟨(some 9), none, .len .sl (.tmp 8)⟩,
 ⟨(some 10), none, .load false 1 (.tmp 2)⟩,
 ⟨(some 11), none, .faddr 0 (.tmp 1)⟩,
 ⟨(some 12), none, .load false 1 (.tmp 11)⟩,
 ⟨(some 13), none, .lit [(.int 0), (.int 0), (.int 0), (.int 0)] 4 [(0, 1, (.tmp 6)), (1, 1, (.tmp 9)), (2, 1, (.tmp 10)), (3, 1, (.tmp 12))]⟩,
 ⟨(some 14), none, .call 49 [(.tmp 13)]⟩,
 ⟨(some 15), none, .callv (.tmp 14) []⟩,
 ⟨(some 5), none, .mov (.tmp 15)⟩])
 (.seq
 (.seq
 (.ops [
 ⟨(some 16), none, .mov (.tmp 5)⟩,
 ⟨(some 17), none, .bin .eql 36 (.tmp 16) (.const (.int 0))⟩,
 ⟨(some 18), none, .mov (.tmp 17)⟩,
 ⟨(some 19), (some (18, true)), .load false 1 (.tmp 3)⟩,
 ⟨(some 20), (some (18, true)), .lit [(.int 0)] 1 [(0, 1, (.tmp 19))]⟩,
 ⟨(some 21), (some (18, true)), .call 33 [(.const (.int 0)), (.const (.int 99)), (.tmp 20)]⟩,
 ⟨(some 22), none, .pick (.tmp 18) (.tmp 21) (.const (.bool false))⟩])
 (.cond (.tmp 22)
 (.ops [
 ⟨(some 5), none, .mov (.const (.int 7))⟩])
 .skip))
 (.seq
 (.ops [
 ⟨(some 23), none, .mov (.tmp 5)⟩,
 ⟨(some 4), none, .mov (.tmp 23)⟩])
 .ret))))

theorem c52 : compF Try.prog 52 = some (24, [.tmp 4], k52) := by
 unfold compF; rw [Try.func52]; kernel_rfl

noncomputable abbrev k53 : CC :=
 (.seq
 (.ops [
 ⟨(some 5), none, .box (.tmp 0)⟩,
 ⟨(some 6), none, .mov (.const (.int 0))⟩])
 (.seq
 (.draw [
 ⟨(some 7), none, .load false 1 (.tmp 1)⟩,
 ⟨(some 8), none, .load false 1 (.tmp 2)⟩,
 ⟨(some 9), none, .load false 1 (.tmp 3)⟩,
 ⟨(some 10), none, .load false 1 (.tmp 4)⟩,
 ⟨(some 11), none, .iaddrarr 3 1 (.tmp 5) (.tmp 10)⟩,
 ⟨(some 12), none, .load false 1 (.tmp 11)⟩,
 ⟨(some 13), none, .build [(.int 0), (.int 0), (.int 0)] [(0, 1, (.tmp 8)), (1, 1, (.tmp 9)), (2, 1, (.tmp 12))]⟩,
 ⟨(some 14), none, .call 54 [(.tmp 7), (.tmp 13)]⟩,
 ⟨(some 6), none, .mov (.tmp 14)⟩] [[], [], [], [], [3], [4, 3], [1, 2, 5, 4, 3], [0, 6, 1, 2, 5, 4, 3], [7, 0, 6, 1, 2, 5, 4, 3]])
 .ret))

theorem c53 : compF Try.prog 53 = some (15, [.tmp 6], k53) := by
 unfold compF; rw [Try.func53]; kernel_rfl

noncomputable abbrev k54 : CC :=
 (.seq
 (.ops [
 ⟨(some 3), none, .box (.tmp 1)⟩,
 ⟨(some 4), none, .mov (.const (.int 0))⟩])
 (.seq
 (.draw [
 ⟨(some 9), none, .mov (.tmp 0)⟩,
 ⟨(some 10), none, .nilchk (.tmp 9)⟩,
 ⟨(some 11), none, .faddr 0 (.tmp 10)⟩,
 ⟨(some 12), none, .faddr 3 (.tmp 11)⟩,
 ⟨(some 13), none, .load false 1 (.tmp 12)⟩,
 ⟨(some 14), none, .faddr 0 (.tmp 3)⟩,
 ⟨(some 15), none, .load false 1 (.tmp 14)⟩,
 ⟨(some 16), none, .iaddr 3 (.tmp 13) (.tmp 15)⟩,
 ⟨(some 17), none, .load true 3 (.tmp 16)⟩,
 ⟨(some 5), none, .alloc [(.str ⟨#[]⟩), (.int 0), (.int 0)]⟩,
 ⟨none, none, .store 3 (.tmp 5) (.tmp 17)⟩] [[], [0], [1, 0], [2, 1, 0], [3, 2, 1, 0], [], [5], [4, 6, 3, 2, 1, 0, 5], [7, 4, 6, 3, 2, 1, 0, 5], [], [8, 9, 7, 4, 6, 3, 2, 1, 0, 5]])
 (.seq
 (.seq
 (.ops [
 ⟨(some 18), none, .faddr 1 (.tmp 3)⟩,
 ⟨(some 19), none, .load false 1 (.tmp 18)⟩,
 ⟨(some 20), none, .faddr 1 (.tmp 5)⟩,
 ⟨(some 21), none, .load false 1 (.tmp 20)⟩,
 ⟨(some 22), none, .bin .leq 3 (.tmp 19) (.tmp 21)⟩])
 (.cond (.tmp 22)
 (.seq
 (.ops [
 ⟨(some 4), none, .mov (.const (.int 0))⟩])
 .ret)
 .skip))
 (.seq
 (.seq
 (.draw [
 ⟨(some 24), none, .mov (.tmp 0)⟩,
 ⟨(some 25), none, .nilchk (.tmp 24)⟩,
 ⟨(some 26), none, .faddr 9 (.tmp 25)⟩,
 ⟨(some 27), none, .load false 1 (.tmp 26)⟩,
 ⟨(some 28), none, .load true 3 (.tmp 3)⟩,
 ⟨(some 29), none, .lookup 93 (.int 0) true (.tmp 27) (.tmp 28)⟩,
 ⟨(some 23), none, .mov (.tmp 29)⟩,
 ⟨(some 30), none, .extract (.tmp 23) 0⟩,
 ⟨(some 31), none, .extract (.tmp 23) 1⟩,
 ⟨(some 6), none, .mov (.tmp 30)⟩,
 ⟨(some 7), none, .mov (.tmp 31)⟩] [[], [0], [1, 0], [2, 1, 0], [], [3, 4, 2, 1, 0], [5, 3, 4, 2, 1, 0], [6, 5, 3, 4, 2, 1, 0], [6, 5, 3, 4, 2, 1, 0], [7, 6, 5, 3, 4, 2, 1, 0], [8, 9, 7, 6, 5, 3, 4, 2, 1, 0]])
 (.seq
 (.ops [
 ⟨(some 32), none, .mov (.tmp 7)⟩])
 (.cond (.tmp 32)
 (.seq
 (.ops [
 ⟨(some 33), none, .mov (.tmp 6)⟩,
 ⟨(some 4), none, .mov (.tmp 33)⟩])
 .ret)
 .skip)))
 (.seq
 (.draw [
 ⟨(some 34), none, .mov (.tmp 0)⟩,
 ⟨(some 35), none, .faddr 2 (.tmp 5)⟩,
 ⟨(some 36), none, .load false 1 (.tmp 35)⟩,
 ⟨(some 37), none, .nilchk (.tmp 34)⟩,
 ⟨(some 38), none, .faddr 6 (.tmp 37)⟩,
 ⟨(some 39), none, .iaddrarr 3 1 (.tmp 38) (.tmp 36)⟩,
 ⟨(some 40), none, .faddr 0 (.tmp 39)⟩,
 ⟨(some 41), none, .load false 1 (.tmp 40)⟩,
 ⟨(some 42), none, .faddr 1 (.tmp 3)⟩,
 ⟨(some 43), none, .load false 1 (.tmp 42)⟩,
 ⟨(some 44), none, .faddr 1 (.tmp 5)⟩,
 ⟨(some 45), none, .load false 1 (.tmp 44)⟩,
 ⟨(some 46), none, .bin .sub 3 (.tmp 43) (.tmp 45)⟩,
 ⟨(some 47), none, .faddr 2 (.tmp 3)⟩,
 ⟨(some 48), none, .load false 1 (.tmp 47)⟩,
 ⟨(some 49), none, .bin .mul 3 (.tmp 46) (.tmp 48)⟩,
 ⟨(some 50), none, .callv (.tmp 41) [(.tmp 49)]⟩,
 ⟨(some 8), none, .mov (.tmp 50)⟩] [[], [], [1], [0], [3, 0], [4, 2, 3, 0, 1], [5, 4, 2, 3, 0, 1], [6, 5, 4, 2, 3, 0, 1], [], [8], [], [10], [9, 11, 8, 10], [], [13], [12, 14, 9, 11, 8, 10, 13], [7, 15, 6, 5, 4, 2, 3, 0, 1, 12, 14, 9, 11, 8, 10, 13], [16, 7, 15, 6, 5, 4, 2, 3, 0, 1, 12, 14, 9, 11, 8, 10, 13]])
 (.seq
 (.draw [
 ⟨(some 51), none, .mov (.tmp 0)⟩,
 ⟨(some 52), none, .nilchk (.tmp 51)⟩,
 ⟨(some 53), none, .faddr 9 (.tmp 52)⟩,
 ⟨(some 54), none, .load false 1 (.tmp 53)⟩,
 ⟨(some 55), none, .load true 3 (.tmp 3)⟩,
 ⟨(some 56), none, .mov (.tmp 8)⟩,
 ⟨none, none, .mapset 93 (.tmp 54) (.tmp 55) (.tmp 56)⟩] [[], [0], [1, 0], [2, 1, 0], [], [], [3, 4, 5, 2, 1, 0]])
 (.seq
 (.ops [
 ⟨(some 57), none, .mov (.tmp 8)⟩,
 ⟨(some 4), none, .mov (.tmp 57)⟩])
 .ret)))))))

theorem c54 : compF Try.prog 54 = some (58, [.tmp 4], k54) := by
 unfold compF; rw [Try.func54]; kernel_rfl

noncomputable abbrev k55 : CC :=
 (.seq
 (.ops [
 ⟨(some 4), none, .box (.tmp 1)⟩,
 ⟨(some 5), none, .box (.tmp 2)⟩,
 ⟨(some 6), none, .mov (.const (.int 0))⟩])
 (.seq
 (.draw [
 ⟨(some 7), none, .mov (.tmp 0)⟩,
 ⟨(some 8), none, .faddr 0 (.tmp 4)⟩,
 ⟨(some 9), none, .load false 1 (.tmp 8)⟩,
 ⟨(some 10), none, .faddr 2 (.tmp 4)⟩,
 ⟨(some 11), none, .load false 1 (.tmp 10)⟩,
 ⟨(some 12), none, .faddr 1 (.tmp 4)⟩,
 ⟨(some 13), none, .load false 1 (.tmp 12)⟩,
 ⟨(some 14), none, .iaddrarr 3 1 (.tmp 5) (.tmp 13)⟩,
 ⟨(some 15), none, .load false 1 (.tmp 14)⟩,
 ⟨(some 16), none, .build [(.int 0), (.int 0), (.int 0)] [(0, 1, (.tmp 9)), (1, 1, (.tmp 11)), (2, 1, (.tmp 15))]⟩,
 ⟨(some 17), none, .call 54 [(.tmp 7), (.tmp 16)]⟩,
 ⟨(some 6), none, .mov (.tmp 17)⟩] [[], [], [1], [], [3], [], [5], [6, 5], [7, 6, 5], [2, 4, 8, 1, 3, 7, 6, 5], [0, 9, 2, 4, 8, 1, 3, 7, 6, 5], [10, 0, 9, 2, 4, 8, 1, 3, 7, 6, 5]])
 .ret))

theorem c55 : compF Try.prog 55 = some (18, [.tmp 6], k55) := by
 unfold compF; rw [Try.func55]; kernel_rfl

noncomputable abbrev k56 : CC :=
 (.seq
 (.ops [
 ⟨(some 4), none, .mov (.const (.list .exact [] 0))⟩])
 (.seq
 (.seq
 (.ops [
 ⟨(some 6), none, .mov (.tmp 1)⟩,
 ⟨(some 7), none, .mov (.const (.int 0))⟩])
 (.block 0
 (.loop
 (.seq
 (.ops [
 ⟨(some 8), none, .bin .lss 3 (.tmp 7) (.tmp 6)⟩])
 (.seq
 (.cond (.tmp 8)
 .skip
 (.exit 0))
 (.seq
 (.block 1
 (.seq
 (.ops [
 ⟨(some 9), none, .mov (.tmp 7)⟩,
 ⟨(some 5), none, .mov (.tmp 9)⟩])
 (.seq
 (.ops [
 ⟨(some 10), none, .mov (.tmp 0)⟩,
 ⟨(some 11), none, .mov (.tmp 5)⟩,
 ⟨(some 12), none, .bin .shr 3 (.tmp 10) (.tmp 11)⟩,
 ⟨(some 13), none, .bin .and 3 (.tmp 12) (.const (.int 1))⟩,
 ⟨(some 14), none, .bin .eql 3 (.tmp 13) (.const (.int 1))⟩])
 (.cond (.tmp 14)
 (.ops [
 ⟨(some 15), none, .mov (.tmp 4)⟩,
 ⟨(some 16), none, .mov (.tmp 5)⟩,
 ⟨(some 17), none, .lit [(.int 0)] 1 [(0, 1, (.tmp 16))]⟩,
 ⟨(some 18), none, .append 1 8 [(.int 0)] (.tmp 15) (.tmp 17)⟩,
 ⟨(some 4), none, .mov (.tmp 18)⟩])
 .skip))))
 (.ops [
 ⟨(some 19), none, .bin .add 3 (.tmp 7) (.const (.int 1))⟩,
 ⟨(some 7), none, .mov (.tmp 19)⟩])))))))
 (.seq
 (.ops [
 ⟨(some 20), none, .mov (.tmp 4)⟩,
 ⟨(some 4), none, .mov (.tmp 20)⟩])
 .ret)))

theorem c56 : compF Try.prog 56 = some (21, [.tmp 4], k56) := by
 unfold compF; rw [Try.func56]; kernel_rfl

noncomputable abbrev k57 : CC :=
 (.seq
 (.ops [
 ⟨(some 4), none, .mov (.const (.int 0))⟩])
 (.seq
 (.seq
 (.ops [
 ⟨(some 9), none, .mov (.tmp 0)⟩,
 ⟨(some 10), none, .len .sl (.tmp 9)⟩,
 ⟨(some 11), none, .mov (.const (.int 0))⟩])
 (.block 0
 (.loop
 (.seq
 (.ops [
 ⟨(some 12), none, .bin .lss 3 (.tmp 11) (.tmp 10)⟩])
 (.seq
 (.cond (.tmp 12)
 .skip
 (.exit 0))
 (.seq
 (.block 1
 (.seq
 (.ops [
 ⟨(some 13), none, .mov (.tmp 11)⟩,
 ⟨(some 14), none, .iaddr 1 (.tmp 9) (.tmp 11)⟩,
 ⟨(some 15), none, .load false 1 (.tmp 14)⟩,
 ⟨(some 5), none, .mov (.tmp 13)⟩,
 ⟨(some 6), none, .mov (.tmp 15)⟩])
 (.seq
 (.seq
 (.ops [
 ⟨(some 16), none, .mov (.tmp 5)⟩,
 ⟨(some 17), none, .mov (.tmp 1)⟩,
 ⟨(some 18), none, .len .sl (.tmp 17)⟩,
 ⟨(some 19), none, .bin .geq 3 (.tmp 16) (.tmp 18)⟩])
 (.cond (.tmp 19)
 (.seq
 (.ops [
 ⟨(some 4), none, .mov (.const (.int 1))⟩])
 .ret)
 .skip))
 (.seq
 (.ops [
 ⟨(some 20), none, .mov (.tmp 1)⟩,
 ⟨(some 21), none, .mov (.tmp 5)⟩,
 ⟨(some 22), none, .iaddr 1 (.tmp 20) (.tmp 21)⟩,
 ⟨(some 23), none, .load false 1 (.tmp 22)⟩,
 ⟨(some 7), none, .mov (.tmp 23)⟩])
 (.seq
 (.ops [
 ⟨(some 24), none, .mov (.tmp 6)⟩,
 ⟨(some 25), none, .mov (.tmp 7)⟩,
 ⟨(some 26), none, .call 76 [(.tmp 24), (.tmp 25)]⟩,
 ⟨(some 8), none, .mov (.tmp 26)⟩])
 (.seq
 (.ops [
 ⟨(some 27), none, .mov (.tmp 8)⟩,
 ⟨(some 28), none, .bin .neq 3 (.tmp 27) (.const (.int 0))⟩])
 (.cond (.tmp 28)
 (.seq
 (.ops [
 ⟨(some 29), none, .mov (.tmp 8)⟩,
 ⟨(some 4), none, .mov (.tmp 29)⟩])
 .ret)
 .skip)))))))
 (.ops [
 ⟨(some 30), none, .bin .add 3 (.tmp 11) (.const (.int 1))⟩,
 ⟨(some 11), none, .mov (.tmp 30)⟩])))))))
 (.seq
 (.seq
 (.ops [
 ⟨(some 31), none, .mov (.tmp 0)⟩,
 ⟨(some 32), none, .len .sl (.tmp 31)⟩,
 ⟨(some 33), none, .mov (.tmp 1)⟩,
 ⟨(some 34), none, .len .sl (.tmp 33)⟩,
 ⟨(some 35), none, .bin .lss 3 (.tmp 32) (.tmp 34)⟩])
 (.cond (.tmp 35)
 (.seq
 (.ops [
 ⟨(some 4), none, .mov (.const (.int (-1)))⟩])
 .ret)
 .skip))
 (.seq
 (.ops [
 ⟨(some 4), none, .mov (.const (.int 0))⟩])
 .ret))))

theorem c57 : compF Try.prog 57 = some (36, [.tmp 4], k57) := by
 unfold compF; rw [Try.func57]; kernel_rfl

noncomputable abbrev k58 : CC :=
 (.seq
 (.ops [
 ⟨(some 2), none, .box (.tmp 0)⟩,
 ⟨(some 4), none, .mov (.const (.v (.pointer none)))⟩])
 (.seq
 (.ops [
 ⟨(some 6), none, .load true 5 (.tmp 2)⟩,
 ⟨(some 7), none, .mov (.tmp 1)⟩,
 ⟨(some 8), none, .mkmap⟩,
 ⟨(some 9), none, .build [(.int 0), (.list .exact [] 0), (.int 0), (.list .exact [] 0), (.list .exact [] 0), (.int 0), (.v .nilFunc), (.v .nilFunc), (.v .nilFunc), (.v (.map none))] [(0, 5, (.tmp 6)), (5, 1, (.tmp 7)), (9, 1, (.tmp 8))]⟩,
 ⟨(some 10), none, .box (.tmp 9)⟩,
 ⟨(some 5), none, .mov (.tmp 10)⟩])
 (.seq
 (.ops [
 ⟨(some 11), none, .mov (.tmp 5)⟩,
 ⟨(some 12), none, .build [(.v .nilFunc)] [(0, 1, (.const (.fn 77 [] [])))]⟩,
 ⟨(some 13), none, .nilchk (.tmp 11)⟩,
 ⟨(some 14), none, .faddr 6 (.tmp 13)⟩,
 ⟨(some 15), none, .iaddrarr 3 1 (.tmp 14) (.const (.int 0))⟩,
 ⟨none, none, .store 1 (.tmp 15) (.tmp 12)⟩])
 (.seq
 (.ops [
 ⟨(some 16), none, .mov (.tmp 5)⟩,
 ⟨(some 17), none, .build [(.v .nilFunc)] [(0, 1, (.const (.fn 78 [] [])))]⟩,
 ⟨(some 18), none, .nilchk (.tmp 16)⟩,
 ⟨(some 19), none, .faddr 6 (.tmp 18)⟩,
 ⟨(some 20), none, .iaddrarr 3 1 (.tmp 19) (.const (.int 1))⟩,
 ⟨none, none, .store 1 (.tmp 20) (.tmp 17)⟩])
 (.seq
 (.ops [
 ⟨(some 21), none, .mov (.tmp 5)⟩,
 ⟨(some 22), none, .build [(.v .nilFunc)] [(0, 1, (.const (.fn 79 [] [])))]⟩,
 ⟨(some 23), none, .nilchk (.tmp 21)⟩,
 ⟨(some 24), none, .faddr 6 (.tmp 23)⟩,
 ⟨(some 25), none, .iaddrarr 3 1 (.tmp 24) (.const (.int 2))⟩,
 ⟨none, none, .store 1 (.tmp 25) (.tmp 22)⟩])
 (.seq
 (.ops [
 ⟨(some 26), none, .mov (.tmp 5)⟩,
 ⟨(some 4), none, .mov (.tmp 26)⟩])
 .ret))))))

theorem c58 : compF Try.prog 58 = some (27, [.tmp 4], k58) := by
 unfold compF; rw [Try.func58]; kernel_rfl

noncomputable abbrev k59 : CC :=
 (.seq
 (.ops [
 ⟨(some 2), none, .alloc [(.bool false)]⟩])
 (.seq
 (.seq
 (.ops [
 ⟨(some 3), none, .mov (.tmp 0)⟩,
 ⟨(some 4), none, .call 45 [(.tmp 3)]⟩])
 (.block 0
 (.rangef (.tmp 4) [5] (rfA Try.f59 0) (rfB Try.f59 0))))
 (.seq
 (.ops [
 ⟨none, none, .store 1 (.tmp 2) (.const (.bool false))⟩])
 .ret)))

theorem c59 : compF Try.prog 59 = some (6, [.cell 2 4], k59) := by
 unfold compF; rw [Try.func59]; kernel_rfl

theorem a59_0 : comp Try.prog 6 (rfA Try.f59 0) = (some
 .skip) := by
 kernel_rfl

theorem b59_0 : comp Try.prog 6 (rfB Try.f59 0) = (some
 (.block 1
 (.seq
 (.ops [
 ⟨none, none, .store 1 (.tmp 2) (.const (.bool true))⟩])
 .ret))) := by
 kernel_rfl

noncomputable abbrev k60 : CC :=
 (.seq
 (.ops [
 ⟨(some 4), none, .box (.tmp 0)⟩,
 ⟨(some 5), none, .mov (.const (.int 0))⟩])
 (.seq
 (.seq
 (.ops [
 ⟨(some 8), none, .faddr 4 (.tmp 1)⟩,
 ⟨(some 9), none, .load false 1 (.tmp 8)⟩,
 ⟨(some 10), none, .len .sl (.tmp 9)⟩,
 ⟨(some 11), none, .mov (.const (.int 0))⟩])
 (.block 0
 (.loop
 (.seq
 (.ops [
 ⟨(some 12), none, .bin .lss 3 (.tmp 11) (.tmp 10)⟩])
 (.seq
 (.cond (.tmp 12)
 .skip
 (.exit 0))
 (.seq
 (.block 1
 (.seq
 (.ops [
 ⟨(some 13), none, .iaddr 4 (.tmp 9) (.tmp 11)⟩,
 ⟨(some 14), none, .load true 4 (.tmp 13)⟩,
 ⟨(some 7), none, .alloc [(.int 0), (.int 0), (.int 0), (.int 0)]⟩,
 ⟨none, none, .store 4 (.tmp 7) (.tmp 14)⟩])
 (.seq
 (.ops [
 ⟨(some 15), none, .faddr 0 (.tmp 7)⟩,
 ⟨(some 16), none, .load false 1 (.tmp 15)⟩,
 ⟨(some 17), none, .load false 1 (.tmp 2)⟩,
 ⟨(some 18), none, .bin .eql 3 (.tmp 16) (.tmp 17)⟩])
 (.cond (.tmp 18)
 (.ops [
 ⟨(some 19), none, .mov (.tmp 5)⟩,
 ⟨(some 20), none, .load false 1 (.tmp 3)⟩,
 ⟨(some 21), none, .load true 4 (.tmp 7)⟩,
 ⟨(some 22), none, .load true 3 (.tmp 4)⟩,
 ⟨(some 23), none, .call 55 [(.tmp 20), (.tmp 21), (.tmp 22)]⟩,
 ⟨(some 24), none, .bin .add 3 (.tmp 19) (.tmp 23)⟩,
 ⟨(some 5), none, .mov (.tmp 24)⟩])
 .skip))))
 (.ops [
 ⟨(some 25), none, .bin .add 3 (.tmp 11) (.const (.int 1))⟩,
 ⟨(some 11), none, .mov (.tmp 25)⟩])))))))
 (.seq
 (.ops [
 ⟨(some 26), none, .mov (.tmp 5)⟩,
 ⟨(some 5), none, .mov (.tmp 26)⟩])
 .ret)))

theorem c60 : compF Try.prog 60 = some (27, [.tmp 5], k60) := by
 unfold compF; rw [Try.func60]; kernel_rfl

noncomputable abbrev k61 : CC :=
 (.seq
 (.ops [
 ⟨(some 3), none, .mov (.const (.int 0))⟩])
 (.seq
 (.ops [
 ⟨(some 5), none, .load false 1 (.tmp 0)⟩,
 ⟨(some 6), none, .faddr 0 (.tmp 1)⟩,
 ⟨(some 7), none, .load false 1 (.tmp 6)⟩,
 ⟨(some 8), none, .lit [(.int 0), (.int 0)] 2 [(0, 1, (.tmp 5)), (1, 1, (.tmp 7))]⟩,
 ⟨(some 9), none, .call 49 [(.tmp 8)]⟩,
 ⟨(some 10), none, .callv (.tmp 9) []⟩,
 ⟨(some 4), none, .mov (.tmp 10)⟩])
 (.seq
 (.seq
 (.ops [
 ⟨(some 11), none, .mov (.tmp 4)⟩,
 ⟨(some 12), none, .bin .eql 36 (.tmp 11) (.const (.int 0))⟩,
 ⟨(some 13), none, .mov (.tmp 12)⟩,
 ⟨(some 14), (some (13, true)), .load false 1 (.tmp 2)⟩,
 ⟨(some 15), (some (13, true)), .lit [(.int 0)] 1 [(0, 1, (.tmp 14))]⟩,
 ⟨(some 16), (some (13, true)), .call 33 [(.const (.int 0)), (.const (.int 198)), (.tmp 15)]⟩,
 ⟨(some 17), none, .pick (.tmp 13) (.tmp 16) (.const (.bool false))⟩])
 (.cond (.tmp 17)
 (.ops [
 ⟨(some 4), none, .mov (.const (.int 7))⟩])
 .skip))
 (.seq
 (.ops [
 ⟨(some 18), none, .mov (.tmp 4)⟩,
 ⟨(some 3), none, .mov (.tmp 18)⟩])
 .ret))))

theorem c61 : compF Try.prog 61 = some (19, [.tmp 3], k61) := by
 unfold compF; rw [Try.func61]; kernel_rfl

noncomputable abbrev k62 : CC :=
 (.seq
 (.ops [
 ⟨(some 2), none, .box (.tmp 0)⟩,
 ⟨(some 3), none, .mov (.const (.int 0))⟩])
 (.seq
 (.ops [
 ⟨(some 4), none, .load false 1 (.tmp 1)⟩,
 ⟨(some 5), none, .iaddrarr 3 1 (.tmp 2) (.tmp 4)⟩,
 ⟨(some 6), none, .load false 1 (.tmp 5)⟩,
 ⟨(some 3), none, .mov (.tmp 6)⟩])
 .ret))

theorem c62 : compF Try.prog 62 = some (7, [.tmp 3], k62) := by
 unfold compF; rw [Try.func62]; kernel_rfl

noncomputable abbrev k63 : CC :=
 (.seq
 (.ops [
 ⟨(some 2), none, .alloc [(.int 0), (.list .exact [] 0), (.int 0), (.list .exact [] 0), (.list .exact [] 0)]⟩])
 (.seq
 (.ops [
 ⟨(some 3), none, .call 65 [(.const (.int 10)), (.const (.int 14))]⟩,
 ⟨(some 4), none, .call 65 [(.const (.int 8)), (.const (.int 16))]⟩,
 ⟨(some 5), none, .lit [(.int 0), (.int 0), (.int 0), (.int 0)] 2 [(0, 2, (.tmp 3)), (2, 2, (.tmp 4))]⟩,
 ⟨(some 6), none, .build [(.str ⟨#[]⟩), (.int 0), (.int 0)] [(0, 1, (.const (.str ⟨#[108, 105, 109, 97]⟩))), (1, 1, (.const (.int 1)))]⟩,
 ⟨(some 7), none, .build [(.str ⟨#[]⟩), (.int 0), (.int 0)] [(0, 1, (.const (.str ⟨#[99, 97, 100, 105, 122]⟩))), (1, 1, (.const (.int 3))), (2, 1, (.const (.int 1)))]⟩,
 ⟨(some 8), none, .lit [(.str ⟨#[]⟩), (.int 0), (.int 0), (.str ⟨#[]⟩), (.int 0), (.int 0)] 2 [(0, 3, (.tmp 6)), (3, 3, (.tmp 7))]⟩,
 ⟨(some 9), none, .build [(.int 0), (.int 0), (.int 0), (.int 0)] [(2, 1, (.const (.int 26))), (3, 1, (.const (.int 30)))]⟩,
 ⟨(some 10), none, .mov (.tmp 0)⟩,
 ⟨(some 11), none, .mnmx true [(.const (.int (-1))), (.tmp 10)]⟩,
 ⟨(some 12), none, .build [(.int 0), (.int 0), (.int 0), (.int 0)] [(0, 1, (.const (.int 1))), (1, 1, (.const (.int 1))), (2, 1, (.const (.int 18))), (3, 1, (.tmp 11))]⟩,
 ⟨(some 13), none, .lit [(.int 0), (.int 0), (.int 0), (.int 0), (.int 0), (.int 0), (.int 0), (.int 0)] 2 [(0, 4, (.tmp 9)), (4, 4, (.tmp 12))]⟩,
 ⟨(some 14), none, .build [(.int 0), (.list .exact [] 0), (.int 0), (.list .exact [] 0), (.list .exact [] 0)] [(0, 1, (.const (.int 2))), (1, 1, (.tmp 5)), (2, 1, (.const (.int 2))), (3, 1, (.tmp 8)), (4, 1, (.tmp 13))]⟩,
 ⟨none, none, .store 5 (.tmp 2) (.tmp 14)⟩])
 .ret))

theorem c63 : compF Try.prog 63 = some (15, [.cell 2 26], k63) := by
 unfold compF; rw [Try.func63]; kernel_rfl

noncomputable abbrev k64 : CC :=
 (.seq
 (.ops [
 ⟨(some 4), none, .mov (.const (.bool false))⟩])
 (.seq
 (.ops [
 ⟨(some 5), none, .mov (.tmp 0)⟩,
 ⟨(some 6), none, .len .sl (.tmp 5)⟩,
 ⟨(some 7), none, .mov (.tmp 1)⟩,
 ⟨(some 8), none, .len .sl (.tmp 7)⟩,
 ⟨(some 9), none, .bin .eql 3 (.tmp 6) (.tmp 8)⟩,
 ⟨(some 10), none, .mov (.tmp 9)⟩,
 ⟨(some 11), (some (10, true)), .mov (.tmp 0)⟩,
 ⟨(some 12), (some (10, true)), .mov (.tmp 1)⟩,
 ⟨(some 13), (some (10, true)), .call 80 [(.tmp 11), (.tmp 12)]⟩,
 ⟨(some 14), (some (10, true)), .un .not (.tmp 13)⟩,
 ⟨(some 15), none, .pick (.tmp 10) (.tmp 14) (.const (.bool false))⟩,
 ⟨(some 16), none, .mov (.tmp 15)⟩,
 ⟨(some 17), (some (16, true)), .mov (.tmp 1)⟩,
 ⟨(some 18), (some (16, true)), .mov (.tmp 0)⟩,
 ⟨(some 19), (some (16, true)), .call 80 [(.tmp 17), (.tmp 18)]⟩,
 ⟨(some 20), (some (16, true)), .un .not (.tmp 19)⟩,
 ⟨(some 21), none, .pick (.tmp 16) (.tmp 20) (.const (.bool false))⟩,
 ⟨(some 4), none, .mov (.tmp 21)⟩])
 .ret))

theorem c64 : compF Try.prog 64 = some (22, [.tmp 4], k64) := by
 unfold compF; rw [Try.func64]; kernel_rfl

noncomputable abbrev k65 : CC :=
 (.seq
 (.ops [
 ⟨(some 4), none, .alloc [(.int 0), (.int 0)]⟩])
 (.seq
 (.ops [
 ⟨(some 5), none, .mov (.tmp 0)⟩,
 ⟨(some 6), none, .mov (.tmp 1)⟩,
 ⟨(some 7), none, .build [(.int 0), (.int 0)] [(0, 1, (.tmp 5)), (1, 1, (.tmp 6))]⟩,
 ⟨none, none, .store 2 (.tmp 4) (.tmp 7)⟩])
 .ret))

theorem c65 : compF Try.prog 65 = some (8, [.cell 4 48], k65) := by
 unfold compF; rw [Try.func65]; kernel_rfl

noncomputable abbrev k66 : CC :=
 (.ops [
 ⟨(some 4), none, .mov (.tmp 0)⟩,
 ⟨(some 5), none, .mov (.tmp 1)⟩,
 ⟨(some 6), none, .call 81 [(.tmp 4), (.tmp 5), (.const (.fn 18 [] []))]⟩])

theorem c66 : compF Try.prog 66 = some (7, [], k66) := by
 unfold compF; rw [Try.func66]; kernel_rfl

noncomputable abbrev k67 : CC :=
 (.ops [
 ⟨(some 4), none, .mov (.tmp 0)⟩,
 ⟨(some 5), none, .mov (.tmp 1)⟩,
 ⟨(some 6), none, .call 82 [(.tmp 4), (.tmp 5), (.const (.fn 83 [] []))]⟩])

theorem c67 : compF Try.prog 67 = some (7, [], k67) := by
 unfold compF; rw [Try.func67]; kernel_rfl

noncomputable abbrev k68 : CC :=
 (.ops [
 ⟨(some 4), none, .mov (.tmp 0)⟩,
 ⟨(some 5), none, .mov (.tmp 1)⟩,
 ⟨(some 6), none, .call 84 [(.tmp 4), (.tmp 5), (.const (.fn 85 [] []))]⟩])

theorem c68 : compF Try.prog 68 = some (7, [], k68) := by
 unfold compF; rw [Try.func68]; kernel_rfl

noncomputable abbrev k69 : CC :=
 (.seq
 (.ops [
 ⟨(some 4), none, .mov (.const (.bool false))⟩])
 (.seq
 (.ops [
 ⟨(some 5), none, .mov (.tmp 0)⟩,
 ⟨(some 6), none, .mov (.tmp 1)⟩,
 ⟨(some 7), none, .call 86 [(.tmp 5), (.tmp 6)]⟩,
 ⟨(some 8), none, .bin .geq 3 (.tmp 7) (.const (.int 0))⟩,
 ⟨(some 4), none, .mov (.tmp 8)⟩])
 .ret))

theorem c69 : compF Try.prog 69 = some (9, [.tmp 4], k69) := by
 unfold compF; rw [Try.func69]; kernel_rfl

noncomputable abbrev k70 : CC :=
 (.seq
 (.ops [
 ⟨(some 4), none, .mov (.const (.bool false))⟩])
 (.seq
 (.ops [
 ⟨(some 5), none, .mov (.tmp 0)⟩,
 ⟨(some 6), none, .load false 1 (.tmp 1)⟩,
 ⟨(some 7), none, .bin .lss 3 (.tmp 5) (.tmp 6)⟩,
 ⟨(some 8), none, .mov (.tmp 7)⟩,
 ⟨(some 9), (some (8, false)), .mov (.tmp 0)⟩,
 ⟨(some 10), (some (8, false)), .load false 1 (.tmp 2)⟩,
 ⟨(some 11), (some (8, false)), .bin .gtr 3 (.tmp 9) (.tmp 10)⟩,
 ⟨(some 12), none, .pick (.tmp 8) (.const (.bool true)) (.tmp 11)⟩,
 ⟨(some 4), none, .mov (.tmp 12)⟩])
 .ret))

theorem c70 : compF Try.prog 70 = some (13, [.tmp 4], k70) := by
 unfold compF; rw [Try.func70]; kernel_rfl

noncomputable abbrev k71 : CC :=
 (.seq
 (.ops [
 ⟨(some 3), none, .box (.tmp 0)⟩,
 ⟨(some 4), none, .box (.tmp 1)⟩,
 ⟨(some 6), none, .mov (.const (.bool false))⟩])
 (.seq
 (.ops [
 ⟨(some 7), none, .mov (.tmp 2)⟩,
 ⟨(some 8), none, .mkfn 87 [] [(.tmp 3), (.tmp 4)]⟩,
 ⟨(some 9), none, .call 69 [(.tmp 7), (.tmp 8)]⟩,
 ⟨(some 6), none, .mov (.tmp 9)⟩])
 .ret))

theorem c71 : compF Try.prog 71 = some (10, [.tmp 6], k71) := by
 unfold compF; rw [Try.func71]; kernel_rfl

noncomputable abbrev k72 : CC :=
 (.seq
 (.ops [
 ⟨(some 4), none, .mov (.const (.int 0))⟩])
 (.seq
 (.seq
 (.ops [
 ⟨(some 6), none, .mov (.tmp 0)⟩,
 ⟨(some 7), none, .len .sl (.tmp 6)⟩,
 ⟨(some 8), none, .mov (.const (.int 0))⟩])
 (.block 0
 (.loop
 (.seq
 (.ops [
 ⟨(some 9), none, .bin .lss 3 (.tmp 8) (.tmp 7)⟩])
 (.seq
 (.cond (.tmp 9)
 .skip
 (.exit 0))
 (.seq
 (.block 1
 (.seq
 (.ops [
 ⟨(some 10), none, .mov (.tmp 8)⟩,
 ⟨(some 5), none, .mov (.tmp 10)⟩])
 (.seq
 (.ops [
 ⟨(some 11), none, .mov (.tmp 1)⟩,
 ⟨(some 12), none, .mov (.tmp 0)⟩,
 ⟨(some 13), none, .mov (.tmp 5)⟩,
 ⟨(some 14), none, .iaddr 3 (.tmp 12) (.tmp 13)⟩,
 ⟨(some 15), none, .load true 3 (.tmp 14)⟩,
 ⟨(some 16), none, .callv (.tmp 11) [(.tmp 15)]⟩])
 (.cond (.tmp 16)
 (.seq
 (.ops [
 ⟨(some 17), none, .mov (.tmp 5)⟩,
 ⟨(some 4), none, .mov (.tmp 17)⟩])
 .ret)
 .skip))))
 (.ops [
 ⟨(some 18), none, .bin .add 3 (.tmp 8) (.const (.int 1))⟩,
 ⟨(some 8), none, .mov (.tmp 18)⟩])))))))
 (.seq
 (.ops [
 ⟨(some 4), none, .mov (.const (.int (-1)))⟩])
 .ret)))

theorem c72 : compF Try.prog 72 = some (19, [.tmp 4], k72) := by
 unfold compF; rw [Try.func72]; kernel_rfl

noncomputable abbrev k73 : CC :=
 (.seq
 (.ops [
 ⟨(some 2), none, .box (.tmp 0)⟩])
 (.seq
 (.ops [
 ⟨(some 6), none, .load false 1 (.tmp 1)⟩,
 ⟨(some 7), none, .mkfn 55 [(.tmp 6)] []⟩,
 ⟨(some 3), none, .alloc [(.v .nilFunc)]⟩,
 ⟨none, none, .store 1 (.tmp 3) (.tmp 7)⟩])
 (.seq
 (.ops [
 ⟨(some 4), none, .alloc [(.int 0), (.int 0), (.int 0)]⟩])
 (.seq
 (.ops [
 ⟨(some 5), none, .alloc [(.v .nilFunc)]⟩])
 (.seq
 (.ops [
 ⟨(some 8), none, .mkfn 74 [] [(.tmp 1), (.tmp 2), (.tmp 4), (.tmp 3), (.tmp 5)]⟩,
 ⟨none, none, .store 1 (.tmp 5) (.tmp 8)⟩])
 (.ops [
 ⟨(some 9), none, .load false 1 (.tmp 5)⟩,
 ⟨(some 10), none, .callv (.tmp 9) [(.const (.int 0))]⟩]))))))

theorem c73 : compF Try.prog 73 = some (11, [], k73) := by
 unfold compF; rw [Try.func73]; kernel_rfl

noncomputable abbrev k74 : CC :=
 (.seq
 (.ops [
 ⟨(some 7), none, .mov (.const (.bool false))⟩])
 (.seq
 (.seq
 (.ops [
 ⟨(some 12), none, .mov (.tmp 0)⟩,
 ⟨(some 13), none, .load false 1 (.tmp 1)⟩,
 ⟨(some 14), none, .nilchk (.tmp 13)⟩,
 ⟨(some 15), none, .faddr 0 (.tmp 14)⟩,
 ⟨(some 16), none, .faddr 0 (.tmp 15)⟩,
 ⟨(some 17), none, .load false 1 (.tmp 16)⟩,
 ⟨(some 18), none, .bin .eql 3 (.tmp 12) (.tmp 17)⟩])
 (.cond (.tmp 18)
 (.seq
 (.ops [
 ⟨(some 19), none, .load false 1 (.tmp 2)⟩,
 ⟨(some 20), none, .load true 3 (.tmp 3)⟩,
 ⟨(some 21), none, .callv (.tmp 19) [(.tmp 20)]⟩,
 ⟨(some 7), none, .mov (.tmp 21)⟩])
 .ret)
 .skip))
 (.seq
 (.ops [
 ⟨(some 22), none, .load false 1 (.tmp 1)⟩,
 ⟨(some 23), none, .nilchk (.tmp 22)⟩,
 ⟨(some 24), none, .faddr 0 (.tmp 23)⟩,
 ⟨(some 25), none, .faddr 1 (.tmp 24)⟩,
 ⟨(some 26), none, .load false 1 (.tmp 25)⟩,
 ⟨(some 27), none, .mov (.tmp 0)⟩,
 ⟨(some 28), none, .iaddr 2 (.tmp 26) (.tmp 27)⟩,
 ⟨(some 29), none, .load true 2 (.tmp 28)⟩,
 ⟨(some 8), none, .alloc [(.int 0), (.int 0)]⟩,
 ⟨none, none, .store 2 (.tmp 8) (.tmp 29)⟩])
 (.seq
 (.seq
 (.ops [
 ⟨(some 30), none, .mov (.tmp 0)⟩,
 ⟨(some 31), none, .bin .gtr 3 (.tmp 30) (.const (.int 0))⟩])
 (.cond (.tmp 31)
 (.draw [
 ⟨(some 32), none, .faddr 0 (.tmp 8)⟩,
 ⟨(some 33), none, .load false 1 (.tmp 32)⟩,
 ⟨(some 34), none, .mov (.tmp 0)⟩,
 ⟨(some 35), none, .bin .sub 3 (.tmp 34) (.const (.int 1))⟩,
 ⟨(some 36), none, .iaddrarr 3 1 (.tmp 3) (.tmp 35)⟩,
 ⟨(some 37), none, .load false 1 (.tmp 36)⟩,
 ⟨(some 38), none, .load false 1 (.tmp 1)⟩,
 ⟨(some 39), none, .nilchk (.tmp 38)⟩,
 ⟨(some 40), none, .faddr 0 (.tmp 39)⟩,
 ⟨(some 41), none, .faddr 2 (.tmp 40)⟩,
 ⟨(some 42), none, .load false 1 (.tmp 41)⟩,
 ⟨(some 43), none, .bin .sub 3 (.tmp 37) (.tmp 42)⟩,
 ⟨(some 44), none, .mnmx true [(.tmp 33), (.tmp 43)]⟩,
 ⟨(some 45), none, .faddr 1 (.tmp 8)⟩,
 ⟨(some 46), none, .load false 1 (.tmp 45)⟩,
 ⟨(some 47), none, .mov (.tmp 0)⟩,
 ⟨(some 48), none, .bin .sub 3 (.tmp 47) (.const (.int 1))⟩,
 ⟨(some 49), none, .iaddrarr 3 1 (.tmp 3) (.tmp 48)⟩,
 ⟨(some 50), none, .load false 1 (.tmp 49)⟩,
 ⟨(some 51), none, .load false 1 (.tmp 1)⟩,
 ⟨(some 52), none, .nilchk (.tmp 51)⟩,
 ⟨(some 53), none, .faddr 0 (.tmp 52)⟩,
 ⟨(some 54), none, .faddr 2 (.tmp 53)⟩,
 ⟨(some 55), none, .load false 1 (.tmp 54)⟩,
 ⟨(some 56), none, .bin .add 3 (.tmp 50) (.tmp 55)⟩,
 ⟨(some 57), none, .mnmx false [(.tmp 46), (.tmp 56)]⟩,
 ⟨(some 58), none, .build [(.int 0), (.int 0)] [(0, 1, (.tmp 44)), (1, 1, (.tmp 57))]⟩,
 ⟨none, none, .store 2 (.tmp 8) (.tmp 58)⟩] [[], [0], [], [2], [3, 2], [4, 3, 2], [], [6], [7, 6], [8, 7, 6], [9, 8, 7, 6], [5, 10, 4, 3, 2, 9, 8, 7, 6], [1, 11, 0, 5, 10, 4, 3, 2, 9, 8, 7, 6], [], [13], [], [15], [16, 15], [17, 16, 15], [], [19], [20, 19], [21, 20, 19], [22, 21, 20, 19], [18, 23, 17, 16, 15, 22, 21, 20, 19], [14, 24, 13, 18, 23, 17, 16, 15, 22, 21, 20, 19], [12, 25, 1, 11, 0, 5, 10, 4, 3, 2, 9, 8, 7, 6, 14, 24, 13, 18, 23, 17, 16, 15, 22, 21, 20, 19], [26, 12, 25, 1, 11, 0, 5, 10, 4, 3, 2, 9, 8, 7, 6, 14, 24, 13, 18, 23, 17, 16, 15, 22, 21, 20, 19]])
 .skip))
 (.seq
 .skip
 (.seq
 (.seq
 (.ops [
 ⟨(some 59), none, .faddr 0 (.tmp 8)⟩,
 ⟨(some 60), none, .load false 1 (.tmp 59)⟩,
 ⟨(some 9), none, .mov (.tmp 60)⟩])
 (.block 0
 (.loop
 (.seq
 (.seq
 (.ops [
 ⟨(some 61), none, .mov (.tmp 9)⟩,
 ⟨(some 62), none, .faddr 1 (.tmp 8)⟩,
 ⟨(some 63), none, .load false 1 (.tmp 62)⟩,
 ⟨(some 64), none, .bin .leq 3 (.tmp 61) (.tmp 63)⟩])
 (.cond (.tmp 64)
 .skip
 (.exit 0)))
 (.seq
 (.block 1
 (.seq
 (.ops [
 ⟨(some 67), none, .mov (.tmp 0)⟩,
 ⟨(some 68), none, .mov (.tmp 9)⟩,
 ⟨(some 69), none, .iaddrarr 3 1 (.tmp 3) (.tmp 67)⟩,
 ⟨none, none, .store 1 (.tmp 69) (.tmp 68)⟩])
 (.seq
 (.seq
 (.ops [
 ⟨(some 70), none, .load false 1 (.tmp 1)⟩,
 ⟨(some 71), none, .nilchk (.tmp 70)⟩,
 ⟨(some 72), none, .faddr 0 (.tmp 71)⟩,
 ⟨(some 73), none, .faddr 4 (.tmp 72)⟩,
 ⟨(some 74), none, .load false 1 (.tmp 73)⟩,
 ⟨(some 75), none, .len .sl (.tmp 74)⟩,
 ⟨(some 76), none, .mov (.const (.int 0))⟩])
 (.block 2
 (.loop
 (.seq
 (.ops [
 ⟨(some 77), none, .bin .lss 3 (.tmp 76) (.tmp 75)⟩])
 (.seq
 (.cond (.tmp 77)
 .skip
 (.exit 2))
 (.seq
 (.block 3
 (.seq
 (.ops [
 ⟨(some 78), none, .mov (.tmp 76)⟩,
 ⟨(some 79), none, .iaddr 4 (.tmp 74) (.tmp 76)⟩,
 ⟨(some 80), none, .load true 4 (.tmp 79)⟩,
 ⟨(some 11), none, .alloc [(.int 0), (.int 0), (.int 0), (.int 0)]⟩,
 ⟨(some 10), none, .mov (.tmp 78)⟩,
 ⟨none, none, .store 4 (.tmp 11) (.tmp 80)⟩])
 (.seq
 (.seq
 (.ops [
 ⟨(some 81), none, .faddr 1 (.tmp 11)⟩,
 ⟨(some 82), none, .load false 1 (.tmp 81)⟩,
 ⟨(some 83), none, .mov (.tmp 0)⟩,
 ⟨(some 84), none, .bin .neq 3 (.tmp 82) (.tmp 83)⟩,
 ⟨(some 85), none, .mov (.tmp 84)⟩,
 ⟨(some 86), (some (85, false)), .faddr 3 (.tmp 11)⟩,
 ⟨(some 87), (some (85, false)), .load false 1 (.tmp 86)⟩,
 ⟨(some 88), (some (85, false)), .bin .eql 3 (.tmp 87) (.const (.int (-1)))⟩,
 ⟨(some 89), none, .pick (.tmp 85) (.const (.bool true)) (.tmp 88)⟩,
 ⟨(some 90), none, .mov (.tmp 89)⟩,
 ⟨(some 91), (some (90, false)), .load false 1 (.tmp 1)⟩,
 ⟨(some 92), (some (90, false)), .nilchk (.tmp 91)⟩,
 ⟨(some 93), (some (90, false)), .faddr 5 (.tmp 92)⟩,
 ⟨(some 94), (some (90, false)), .load false 1 (.tmp 93)⟩,
 ⟨(some 95), (some (90, false)), .mov (.tmp 10)⟩,
 ⟨(some 96), (some (90, false)), .bin .shr 3 (.tmp 94) (.tmp 95)⟩,
 ⟨(some 97), (some (90, false)), .bin .and 3 (.tmp 96) (.const (.int 1))⟩,
 ⟨(some 98), (some (90, false)), .bin .eql 3 (.tmp 97) (.const (.int 1))⟩,
 ⟨(some 99), none, .pick (.tmp 90) (.const (.bool true)) (.tmp 98)⟩])
 (.cond (.tmp 99)
 (.exit 3)
 .skip))
 (.seq
 (.draw [
 ⟨(some 100), none, .load false 1 (.tmp 4)⟩,
 ⟨(some 101), none, .load true 4 (.tmp 11)⟩,
 ⟨(some 102), none, .load true 3 (.tmp 3)⟩,
 ⟨(some 103), none, .callv (.tmp 100) [(.tmp 101), (.tmp 102)]⟩,
 ⟨(some 104), none, .faddr 3 (.tmp 11)⟩,
 ⟨(some 105), none, .load false 1 (.tmp 104)⟩,
 ⟨(some 106), none, .bin .neq 3 (.tmp 103) (.tmp 105)⟩] [[], [], [], [0, 1, 2], [], [4], [3, 5, 0, 1, 2, 4]])
 (.cond (.tmp 106)
 (.exit 1)
 .skip)))))
 (.ops [
 ⟨(some 107), none, .bin .add 3 (.tmp 76) (.const (.int 1))⟩,
 ⟨(some 76), none, .mov (.tmp 107)⟩])))))))
 (.seq
 (.ops [
 ⟨(some 108), none, .load false 1 (.tmp 5)⟩,
 ⟨(some 109), none, .mov (.tmp 0)⟩,
 ⟨(some 110), none, .bin .add 3 (.tmp 109) (.const (.int 1))⟩,
 ⟨(some 111), none, .callv (.tmp 108) [(.tmp 110)]⟩,
 ⟨(some 112), none, .un .not (.tmp 111)⟩])
 (.cond (.tmp 112)
 (.seq
 (.ops [
 ⟨(some 7), none, .mov (.const (.bool false))⟩])
 .ret)
 .skip)))))
 (.ops [
 ⟨(some 65), none, .mov (.tmp 9)⟩,
 ⟨(some 66), none, .bin .add 3 (.tmp 65) (.const (.int 1))⟩,
 ⟨(some 9), none, .mov (.tmp 66)⟩]))))))
 (.seq
 (.ops [
 ⟨(some 7), none, .mov (.const (.bool true))⟩])
 .ret)))))))

theorem c74 : compF Try.prog 74 = some (113, [.tmp 7], k74) := by
 unfold compF; rw [Try.func74]; kernel_rfl

noncomputable abbrev k75 : CC :=
 (.seq
 (.ops [
 ⟨(some 1), none, .mov (.const (.int 0))⟩])
 (.seq
 (.seq
 (.ops [
 ⟨(some 2), none, .mov (.const (.int 0))⟩])
 (.block 0
 (.loop
 (.seq
 (.seq
 (.ops [
 ⟨(some 3), none, .mov (.tmp 2)⟩,
 ⟨(some 4), none, .bin .add 3 (.tmp 3) (.const (.int 1))⟩,
 ⟨(some 5), none, .load false 1 (.tmp 0)⟩,
 ⟨(some 6), none, .len .sl (.tmp 5)⟩,
 ⟨(some 7), none, .bin .lss 3 (.tmp 4) (.tmp 6)⟩])
 (.cond (.tmp 7)
 .skip
 (.exit 0)))
 (.seq
 (.block 1
 (.seq
 (.draw [
 ⟨(some 10), none, .load false 1 (.tmp 0)⟩,
 ⟨(some 11), none, .mov (.tmp 2)⟩,
 ⟨(some 12), none, .bin .add 3 (.tmp 11) (.const (.int 1))⟩,
 ⟨(some 13), none, .iaddr 1 (.tmp 10) (.tmp 12)⟩,
 ⟨(some 14), none, .load false 1 (.tmp 13)⟩,
 ⟨(some 15), none, .bin .sub 3 (.tmp 14) (.const (.int 1))⟩,
 ⟨(some 16), none, .load false 1 (.tmp 0)⟩,
 ⟨(some 17), none, .mov (.tmp 2)⟩,
 ⟨(some 18), none, .iaddr 1 (.tmp 16) (.tmp 17)⟩,
 ⟨(some 19), none, .load false 1 (.tmp 18)⟩,
 ⟨(some 20), none, .lit [(.int 0)] 1 [(0, 1, (.tmp 19))]⟩,
 ⟨(some 21), none, .call 33 [(.const (.int 0)), (.tmp 15), (.tmp 20)]⟩] [[], [], [1], [0, 2, 1], [3, 0, 2, 1], [4, 3, 0, 2, 1], [], [], [6, 7], [8, 6, 7], [9, 8, 6, 7], [5, 10, 4, 3, 0, 2, 1, 9, 8, 6, 7]])
 (.cond (.tmp 21)
 (.seq
 (.ops [
 ⟨(some 1), none, .mov (.const (.int 4))⟩])
 .ret)
 .skip)))
 (.ops [
 ⟨(some 8), none, .mov (.tmp 2)⟩,
 ⟨(some 9), none, .bin .add 3 (.tmp 8) (.const (.int 2))⟩,
 ⟨(some 2), none, .mov (.tmp 9)⟩]))))))
 (.seq
 (.ops [
 ⟨(some 1), none, .mov (.const (.int 0))⟩])
 .ret)))

theorem c75 : compF Try.prog 75 = some (22, [.tmp 1], k75) := by
 unfold compF; rw [Try.func75]; kernel_rfl

noncomputable abbrev k76 : CC :=
 (.seq
 (.ops [
 ⟨(some 4), none, .mov (.const (.int 0))⟩])
 (.seq
 (.ops [
 ⟨(some 7), none, .mov (.tmp 0)⟩,
 ⟨(some 8), none, .call 88 [(.tmp 7)]⟩,
 ⟨(some 5), none, .mov (.tmp 8)⟩])
 (.seq
 (.ops [
 ⟨(some 9), none, .mov (.tmp 1)⟩,
 ⟨(some 10), none, .call 88 [(.tmp 9)]⟩,
 ⟨(some 6), none, .mov (.tmp 10)⟩])
 (.seq
 (.seq
 (.ops [
 ⟨(some 11), none, .mov (.tmp 5)⟩])
 (.cond (.tmp 11)
 (.seq
 (.seq
 (.ops [
 ⟨(some 12), none, .mov (.tmp 6)⟩])
 (.cond (.tmp 12)
 (.seq
 (.ops [
 ⟨(some 4), none, .mov (.const (.int 0))⟩])
 .ret)
 .skip))
 (.seq
 (.ops [
 ⟨(some 4), none, .mov (.const (.int (-1)))⟩])
 .ret))
 .skip))
 (.seq
 (.seq
 (.ops [
 ⟨(some 13), none, .mov (.tmp 6)⟩])
 (.cond (.tmp 13)
 (.seq
 (.ops [
 ⟨(some 4), none, .mov (.const (.int 1))⟩])
 .ret)
 .skip))
 (.seq
 (.seq
 (.ops [
 ⟨(some 14), none, .mov (.tmp 0)⟩,
 ⟨(some 15), none, .mov (.tmp 1)⟩,
 ⟨(some 16), none, .bin .lss 3 (.tmp 14) (.tmp 15)⟩])
 (.cond (.tmp 16)
 (.seq
 (.ops [
 ⟨(some 4), none, .mov (.const (.int (-1)))⟩])
 .ret)
 .skip))
 (.seq
 (.seq
 (.ops [
 ⟨(some 17), none, .mov (.tmp 0)⟩,
 ⟨(some 18), none, .mov (.tmp 1)⟩,
 ⟨(some 19), none, .bin .gtr 3 (.tmp 17) (.tmp 18)⟩])
 (.cond (.tmp 19)
 (.seq
 (.ops [
 ⟨(some 4), none, .mov (.const (.int 1))⟩])
 .ret)
 .skip))
 (.seq
 (.ops [
 ⟨(some 4), none, .mov (.const (.int 0))⟩])
 .ret))))))))

theorem c76 : compF Try.prog 76 = some (20, [.tmp 4], k76) := by
 unfold compF; rw [Try.func76]; kernel_rfl

noncomputable abbrev k77 : CC :=
 (.seq
 (.ops [
 ⟨(some 2), none, .mov (.const (.int 0))⟩])
 (.seq
 (.ops [
 ⟨(some 3), none, .mov (.tmp 0)⟩,
 ⟨(some 4), none, .bin .quo 3 (.tmp 3) (.const (.int 10))⟩,
 ⟨(some 2), none, .mov (.tmp 4)⟩])
 .ret))

theorem c77 : compF Try.prog 77 = some (5, [.tmp 2], k77) := by
 unfold compF; rw [Try.func77]; kernel_rfl

noncomputable abbrev k78 : CC :=
 (.seq
 (.ops [
 ⟨(some 2), none, .mov (.const (.int 0))⟩])
 (.seq
 (.ops [
 ⟨(some 3), none, .mov (.tmp 0)⟩,
 ⟨(some 4), none, .bin .add 3 (.tmp 3) (.const (.int 10))⟩,
 ⟨(some 5), none, .bin .sub 3 (.tmp 4) (.const (.int 1))⟩,
 ⟨(some 6), none, .bin .quo 3 (.tmp 5) (.const (.int 10))⟩,
 ⟨(some 2), none, .mov (.tmp 6)⟩])
 .ret))

theorem c78 : compF Try.prog 78 = some (7, [.tmp 2], k78) := by
 unfold compF; rw [Try.func78]; kernel_rfl

noncomputable abbrev k79 : CC :=
 (.seq
 (.ops [
 ⟨(some 2), none, .mov (.const (.int 0))⟩])
 (.seq
 (.ops [
 ⟨(some 3), none, .mov (.tmp 0)⟩,
 ⟨(some 4), none, .bin .mul 3 (.const (.int 2)) (.tmp 3)⟩,
 ⟨(some 5), none, .bin .add 3 (.tmp 4) (.const (.int 10))⟩,
 ⟨(some 6), none, .bin .quo 3 (.tmp 5) (.const (.int 20))⟩,
 ⟨(some 2), none, .mov (.tmp 6)⟩])
 .ret))

theorem c79 : compF Try.prog 79 = some (7, [.tmp 2], k79) := by
 unfold compF; rw [Try.func79]; kernel_rfl

noncomputable abbrev k80 : CC :=
 (.seq
 (.ops [
 ⟨(some 4), none, .mov (.const (.bool false))⟩])
 (.seq
 (.ops [
 ⟨(some 5), none, .mov (.const (.int 0))⟩])
 (.seq
 (.block 0
 (.loop
 (.seq
 (.seq
 (.draw [
 ⟨(some 6), none, .mov (.tmp 5)⟩,
 ⟨(some 7), none, .mov (.tmp 0)⟩,
 ⟨(some 8), none, .len .sl (.tmp 7)⟩,
 ⟨(some 9), none, .bin .lss 3 (.tmp 6) (.tmp 8)⟩,
 ⟨(some 10), none, .mov (.tmp 9)⟩,
 ⟨(some 11), (some (10, true)), .mov (.tmp 5)⟩,
 ⟨(some 12), (some (10, true)), .mov (.tmp 1)⟩,
 ⟨(some 13), (some (10, true)), .len .sl (.tmp 12)⟩,
 ⟨(some 14), (some (10, true)), .bin .lss 3 (.tmp 11) (.tmp 13)⟩,
 ⟨(some 15), none, .pick (.tmp 10) (.tmp 14) (.const (.bool false))⟩,
 ⟨(some 16), none, .mov (.tmp 15)⟩,
 ⟨(some 17), (some (16, true)), .mov (.tmp 0)⟩,
 ⟨(some 18), (some (16, true)), .mov (.tmp 5)⟩,
 ⟨(some 19), (some (16, true)), .iaddr 1 (.tmp 17) (.tmp 18)⟩,
 ⟨(some 20), (some (16, true)), .load false 1 (.tmp 19)⟩,
 ⟨(some 21), (some (16, true)), .mov (.tmp 1)⟩,
 ⟨(some 22), (some (16, true)), .mov (.tmp 5)⟩,
 ⟨(some 23), (some (16, true)), .iaddr 1 (.tmp 21) (.tmp 22)⟩,
 ⟨(some 24), (some (16, true)), .load false 1 (.tmp 23)⟩,
 ⟨(some 25), (some (16, true)), .bin .eql 3 (.tmp 20) (.tmp 24)⟩,
 ⟨(some 26), none, .pick (.tmp 16) (.tmp 25) (.const (.bool false))⟩] [[], [], [1], [0, 2, 1], [3, 0, 2, 1], [4, 3, 0, 2, 1], [4, 3, 0, 2, 1], [6, 4, 3, 0, 2, 1], [5, 7, 6, 4, 3, 0, 2, 1], [8, 5, 7, 6, 4, 3, 0, 2, 1], [9, 8, 5, 7, 6, 4, 3, 0, 2, 1], [10, 9, 8, 5, 7, 6, 4, 3, 0, 2, 1], [10, 9, 8, 5, 7, 6, 4, 3, 0, 2, 1], [11, 12, 10, 9, 8, 5, 7, 6, 4, 3, 0, 2, 1], [13, 11, 12, 10, 9, 8, 5, 7, 6, 4, 3, 0, 2, 1], [10, 9, 8, 5, 7, 6, 4, 3, 0, 2, 1], [10, 9, 8, 5, 7, 6, 4, 3, 0, 2, 1], [15, 16, 10, 9, 8, 5, 7, 6, 4, 3, 0, 2, 1], [17, 15, 16, 10, 9, 8, 5, 7, 6, 4, 3, 0, 2, 1], [14, 18, 13, 11, 12, 17, 15, 16, 10, 9, 8, 5, 7, 6, 4, 3, 0, 2, 1], [19, 14, 18, 13, 11, 12, 17, 15, 16, 10, 9, 8, 5, 7, 6, 4, 3, 0, 2, 1]])
 (.cond (.tmp 26)
 .skip
 (.exit 0)))
 (.block 1
 (.ops [
 ⟨(some 27), none, .mov (.tmp 5)⟩,
 ⟨(some 28), none, .bin .add 3 (.tmp 27) (.const (.int 1))⟩,
 ⟨(some 5), none, .mov (.tmp 28)⟩])))))
 (.seq
 (.seq
 (.ops [
 ⟨(some 29), none, .mov (.tmp 5)⟩,
 ⟨(some 30), none, .mov (.tmp 1)⟩,
 ⟨(some 31), none, .len .sl (.tmp 30)⟩,
 ⟨(some 32), none, .bin .eql 3 (.tmp 29) (.tmp 31)⟩])
 (.cond (.tmp 32)
 (.seq
 (.ops [
 ⟨(some 4), none, .mov (.const (.bool false))⟩])
 .ret)
 .skip))
 (.seq
 (.draw [
 ⟨(some 33), none, .mov (.tmp 5)⟩,
 ⟨(some 34), none, .mov (.tmp 0)⟩,
 ⟨(some 35), none, .len .sl (.tmp 34)⟩,
 ⟨(some 36), none, .bin .eql 3 (.tmp 33) (.tmp 35)⟩,
 ⟨(some 37), none, .mov (.tmp 36)⟩,
 ⟨(some 38), (some (37, false)), .mov (.tmp 0)⟩,
 ⟨(some 39), (some (37, false)), .mov (.tmp 5)⟩,
 ⟨(some 40), (some (37, false)), .iaddr 1 (.tmp 38) (.tmp 39)⟩,
 ⟨(some 41), (some (37, false)), .load false 1 (.tmp 40)⟩,
 ⟨(some 42), (some (37, false)), .mov (.tmp 1)⟩,
 ⟨(some 43), (some (37, false)), .mov (.tmp 5)⟩,
 ⟨(some 44), (some (37, false)), .iaddr 1 (.tmp 42) (.tmp 43)⟩,
 ⟨(some 45), (some (37, false)), .load false 1 (.tmp 44)⟩,
 ⟨(some 46), (some (37, false)), .bin .lss 3 (.tmp 41) (.tmp 45)⟩,
 ⟨(some 47), none, .pick (.tmp 37) (.const (.bool true)) (.tmp 46)⟩,
 ⟨(some 4), none, .mov (.tmp 47)⟩] [[], [], [1], [0, 2, 1], [3, 0, 2, 1], [4, 3, 0, 2, 1], [4, 3, 0, 2, 1], [5, 6, 4, 3, 0, 2, 1], [7, 5, 6, 4, 3, 0, 2, 1], [4, 3, 0, 2, 1], [4, 3, 0, 2, 1], [9, 10, 4, 3, 0, 2, 1], [11, 9, 10, 4, 3, 0, 2, 1], [8, 12, 7, 5, 6, 11, 9, 10, 4, 3, 0, 2, 1], [13, 8, 12, 7, 5, 6, 11, 9, 10, 4, 3, 0, 2, 1], [14, 13, 8, 12, 7, 5, 6, 11, 9, 10, 4, 3, 0, 2, 1]])
 .ret)))))

theorem c80 : compF Try.prog 80 = some (48, [.tmp 4], k80) := by
 unfold compF; rw [Try.func80]; kernel_rfl

noncomputable abbrev k81 : CC :=
 (.seq
 (.ops [
 ⟨(some 7), none, .mov (.tmp 0)⟩,
 ⟨(some 8), none, .mov (.tmp 0)⟩,
 ⟨(some 9), none, .nilchk (.tmp 8)⟩,
 ⟨(some 10), none, .faddr 0 (.tmp 9)⟩,
 ⟨(some 11), none, .load false 1 (.tmp 10)⟩,
 ⟨(some 12), none, .mov (.tmp 1)⟩,
 ⟨(some 13), none, .len .sl (.tmp 12)⟩,
 ⟨(some 14), none, .lit [(.int 0)] 1 [(0, 1, (.tmp 13))]⟩,
 ⟨(some 15), none, .append 1 8 [(.int 0)] (.tmp 11) (.tmp 14)⟩,
 ⟨(some 16), none, .nilchk (.tmp 7)⟩,
 ⟨(some 17), none, .faddr 0 (.tmp 16)⟩,
 ⟨none, none, .store 1 (.tmp 17) (.tmp 15)⟩])
 (.seq
 (.ops [
 ⟨(some 6), none, .mov (.const (.int 0))⟩])
 (.block 0
 (.loop
 (.seq
 (.seq
 (.ops [
 ⟨(some 18), none, .mov (.tmp 6)⟩,
 ⟨(some 19), none, .mov (.tmp 1)⟩,
 ⟨(some 20), none, .len .sl (.tmp 19)⟩,
 ⟨(some 21), none, .bin .lss 3 (.tmp 18) (.tmp 20)⟩])
 (.cond (.tmp 21)
 .skip
 (.exit 0)))
 (.seq
 (.block 1
 (.ops [
 ⟨(some 24), none, .mov (.tmp 2)⟩,
 ⟨(some 25), none, .mov (.tmp 0)⟩,
 ⟨(some 26), none, .mov (.tmp 1)⟩,
 ⟨(some 27), none, .mov (.tmp 6)⟩,
 ⟨(some 28), none, .iaddr 2 (.tmp 26) (.tmp 27)⟩,
 ⟨(some 29), none, .load true 2 (.tmp 28)⟩,
 ⟨(some 30), none, .callv (.tmp 24) [(.tmp 25), (.tmp 29)]⟩]))
 (.ops [
 ⟨(some 22), none, .mov (.tmp 6)⟩,
 ⟨(some 23), none, .bin .add 3 (.tmp 22) (.const (.int 1))⟩,
 ⟨(some 6), none, .mov (.tmp 23)⟩])))))))

theorem c81 : compF Try.prog 81 = some (31, [], k81) := by
 unfold compF; rw [Try.func81]; kernel_rfl

noncomputable abbrev k82 : CC :=
 (.seq
 (.ops [
 ⟨(some 7), none, .mov (.tmp 0)⟩,
 ⟨(some 8), none, .mov (.tmp 0)⟩,
 ⟨(some 9), none, .nilchk (.tmp 8)⟩,
 ⟨(some 10), none, .faddr 0 (.tmp 9)⟩,
 ⟨(some 11), none, .load false 1 (.tmp 10)⟩,
 ⟨(some 12), none, .mov (.tmp 1)⟩,
 ⟨(some 13), none, .len .sl (.tmp 12)⟩,
 ⟨(some 14), none, .lit [(.int 0)] 1 [(0, 1, (.tmp 13))]⟩,
 ⟨(some 15), none, .append 1 8 [(.int 0)] (.tmp 11) (.tmp 14)⟩,
 ⟨(some 16), none, .nilchk (.tmp 7)⟩,
 ⟨(some 17), none, .faddr 0 (.tmp 16)⟩,
 ⟨none, none, .store 1 (.tmp 17) (.tmp 15)⟩])
 (.seq
 (.ops [
 ⟨(some 6), none, .mov (.const (.int 0))⟩])
 (.block 0
 (.loop
 (.seq
 (.seq
 (.ops [
 ⟨(some 18), none, .mov (.tmp 6)⟩,
 ⟨(some 19), none, .mov (.tmp 1)⟩,
 ⟨(some 20), none, .len .sl (.tmp 19)⟩,
 ⟨(some 21), none, .bin .lss 3 (.tmp 18) (.tmp 20)⟩])
 (.cond (.tmp 21)
 .skip
 (.exit 0)))
 (.seq
 (.block 1
 (.ops [
 ⟨(some 24), none, .mov (.tmp 2)⟩,
 ⟨(some 25), none, .mov (.tmp 0)⟩,
 ⟨(some 26), none, .mov (.tmp 1)⟩,
 ⟨(some 27), none, .mov (.tmp 6)⟩,
 ⟨(some 28), none, .iaddr 3 (.tmp 26) (.tmp 27)⟩,
 ⟨(some 29), none, .load true 3 (.tmp 28)⟩,
 ⟨(some 30), none, .callv (.tmp 24) [(.tmp 25), (.tmp 29)]⟩]))
 (.ops [
 ⟨(some 22), none, .mov (.tmp 6)⟩,
 ⟨(some 23), none, .bin .add 3 (.tmp 22) (.const (.int 1))⟩,
 ⟨(some 6), none, .mov (.tmp 23)⟩])))))))

theorem c82 : compF Try.prog 82 = some (31, [], k82) := by
 unfold compF; rw [Try.func82]; kernel_rfl

noncomputable abbrev k83 : CC :=
 (.seq
 (.ops [
 ⟨(some 3), none, .box (.tmp 1)⟩])
 (.seq
 (.ops [
 ⟨(some 4), none, .mov (.tmp 0)⟩,
 ⟨(some 5), none, .faddr 0 (.tmp 3)⟩,
 ⟨(some 6), none, .load false 1 (.tmp 5)⟩,
 ⟨(some 7), none, .call 89 [(.tmp 4), (.tmp 6)]⟩])
 (.seq
 (.ops [
 ⟨(some 8), none, .mov (.tmp 0)⟩,
 ⟨(some 9), none, .faddr 1 (.tmp 3)⟩,
 ⟨(some 10), none, .load false 1 (.tmp 9)⟩,
 ⟨(some 11), none, .call 8 [(.tmp 8), (.tmp 10)]⟩])
 (.ops [
 ⟨(some 12), none, .mov (.tmp 0)⟩,
 ⟨(some 13), none, .faddr 2 (.tmp 3)⟩,
 ⟨(some 14), none, .load false 1 (.tmp 13)⟩,
 ⟨(some 15), none, .call 8 [(.tmp 12), (.tmp 14)]⟩]))))

theorem c83 : compF Try.prog 83 = some (16, [], k83) := by
 unfold compF; rw [Try.func83]; kernel_rfl

noncomputable abbrev k84 : CC :=
 (.seq
 (.ops [
 ⟨(some 7), none, .mov (.tmp 0)⟩,
 ⟨(some 8), none, .mov (.tmp 0)⟩,
 ⟨(some 9), none, .nilchk (.tmp 8)⟩,
 ⟨(some 10), none, .faddr 0 (.tmp 9)⟩,
 ⟨(some 11), none, .load false 1 (.tmp 10)⟩,
 ⟨(some 12), none, .mov (.tmp 1)⟩,
 ⟨(some 13), none, .len .sl (.tmp 12)⟩,
 ⟨(some 14), none, .lit [(.int 0)] 1 [(0, 1, (.tmp 13))]⟩,
 ⟨(some 15), none, .append 1 8 [(.int 0)] (.tmp 11) (.tmp 14)⟩,
 ⟨(some 16), none, .nilchk (.tmp 7)⟩,
 ⟨(some 17), none, .faddr 0 (.tmp 16)⟩,
 ⟨none, none, .store 1 (.tmp 17) (.tmp 15)⟩])
 (.seq
 (.ops [
 ⟨(some 6), none, .mov (.const (.int 0))⟩])
 (.block 0
 (.loop
 (.seq
 (.seq
 (.ops [
 ⟨(some 18), none, .mov (.tmp 6)⟩,
 ⟨(some 19), none, .mov (.tmp 1)⟩,
 ⟨(some 20), none, .len .sl (.tmp 19)⟩,
 ⟨(some 21), none, .bin .lss 3 (.tmp 18) (.tmp 20)⟩])
 (.cond (.tmp 21)
 .skip
 (.exit 0)))
 (.seq
 (.block 1
 (.ops [
 ⟨(some 24), none, .mov (.tmp 2)⟩,
 ⟨(some 25), none, .mov (.tmp 0)⟩,
 ⟨(some 26), none, .mov (.tmp 1)⟩,
 ⟨(some 27), none, .mov (.tmp 6)⟩,
 ⟨(some 28), none, .iaddr 4 (.tmp 26) (.tmp 27)⟩,
 ⟨(some 29), none, .load true 4 (.tmp 28)⟩,
 ⟨(some 30), none, .callv (.tmp 24) [(.tmp 25), (.tmp 29)]⟩]))
 (.ops [
 ⟨(some 22), none, .mov (.tmp 6)⟩,
 ⟨(some 23), none, .bin .add 3 (.tmp 22) (.const (.int 1))⟩,
 ⟨(some 6), none, .mov (.tmp 23)⟩])))))))

theorem c84 : compF Try.prog 84 = some (31, [], k84) := by
 unfold compF; rw [Try.func84]; kernel_rfl

noncomputable abbrev k85 : CC :=
 (.seq
 (.ops [
 ⟨(some 3), none, .box (.tmp 1)⟩])
 (.seq
 (.ops [
 ⟨(some 4), none, .mov (.tmp 0)⟩,
 ⟨(some 5), none, .faddr 0 (.tmp 3)⟩,
 ⟨(some 6), none, .load false 1 (.tmp 5)⟩,
 ⟨(some 7), none, .call 8 [(.tmp 4), (.tmp 6)]⟩])
 (.seq
 (.ops [
 ⟨(some 8), none, .mov (.tmp 0)⟩,
 ⟨(some 9), none, .faddr 1 (.tmp 3)⟩,
 ⟨(some 10), none, .load false 1 (.tmp 9)⟩,
 ⟨(some 11), none, .call 8 [(.tmp 8), (.tmp 10)]⟩])
 (.seq
 (.ops [
 ⟨(some 12), none, .mov (.tmp 0)⟩,
 ⟨(some 13), none, .faddr 2 (.tmp 3)⟩,
 ⟨(some 14), none, .load false 1 (.tmp 13)⟩,
 ⟨(some 15), none, .call 8 [(.tmp 12), (.tmp 14)]⟩])
 (.ops [
 ⟨(some 16), none, .mov (.tmp 0)⟩,
 ⟨(some 17), none, .faddr 3 (.tmp 3)⟩,
 ⟨(some 18), none, .load false 1 (.tmp 17)⟩,
 ⟨(some 19), none, .call 8 [(.tmp 16), (.tmp 18)]⟩])))))

theorem c85 : compF Try.prog 85 = some (20, [], k85) := by
 unfold compF; rw [Try.func85]; kernel_rfl

noncomputable abbrev k86 : CC :=
 (.seq
 (.ops [
 ⟨(some 4), none, .mov (.const (.int 0))⟩])
 (.seq
 (.seq
 (.ops [
 ⟨(some 6), none, .mov (.tmp 0)⟩,
 ⟨(some 7), none, .len .sl (.tmp 6)⟩,
 ⟨(some 8), none, .mov (.const (.int 0))⟩])
 (.block 0
 (.loop
 (.seq
 (.ops [
 ⟨(some 9), none, .bin .lss 3 (.tmp 8) (.tmp 7)⟩])
 (.seq
 (.cond (.tmp 9)
 .skip
 (.exit 0))
 (.seq
 (.block 1
 (.seq
 (.ops [
 ⟨(some 10), none, .mov (.tmp 8)⟩,
 ⟨(some 5), none, .mov (.tmp 10)⟩])
 (.seq
 (.ops [
 ⟨(some 11), none, .mov (.tmp 1)⟩,
 ⟨(some 12), none, .mov (.tmp 0)⟩,
 ⟨(some 13), none, .mov (.tmp 5)⟩,
 ⟨(some 14), none, .iaddr 1 (.tmp 12) (.tmp 13)⟩,
 ⟨(some 15), none, .load false 1 (.tmp 14)⟩,
 ⟨(some 16), none, .callv (.tmp 11) [(.tmp 15)]⟩])
 (.cond (.tmp 16)
 (.seq
 (.ops [
 ⟨(some 17), none, .mov (.tmp 5)⟩,
 ⟨(some 4), none, .mov (.tmp 17)⟩])
 .ret)
 .skip))))
 (.ops [
 ⟨(some 18), none, .bin .add 3 (.tmp 8) (.const (.int 1))⟩,
 ⟨(some 8), none, .mov (.tmp 18)⟩])))))))
 (.seq
 (.ops [
 ⟨(some 4), none, .mov (.const (.int (-1)))⟩])
 .ret)))

theorem c86 : compF Try.prog 86 = some (19, [.tmp 4], k86) := by
 unfold compF; rw [Try.func86]; kernel_rfl

noncomputable abbrev k87 : CC :=
 (.seq
 (.ops [
 ⟨(some 4), none, .mov (.const (.bool false))⟩])
 (.seq
 (.ops [
 ⟨(some 5), none, .mov (.tmp 0)⟩,
 ⟨(some 6), none, .load false 1 (.tmp 1)⟩,
 ⟨(some 7), none, .bin .lss 3 (.tmp 5) (.tmp 6)⟩,
 ⟨(some 8), none, .mov (.tmp 7)⟩,
 ⟨(some 9), (some (8, false)), .mov (.tmp 0)⟩,
 ⟨(some 10), (some (8, false)), .load false 1 (.tmp 2)⟩,
 ⟨(some 11), (some (8, false)), .bin .gtr 3 (.tmp 9) (.tmp 10)⟩,
 ⟨(some 12), none, .pick (.tmp 8) (.const (.bool true)) (.tmp 11)⟩,
 ⟨(some 4), none, .mov (.tmp 12)⟩])
 .ret))

theorem c87 : compF Try.prog 87 = some (13, [.tmp 4], k87) := by
 unfold compF; rw [Try.func87]; kernel_rfl

noncomputable abbrev k88 : CC :=
 (.seq
 (.ops [
 ⟨(some 2), none, .mov (.const (.bool false))⟩])
 (.seq
 (.ops [
 ⟨(some 3), none, .mov (.tmp 0)⟩,
 ⟨(some 4), none, .mov (.tmp 0)⟩,
 ⟨(some 5), none, .bin .neq 3 (.tmp 3) (.tmp 4)⟩,
 ⟨(some 2), none, .mov (.tmp 5)⟩])
 .ret))

theorem c88 : compF Try.prog 88 = some (6, [.tmp 2], k88) := by
 unfold compF; rw [Try.func88]; kernel_rfl

noncomputable abbrev k89 : CC :=
 (.ops [
 ⟨(some 4), none, .mov (.tmp 0)⟩,
 ⟨(some 5), none, .mov (.tmp 0)⟩,
 ⟨(some 6), none, .nilchk (.tmp 5)⟩,
 ⟨(some 7), none, .faddr 1 (.tmp 6)⟩,
 ⟨(some 8), none, .load false 1 (.tmp 7)⟩,
 ⟨(some 9), none, .mov (.tmp 1)⟩,
 ⟨(some 10), none, .lit [(.str ⟨#[]⟩)] 1 [(0, 1, (.tmp 9))]⟩,
 ⟨(some 11), none, .append 1 16 [(.str ⟨#[]⟩)] (.tmp 8) (.tmp 10)⟩,
 ⟨(some 12), none, .nilchk (.tmp 4)⟩,
 ⟨(some 13), none, .faddr 1 (.tmp 12)⟩,
 ⟨none, none, .store 1 (.tmp 13) (.tmp 11)⟩])

theorem c89 : compF Try.prog 89 = some (14, [], k89) := by
 unfold compF; rw [Try.func89]; kernel_rfl

noncomputable def tab : Fns := [(2, 1, [], k2), (3, 49, [.tmp 2], k3), (4, 28, [], k4), (5, 15, [.tmp 2], k5), (6, 23, [.tmp 3], k6), (7, 66, [.tmp 2, .tmp 3, .tmp 4], k7), (8, 14, [], k8), (9, 14, [], k9), (10, 0, [], k10), (11, 24, [.tmp 3], k11), (12, 37, [.tmp 2, .cell 3 3, .tmp 4], k12), (13, 7, [], k13), (14, 2, [], k14), (15, 6, [], k15), (16, 20, [.tmp 3], k16), (17, 25, [.cell 4 48, .tmp 5], k17), (18, 12, [], k18), (19, 24, [.tmp 3], k19), (20, 25, [.cell 8 48, .tmp 9], k20), (21, 20, [.tmp 3], k21), (22, 69, [.tmp 4, .tmp 5], k22), (23, 19, [.tmp 3], k23), (24, 58, [.tmp 2, .tmp 3], k24), (25, 2, [], k25), (26, 20, [.tmp 3], k26), (27, 26, [.cell 4 48, .tmp 5], k27), (28, 27, [.tmp 3], k28), (29, 47, [.tmp 6, .tmp 7, .tmp 8], k29), (30, 59, [.tmp 4], k30), (31, 180, [.tmp 0], k31), (32, 24, [], k32), (33, 10, [.tmp 6], k33), (34, 25, [.tmp 4, .tmp 5], k34), (35, 18, [.tmp 4], k35), (36, 25, [.tmp 4, .tmp 5], k36), (37, 29, [.tmp 5], k37), (38, 41, [.tmp 2], k38), (39, 9, [.tmp 4], k39), (40, 9, [.tmp 3], k40), (41, 25, [.tmp 4, .tmp 5], k41), (42, 35, [.tmp 5], k42), (43, 34, [.tmp 6, .tmp 7], k43), (44, 1, [.tmp 0], k44), (45, 4, [.tmp 2], k45), (46, 31, [], k46), (47, 16, [], k47), (48, 4, [], k48), (49, 4, [.tmp 2], k49), (50, 33, [.cell 4 48], k50), (51, 7, [.tmp 3], k51), (52, 24, [.tmp 4], k52), (53, 15, [.tmp 6], k53), (54, 58, [.tmp 4], k54), (55, 18, [.tmp 6], k55), (56, 21, [.tmp 4], k56), (57, 36, [.tmp 4], k57), (58, 27, [.tmp 4], k58), (59, 6, [.cell 2 4], k59), (60, 27, [.tmp 5], k60), (61, 19, [.tmp 3], k61), (62, 7, [.tmp 3], k62), (63, 15, [.cell 2 26], k63), (64, 22, [.tmp 4], k64), (65, 8, [.cell 4 48], k65), (66, 7, [], k66), (67, 7, [], k67), (68, 7, [], k68), (69, 9, [.tmp 4], k69), (70, 13, [.tmp 4], k70), (71, 10, [.tmp 6], k71), (72, 19, [.tmp 4], k72), (73, 11, [], k73), (74, 113, [.tmp 7], k74), (75, 22, [.tmp 1], k75), (76, 20, [.tmp 4], k76), (77, 5, [.tmp 2], k77), (78, 7, [.tmp 2], k78), (79, 7, [.tmp 2], k79), (80, 48, [.tmp 4], k80), (81, 31, [], k81), (82, 31, [], k82), (83, 16, [], k83), (84, 31, [], k84), (85, 20, [], k85), (86, 19, [.tmp 4], k86), (87, 13, [.tmp 4], k87), (88, 6, [.tmp 2], k88), (89, 14, [], k89)]
theorem tab_ok : ∀ p ∈ tab, compF Try.prog p.1 = some p.2 :=
 (List.forall_mem_cons.2 ⟨c2, (List.forall_mem_cons.2 ⟨c3, (List.forall_mem_cons.2 ⟨c4, (List.forall_mem_cons.2 ⟨c5, (List.forall_mem_cons.2 ⟨c6, (List.forall_mem_cons.2 ⟨c7, (List.forall_mem_cons.2 ⟨c8, (List.forall_mem_cons.2 ⟨c9, (List.forall_mem_cons.2 ⟨c10, (List.forall_mem_cons.2 ⟨c11, (List.forall_mem_cons.2 ⟨c12, (List.forall_mem_cons.2 ⟨c13, (List.forall_mem_cons.2 ⟨c14, (List.forall_mem_cons.2 ⟨c15, (List.forall_mem_cons.2 ⟨c16, (List.forall_mem_cons.2 ⟨c17, (List.forall_mem_cons.2 ⟨c18, (List.forall_mem_cons.2 ⟨c19, (List.forall_mem_cons.2 ⟨c20, (List.forall_mem_cons.2 ⟨c21, (List.forall_mem_cons.2 ⟨c22, (List.forall_mem_cons.2 ⟨c23, (List.forall_mem_cons.2 ⟨c24, (List.forall_mem_cons.2 ⟨c25, (List.forall_mem_cons.2 ⟨c26, (List.forall_mem_cons.2 ⟨c27, (List.forall_mem_cons.2 ⟨c28, (List.forall_mem_cons.2 ⟨c29, (List.forall_mem_cons.2 ⟨c30, (List.forall_mem_cons.2 ⟨c31, (List.forall_mem_cons.2 ⟨c32, (List.forall_mem_cons.2 ⟨c33, (List.forall_mem_cons.2 ⟨c34, (List.forall_mem_cons.2 ⟨c35, (List.forall_mem_cons.2 ⟨c36, (List.forall_mem_cons.2 ⟨c37, (List.forall_mem_cons.2 ⟨c38, (List.forall_mem_cons.2 ⟨c39, (List.forall_mem_cons.2 ⟨c40, (List.forall_mem_cons.2 ⟨c41, (List.forall_mem_cons.2 ⟨c42, (List.forall_mem_cons.2 ⟨c43, (List.forall_mem_cons.2 ⟨c44, (List.forall_mem_cons.2 ⟨c45, (List.forall_mem_cons.2 ⟨c46, (List.forall_mem_cons.2 ⟨c47, (List.forall_mem_cons.2 ⟨c48, (List.forall_mem_cons.2 ⟨c49, (List.forall_mem_cons.2 ⟨c50, (List.forall_mem_cons.2 ⟨c51, (List.forall_mem_cons.2 ⟨c52, (List.forall_mem_cons.2 ⟨c53, (List.forall_mem_cons.2 ⟨c54, (List.forall_mem_cons.2 ⟨c55, (List.forall_mem_cons.2 ⟨c56, (List.forall_mem_cons.2 ⟨c57, (List.forall_mem_cons.2 ⟨c58, (List.forall_mem_cons.2 ⟨c59, (List.forall_mem_cons.2 ⟨c60, (List.forall_mem_cons.2 ⟨c61, (List.forall_mem_cons.2 ⟨c62, (List.forall_mem_cons.2 ⟨c63, (List.forall_mem_cons.2 ⟨c64, (List.forall_mem_cons.2 ⟨c65, (List.forall_mem_cons.2 ⟨c66, (List.forall_mem_cons.2 ⟨c67, (List.forall_mem_cons.2 ⟨c68, (List.forall_mem_cons.2 ⟨c69, (List.forall_mem_cons.2 ⟨c70, (List.forall_mem_cons.2 ⟨c71, (List.forall_mem_cons.2 ⟨c72, (List.forall_mem_cons.2 ⟨c73, (List.forall_mem_cons.2 ⟨c74, (List.forall_mem_cons.2 ⟨c75, (List.forall_mem_cons.2 ⟨c76, (List.forall_mem_cons.2 ⟨c77, (List.forall_mem_cons.2 ⟨c78, (List.forall_mem_cons.2 ⟨c79, (List.forall_mem_cons.2 ⟨c80, (List.forall_mem_cons.2 ⟨c81, (List.forall_mem_cons.2 ⟨c82, (List.forall_mem_cons.2 ⟨c83, (List.forall_mem_cons.2 ⟨c84, (List.forall_mem_cons.2 ⟨c85, (List.forall_mem_cons.2 ⟨c86, (List.forall_mem_cons.2 ⟨c87, (List.forall_mem_cons.2 ⟨c88, (List.forall_mem_cons.2 ⟨c89, (by simp)⟩)⟩)⟩)⟩)⟩)⟩)⟩)⟩)⟩)⟩)⟩)⟩)⟩)⟩)⟩)⟩)⟩)⟩)⟩)⟩)⟩)⟩)⟩)⟩)⟩)⟩)⟩)⟩)⟩)⟩)⟩)⟩)⟩)⟩)⟩)⟩)⟩)⟩)⟩)⟩)⟩)⟩)⟩)⟩)⟩)⟩)⟩)⟩)⟩)⟩)⟩)⟩)⟩)⟩)⟩)⟩)⟩)⟩)⟩)⟩)⟩)⟩)⟩)⟩)⟩)⟩)⟩)⟩)⟩)⟩)⟩)⟩)⟩)⟩)⟩)⟩)⟩)⟩)⟩)⟩)⟩)⟩)⟩)⟩)⟩)⟩)⟩)⟩)

end Go.Proofs.Ytbmleokjdimhkaa
