/- The functions in the abstract machine stand for those of the program: each checked by the kernel. Printed by a program of this session. -/
import Derived.Test.YtokdnndocipilaaM
import Derived.Test.YtokdnndocipilaaChecked
namespace Go.Proofs.Ytokdnndocipilaa
open Go.Abs
set_option maxRecDepth 100000
theorem mixed : Try.prog.follows .mixedOrders = true := by kernel_rfl
theorem ok3 : okFun Try.prog 3 M.a3 = true := by kernel_rfl
theorem ok4 : okFun Try.prog 4 M.a4 = true := by kernel_rfl
theorem ok5 : okFun Try.prog 5 M.a5 = true := by kernel_rfl
theorem ok6 : okFun Try.prog 6 M.a6 = true := by kernel_rfl
theorem ok7 : okFun Try.prog 7 M.a7 = true := by kernel_rfl
theorem ok8 : okFun Try.prog 8 M.a8 = true := by kernel_rfl
theorem ok9 : okFun Try.prog 9 M.a9 = true := by kernel_rfl
theorem ok10 : okFun Try.prog 10 M.a10 = true := by kernel_rfl
theorem ok11 : okFun Try.prog 11 M.a11 = true := by kernel_rfl
theorem ok12 : okFun Try.prog 12 M.a12 = true := by kernel_rfl
theorem ok13 : okFun Try.prog 13 M.a13 = true := by kernel_rfl
theorem ok14 : okFun Try.prog 14 M.a14 = true := by kernel_rfl
theorem ok15 : okFun Try.prog 15 M.a15 = true := by kernel_rfl
theorem ok16 : okFun Try.prog 16 M.a16 = true := by kernel_rfl
theorem ok17 : okFun Try.prog 17 M.a17 = true := by kernel_rfl
theorem ok18 : okFun Try.prog 18 M.a18 = true := by kernel_rfl
theorem ok19 : okFun Try.prog 19 M.a19 = true := by kernel_rfl
theorem ok20 : okFun Try.prog 20 M.a20 = true := by kernel_rfl
theorem ok21 : okFun Try.prog 21 M.a21 = true := by kernel_rfl
theorem ok22 : okFun Try.prog 22 M.a22 = true := by kernel_rfl
theorem ok23 : okFun Try.prog 23 M.a23 = true := by kernel_rfl
theorem ok24 : okFun Try.prog 24 M.a24 = true := by kernel_rfl
theorem ok25 : okFun Try.prog 25 M.a25 = true := by kernel_rfl
theorem ok26 : okFun Try.prog 26 M.a26 = true := by kernel_rfl
theorem ok27 : okFun Try.prog 27 M.a27 = true := by kernel_rfl
theorem ok28 : okFun Try.prog 28 M.a28 = true := by kernel_rfl
theorem ok29 : okFun Try.prog 29 M.a29 = true := by kernel_rfl
theorem ok30 : okFun Try.prog 30 M.a30 = true := by kernel_rfl
theorem ok31 : okFun Try.prog 31 M.a31 = true := by kernel_rfl
theorem ok32 : okFun Try.prog 32 M.a32 = true := by kernel_rfl
theorem ok33 : okFun Try.prog 33 M.a33 = true := by kernel_rfl
theorem ok34 : okFun Try.prog 34 M.a34 = true := by kernel_rfl
theorem ok35 : okFun Try.prog 35 M.a35 = true := by kernel_rfl
theorem ok36 : okFun Try.prog 36 M.a36 = true := by kernel_rfl
theorem ok37 : okFun Try.prog 37 M.a37 = true := by kernel_rfl
theorem ok38 : okFun Try.prog 38 M.a38 = true := by kernel_rfl
theorem ok39 : okFun Try.prog 39 M.a39 = true := by kernel_rfl
theorem ok40 : okFun Try.prog 40 M.a40 = true := by kernel_rfl
theorem ok41 : okFun Try.prog 41 M.a41 = true := by kernel_rfl
theorem ok42 : okFun Try.prog 42 M.a42 = true := by kernel_rfl
theorem ok43 : okFun Try.prog 43 M.a43 = true := by kernel_rfl
theorem ok44 : okFun Try.prog 44 M.a44 = true := by kernel_rfl
def tab : List (Nat × AFun) := [(3, M.a3), (4, M.a4), (5, M.a5), (6, M.a6), (7, M.a7), (8, M.a8), (9, M.a9), (10, M.a10), (11, M.a11), (12, M.a12), (13, M.a13), (14, M.a14), (15, M.a15), (16, M.a16), (17, M.a17), (18, M.a18), (19, M.a19), (20, M.a20), (21, M.a21), (22, M.a22), (23, M.a23), (24, M.a24), (25, M.a25), (26, M.a26), (27, M.a27), (28, M.a28), (29, M.a29), (30, M.a30), (31, M.a31), (32, M.a32), (33, M.a33), (34, M.a34), (35, M.a35), (36, M.a36), (37, M.a37), (38, M.a38), (39, M.a39), (40, M.a40), (41, M.a41), (42, M.a42), (43, M.a43), (44, M.a44)]
theorem tabOk : AllOk Try.prog tab := ⟨ok3, ok4, ok5, ok6, ok7, ok8, ok9, ok10, ok11, ok12, ok13, ok14, ok15, ok16, ok17, ok18, ok19, ok20, ok21, ok22, ok23, ok24, ok25, ok26, ok27, ok28, ok29, ok30, ok31, ok32, ok33, ok34, ok35, ok36, ok37, ok38, ok39, ok40, ok41, ok42, ok43, ok44, trivial⟩
def F : Funs := Go.Abs.look tab
theorem funsOk : FunsOk Try.prog F := funsOk_of tabOk
end Go.Proofs.Ytokdnndocipilaa
