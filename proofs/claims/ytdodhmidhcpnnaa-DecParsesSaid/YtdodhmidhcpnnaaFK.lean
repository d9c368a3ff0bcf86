/- The functions in the abstract machine stand for those of the program: each checked by the kernel. Printed by a program of this session. -/
import Derived.Test.YtdodhmidhcpnnaaM
import Derived.Test.YtdodhmidhcpnnaaChecked
namespace Go.Proofs.Ytdodhmidhcpnnaa
open Go.Abs
set_option maxRecDepth 100000
theorem mixed : Try.prog.follows .mixedOrders = true := by kernel_rfl
theorem ok90 : okFun Try.prog 90 M.a90 = true := by kernel_rfl
theorem ok91 : okFun Try.prog 91 M.a91 = true := by kernel_rfl
theorem ok92 : okFun Try.prog 92 M.a92 = true := by kernel_rfl
theorem ok93 : okFun Try.prog 93 M.a93 = true := by kernel_rfl
theorem ok3 : okFun Try.prog 3 M.a3 = true := by kernel_rfl
theorem ok4 : okFun Try.prog 4 M.a4 = true := by kernel_rfl
theorem ok5 : okFun Try.prog 5 M.a5 = true := by kernel_rfl
theorem ok6 : okFun Try.prog 6 M.a6 = true := by kernel_rfl
theorem ok7 : okFun Try.prog 7 M.a7 = true := by kernel_rfl
theorem ok8 : okFun Try.prog 8 M.a8 = true := by kernel_rfl
theorem ok9 : okFun Try.prog 9 M.a9 = true := by kernel_rfl
theorem ok10 : okFun Try.prog 10 M.a10 = true := by kernel_rfl
theorem ok11 : okFun Try.prog 11 M.a11 = true := by kernel_rfl
theorem ok12 : okFun Try.prog 12 M.a12 = true := by kernel_rfl
theorem ok13 : okFun Try.prog 13 M.a13 = true := by kernel_rfl
theorem ok14 : okFun Try.prog 14 M.a14 = true := by kernel_rfl
theorem ok15 : okFun Try.prog 15 M.a15 = true := by kernel_rfl
theorem ok16 : okFun Try.prog 16 M.a16 = true := by kernel_rfl
theorem ok17 : okFun Try.prog 17 M.a17 = true := by kernel_rfl
theorem ok18 : okFun Try.prog 18 M.a18 = true := by kernel_rfl
theorem ok19 : okFun Try.prog 19 M.a19 = true := by kernel_rfl
theorem ok20 : okFun Try.prog 20 M.a20 = true := by kernel_rfl
theorem ok21 : okFun Try.prog 21 M.a21 = true := by kernel_rfl
theorem ok22 : okFun Try.prog 22 M.a22 = true := by kernel_rfl
theorem ok23 : okFun Try.prog 23 M.a23 = true := by kernel_rfl
theorem ok24 : okFun Try.prog 24 M.a24 = true := by kernel_rfl
theorem ok25 : okFun Try.prog 25 M.a25 = true := by kernel_rfl
theorem ok26 : okFun Try.prog 26 M.a26 = true := by kernel_rfl
theorem ok27 : okFun Try.prog 27 M.a27 = true := by kernel_rfl
theorem ok28 : okFun Try.prog 28 M.a28 = true := by kernel_rfl
theorem ok29 : okFun Try.prog 29 M.a29 = true := by kernel_rfl
theorem ok30 : okFun Try.prog 30 M.a30 = true := by kernel_rfl
theorem ok31 : okFun Try.prog 31 M.a31 = true := by kernel_rfl
theorem ok32 : okFun Try.prog 32 M.a32 = true := by kernel_rfl
theorem ok33 : okFun Try.prog 33 M.a33 = true := by kernel_rfl
theorem ok34 : okFun Try.prog 34 M.a34 = true := by kernel_rfl
theorem ok35 : okFun Try.prog 35 M.a35 = true := by kernel_rfl
theorem ok36 : okFun Try.prog 36 M.a36 = true := by kernel_rfl
theorem ok37 : okFun Try.prog 37 M.a37 = true := by kernel_rfl
theorem ok38 : okFun Try.prog 38 M.a38 = true := by kernel_rfl
theorem ok39 : okFun Try.prog 39 M.a39 = true := by kernel_rfl
theorem ok40 : okFun Try.prog 40 M.a40 = true := by kernel_rfl
theorem ok41 : okFun Try.prog 41 M.a41 = true := by kernel_rfl
theorem ok42 : okFun Try.prog 42 M.a42 = true := by kernel_rfl
theorem ok43 : okFun Try.prog 43 M.a43 = true := by kernel_rfl
theorem ok44 : okFun Try.prog 44 M.a44 = true := by kernel_rfl
theorem ok45 : okFun Try.prog 45 M.a45 = true := by kernel_rfl
theorem ok46 : okFun Try.prog 46 M.a46 = true := by kernel_rfl
theorem ok47 : okFun Try.prog 47 M.a47 = true := by kernel_rfl
theorem ok48 : okFun Try.prog 48 M.a48 = true := by kernel_rfl
theorem ok49 : okFun Try.prog 49 M.a49 = true := by kernel_rfl
theorem ok50 : okFun Try.prog 50 M.a50 = true := by kernel_rfl
theorem ok51 : okFun Try.prog 51 M.a51 = true := by kernel_rfl
theorem ok52 : okFun Try.prog 52 M.a52 = true := by kernel_rfl
theorem ok53 : okFun Try.prog 53 M.a53 = true := by kernel_rfl
theorem ok54 : okFun Try.prog 54 M.a54 = true := by kernel_rfl
theorem ok55 : okFun Try.prog 55 M.a55 = true := by kernel_rfl
theorem ok56 : okFun Try.prog 56 M.a56 = true := by kernel_rfl
theorem ok57 : okFun Try.prog 57 M.a57 = true := by kernel_rfl
theorem ok58 : okFun Try.prog 58 M.a58 = true := by kernel_rfl
theorem ok59 : okFun Try.prog 59 M.a59 = true := by kernel_rfl
theorem ok60 : okFun Try.prog 60 M.a60 = true := by kernel_rfl
theorem ok61 : okFun Try.prog 61 M.a61 = true := by kernel_rfl
theorem ok62 : okFun Try.prog 62 M.a62 = true := by kernel_rfl
theorem ok63 : okFun Try.prog 63 M.a63 = true := by kernel_rfl
theorem ok64 : okFun Try.prog 64 M.a64 = true := by kernel_rfl
theorem ok65 : okFun Try.prog 65 M.a65 = true := by kernel_rfl
theorem ok66 : okFun Try.prog 66 M.a66 = true := by kernel_rfl
theorem ok67 : okFun Try.prog 67 M.a67 = true := by kernel_rfl
theorem ok70 : okFun Try.prog 70 M.a70 = true := by kernel_rfl
theorem ok71 : okFun Try.prog 71 M.a71 = true := by kernel_rfl
theorem ok72 : okFun Try.prog 72 M.a72 = true := by kernel_rfl
theorem ok73 : okFun Try.prog 73 M.a73 = true := by kernel_rfl
theorem ok74 : okFun Try.prog 74 M.a74 = true := by kernel_rfl
theorem ok75 : okFun Try.prog 75 M.a75 = true := by kernel_rfl
theorem ok76 : okFun Try.prog 76 M.a76 = true := by kernel_rfl
theorem ok77 : okFun Try.prog 77 M.a77 = true := by kernel_rfl
theorem ok78 : okFun Try.prog 78 M.a78 = true := by kernel_rfl
theorem ok79 : okFun Try.prog 79 M.a79 = true := by kernel_rfl
theorem ok80 : okFun Try.prog 80 M.a80 = true := by kernel_rfl
theorem ok81 : okFun Try.prog 81 M.a81 = true := by kernel_rfl
theorem ok82 : okFun Try.prog 82 M.a82 = true := by kernel_rfl
theorem ok83 : okFun Try.prog 83 M.a83 = true := by kernel_rfl
theorem ok84 : okFun Try.prog 84 M.a84 = true := by kernel_rfl
theorem ok85 : okFun Try.prog 85 M.a85 = true := by kernel_rfl
theorem ok86 : okFun Try.prog 86 M.a86 = true := by kernel_rfl
theorem ok87 : okFun Try.prog 87 M.a87 = true := by kernel_rfl
theorem ok88 : okFun Try.prog 88 M.a88 = true := by kernel_rfl
theorem ok89 : okFun Try.prog 89 M.a89 = true := by kernel_rfl
def tab : List (Nat × AFun) := [(90, M.a90), (91, M.a91), (92, M.a92), (93, M.a93), (3, M.a3), (4, M.a4), (5, M.a5), (6, M.a6), (7, M.a7), (8, M.a8), (9, M.a9), (10, M.a10), (11, M.a11), (12, M.a12), (13, M.a13), (14, M.a14), (15, M.a15), (16, M.a16), (17, M.a17), (18, M.a18), (19, M.a19), (20, M.a20), (21, M.a21), (22, M.a22), (23, M.a23), (24, M.a24), (25, M.a25), (26, M.a26), (27, M.a27), (28, M.a28), (29, M.a29), (30, M.a30), (31, M.a31), (32, M.a32), (33, M.a33), (34, M.a34), (35, M.a35), (36, M.a36), (37, M.a37), (38, M.a38), (39, M.a39), (40, M.a40), (41, M.a41), (42, M.a42), (43, M.a43), (44, M.a44), (45, M.a45), (46, M.a46), (47, M.a47), (48, M.a48), (49, M.a49), (50, M.a50), (51, M.a51), (52, M.a52), (53, M.a53), (54, M.a54), (55, M.a55), (56, M.a56), (57, M.a57), (58, M.a58), (59, M.a59), (60, M.a60), (61, M.a61), (62, M.a62), (63, M.a63), (64, M.a64), (65, M.a65), (66, M.a66), (67, M.a67), (70, M.a70), (71, M.a71), (72, M.a72), (73, M.a73), (74, M.a74), (75, M.a75), (76, M.a76), (77, M.a77), (78, M.a78), (79, M.a79), (80, M.a80), (81, M.a81), (82, M.a82), (83, M.a83), (84, M.a84), (85, M.a85), (86, M.a86), (87, M.a87), (88, M.a88), (89, M.a89)]
theorem tabOk : AllOk Try.prog tab := ⟨ok90, ok91, ok92, ok93, ok3, ok4, ok5, ok6, ok7, ok8, ok9, ok10, ok11, ok12, ok13, ok14, ok15, ok16, ok17, ok18, ok19, ok20, ok21, ok22, ok23, ok24, ok25, ok26, ok27, ok28, ok29, ok30, ok31, ok32, ok33, ok34, ok35, ok36, ok37, ok38, ok39, ok40, ok41, ok42, ok43, ok44, ok45, ok46, ok47, ok48, ok49, ok50, ok51, ok52, ok53, ok54, ok55, ok56, ok57, ok58, ok59, ok60, ok61, ok62, ok63, ok64, ok65, ok66, ok67, ok70, ok71, ok72, ok73, ok74, ok75, ok76, ok77, ok78, ok79, ok80, ok81, ok82, ok83, ok84, ok85, ok86, ok87, ok88, ok89, trivial⟩
def F : Funs := Go.Abs.look tab
theorem funsOk : FunsOk Try.prog F := funsOk_of tabOk
end Go.Proofs.Ytdodhmidhcpnnaa
