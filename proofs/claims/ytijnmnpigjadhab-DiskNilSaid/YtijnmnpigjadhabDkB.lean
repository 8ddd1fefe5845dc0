import Derived.Test.YtijnmnpigjadhabChecked
import Derived.Test.YtijnmnpigjadhabRexPrim
import Derived.Test.YtijnmnpigjadhabDkA
namespace Go.Dk
open Go Go.Rex Go.Proofs
set_option maxRecDepth 100000
set_option linter.unusedVariables false

theorem dig3 : digFn Try.prog ann 3 Try.f3 = some a3.fn := by kernel_rfl
theorem dig4 : digFn Try.prog ann 4 Try.f4 = some a4.fn := by kernel_rfl
theorem dig5 : digFn Try.prog ann 5 Try.f5 = some a5.fn := by kernel_rfl
theorem dig6 : digFn Try.prog ann 6 Try.f6 = some a6.fn := by kernel_rfl
theorem dig7 : digFn Try.prog ann 7 Try.f7 = some a7.fn := by kernel_rfl
theorem dig8 : digFn Try.prog ann 8 Try.f8 = some a8.fn := by kernel_rfl
theorem dig9 : digFn Try.prog ann 9 Try.f9 = some a9.fn := by kernel_rfl
theorem dig10 : digFn Try.prog ann 10 Try.f10 = some a10.fn := by kernel_rfl
theorem dig11 : digFn Try.prog ann 11 Try.f11 = some a11.fn := by kernel_rfl
theorem dig12 : digFn Try.prog ann 12 Try.f12 = some a12.fn := by kernel_rfl
theorem dig13 : digFn Try.prog ann 13 Try.f13 = some a13.fn := by kernel_rfl
theorem dig14 : digFn Try.prog ann 14 Try.f14 = some a14.fn := by kernel_rfl
theorem dig15 : digFn Try.prog ann 15 Try.f15 = some a15.fn := by kernel_rfl
theorem dig16 : digFn Try.prog ann 16 Try.f16 = some a16.fn := by kernel_rfl
theorem dig17 : digFn Try.prog ann 17 Try.f17 = some a17.fn := by kernel_rfl
theorem dig18 : digFn Try.prog ann 18 Try.f18 = some a18.fn := by kernel_rfl
theorem dig19 : digFn Try.prog ann 19 Try.f19 = some a19.fn := by kernel_rfl
theorem dig20 : digFn Try.prog ann 20 Try.f20 = some a20.fn := by kernel_rfl
theorem dig21 : digFn Try.prog ann 21 Try.f21 = some a21.fn := by kernel_rfl
theorem dig22 : digFn Try.prog ann 22 Try.f22 = some a22.fn := by kernel_rfl
theorem dig23 : digFn Try.prog ann 23 Try.f23 = some a23.fn := by kernel_rfl
theorem dig24 : digFn Try.prog ann 24 Try.f24 = some a24.fn := by kernel_rfl
theorem dig25 : digFn Try.prog ann 25 Try.f25 = some a25.fn := by kernel_rfl
theorem dig26 : digFn Try.prog ann 26 Try.f26 = some a26.fn := by kernel_rfl
theorem dig27 : digFn Try.prog ann 27 Try.f27 = some a27.fn := by kernel_rfl
theorem dig28 : digFn Try.prog ann 28 Try.f28 = some a28.fn := by kernel_rfl
theorem dig29 : digFn Try.prog ann 29 Try.f29 = some a29.fn := by kernel_rfl
theorem dig30 : digFn Try.prog ann 30 Try.f30 = some a30.fn := by kernel_rfl
theorem dig31 : digFn Try.prog ann 31 Try.f31 = some a31.fn := by kernel_rfl
theorem dig32 : digFn Try.prog ann 32 Try.f32 = some a32.fn := by kernel_rfl
theorem dig33 : digFn Try.prog ann 33 Try.f33 = some a33.fn := by kernel_rfl
theorem dig34 : digFn Try.prog ann 34 Try.f34 = some a34.fn := by kernel_rfl
theorem dig35 : digFn Try.prog ann 35 Try.f35 = some a35.fn := by kernel_rfl
theorem dig36 : digFn Try.prog ann 36 Try.f36 = some a36.fn := by kernel_rfl
theorem dig37 : digFn Try.prog ann 37 Try.f37 = some a37.fn := by kernel_rfl
theorem dig38 : digFn Try.prog ann 38 Try.f38 = some a38.fn := by kernel_rfl
theorem dig39 : digFn Try.prog ann 39 Try.f39 = some a39.fn := by kernel_rfl
theorem dig40 : digFn Try.prog ann 40 Try.f40 = some a40.fn := by kernel_rfl
theorem dig41 : digFn Try.prog ann 41 Try.f41 = some a41.fn := by kernel_rfl
theorem dig42 : digFn Try.prog ann 42 Try.f42 = some a42.fn := by kernel_rfl
theorem dig43 : digFn Try.prog ann 43 Try.f43 = some a43.fn := by kernel_rfl
theorem dig44 : digFn Try.prog ann 44 Try.f44 = some a44.fn := by kernel_rfl
theorem dig45 : digFn Try.prog ann 45 Try.f45 = some a45.fn := by kernel_rfl
theorem dig46 : digFn Try.prog ann 46 Try.f46 = some a46.fn := by kernel_rfl
theorem dig47 : digFn Try.prog ann 47 Try.f47 = some a47.fn := by kernel_rfl
theorem dig48 : digFn Try.prog ann 48 Try.f48 = some a48.fn := by kernel_rfl
theorem dig49 : digFn Try.prog ann 49 Try.f49 = some a49.fn := by kernel_rfl
theorem dig50 : digFn Try.prog ann 50 Try.f50 = some a50.fn := by kernel_rfl
theorem dig51 : digFn Try.prog ann 51 Try.f51 = some a51.fn := by kernel_rfl
theorem dig52 : digFn Try.prog ann 52 Try.f52 = some a52.fn := by kernel_rfl
theorem dig53 : digFn Try.prog ann 53 Try.f53 = some a53.fn := by kernel_rfl
theorem dig54 : digFn Try.prog ann 54 Try.f54 = some a54.fn := by kernel_rfl
theorem dig55 : digFn Try.prog ann 55 Try.f55 = some a55.fn := by kernel_rfl
theorem dig56 : digFn Try.prog ann 56 Try.f56 = some a56.fn := by kernel_rfl
theorem dig57 : digFn Try.prog ann 57 Try.f57 = some a57.fn := by kernel_rfl
theorem dig58 : digFn Try.prog ann 58 Try.f58 = some a58.fn := by kernel_rfl
theorem dig59 : digFn Try.prog ann 59 Try.f59 = some a59.fn := by kernel_rfl
theorem dig60 : digFn Try.prog ann 60 Try.f60 = some a60.fn := by kernel_rfl
theorem dig61 : digFn Try.prog ann 61 Try.f61 = some a61.fn := by kernel_rfl
theorem dig62 : digFn Try.prog ann 62 Try.f62 = some a62.fn := by kernel_rfl
theorem dig63 : digFn Try.prog ann 63 Try.f63 = some a63.fn := by kernel_rfl
theorem dig64 : digFn Try.prog ann 64 Try.f64 = some a64.fn := by kernel_rfl
theorem dig65 : digFn Try.prog ann 65 Try.f65 = some a65.fn := by kernel_rfl
theorem dig66 : digFn Try.prog ann 66 Try.f66 = some a66.fn := by kernel_rfl
theorem dig67 : digFn Try.prog ann 67 Try.f67 = some a67.fn := by kernel_rfl
theorem dig68 : digFn Try.prog ann 68 Try.f68 = some a68.fn := by kernel_rfl
theorem dig69 : digFn Try.prog ann 69 Try.f69 = some a69.fn := by kernel_rfl
theorem dig70 : digFn Try.prog ann 70 Try.f70 = some a70.fn := by kernel_rfl
theorem dig71 : digFn Try.prog ann 71 Try.f71 = some a71.fn := by kernel_rfl
theorem dig72 : digFn Try.prog ann 72 Try.f72 = some a72.fn := by kernel_rfl
theorem dig73 : digFn Try.prog ann 73 Try.f73 = some a73.fn := by kernel_rfl
theorem dig74 : digFn Try.prog ann 74 Try.f74 = some a74.fn := by kernel_rfl
theorem dig75 : digFn Try.prog ann 75 Try.f75 = some a75.fn := by kernel_rfl
theorem dig76 : digFn Try.prog ann 76 Try.f76 = some a76.fn := by kernel_rfl
theorem dig77 : digFn Try.prog ann 77 Try.f77 = some a77.fn := by kernel_rfl
theorem dig78 : digFn Try.prog ann 78 Try.f78 = some a78.fn := by kernel_rfl
theorem dig79 : digFn Try.prog ann 79 Try.f79 = some a79.fn := by kernel_rfl
theorem dig80 : digFn Try.prog ann 80 Try.f80 = some a80.fn := by kernel_rfl
theorem dig81 : digFn Try.prog ann 81 Try.f81 = some a81.fn := by kernel_rfl
theorem dig82 : digFn Try.prog ann 82 Try.f82 = some a82.fn := by kernel_rfl
theorem dig83 : digFn Try.prog ann 83 Try.f83 = some a83.fn := by kernel_rfl
theorem dig84 : digFn Try.prog ann 84 Try.f84 = some a84.fn := by kernel_rfl
theorem dig85 : digFn Try.prog ann 85 Try.f85 = some a85.fn := by kernel_rfl
theorem dig86 : digFn Try.prog ann 86 Try.f86 = some a86.fn := by kernel_rfl
theorem dig87 : digFn Try.prog ann 87 Try.f87 = some a87.fn := by kernel_rfl
theorem dig88 : digFn Try.prog ann 88 Try.f88 = some a88.fn := by kernel_rfl
theorem dig89 : digFn Try.prog ann 89 Try.f89 = some a89.fn := by kernel_rfl
theorem dig90 : digFn Try.prog ann 90 Try.f90 = some a90.fn := by kernel_rfl
theorem dig91 : digFn Try.prog ann 91 Try.f91 = some a91.fn := by kernel_rfl
theorem dig92 : digFn Try.prog ann 92 Try.f92 = some a92.fn := by kernel_rfl
theorem dig93 : digFn Try.prog ann 93 Try.f93 = some a93.fn := by kernel_rfl
theorem dig94 : digFn Try.prog ann 94 Try.f94 = some a94.fn := by kernel_rfl
theorem dig95 : digFn Try.prog ann 95 Try.f95 = some a95.fn := by kernel_rfl
theorem dig96 : digFn Try.prog ann 96 Try.f96 = some a96.fn := by kernel_rfl
theorem dig98 : digFn Try.prog ann 98 Try.f98 = some a98.fn := by kernel_rfl
theorem dig100 : digFn Try.prog ann 100 Try.f100 = some a100.fn := by kernel_rfl
theorem dig101 : digFn Try.prog ann 101 Try.f101 = some a101.fn := by kernel_rfl
theorem mixed : Try.prog.follows .mixedOrders = true := by kernel_rfl
def tab : Tab := (.node (.node (.node (.node (.node (.node (.node .nil 3 a3.fn .nil) 4 a4.fn (.node .nil 5 a5.fn .nil)) 6 a6.fn (.node (.node .nil 7 a7.fn .nil) 8 a8.fn .nil)) 9 a9.fn (.node (.node (.node .nil 10 a10.fn .nil) 11 a11.fn .nil) 12 a12.fn (.node (.node .nil 13 a13.fn .nil) 14 a14.fn .nil))) 15 a15.fn (.node (.node (.node (.node .nil 16 a16.fn .nil) 17 a17.fn .nil) 18 a18.fn (.node (.node .nil 19 a19.fn .nil) 20 a20.fn .nil)) 21 a21.fn (.node (.node (.node .nil 22 a22.fn .nil) 23 a23.fn .nil) 24 a24.fn (.node (.node .nil 25 a25.fn .nil) 26 a26.fn .nil)))) 27 a27.fn (.node (.node (.node (.node (.node .nil 28 a28.fn .nil) 29 a29.fn .nil) 30 a30.fn (.node (.node .nil 31 a31.fn .nil) 32 a32.fn .nil)) 33 a33.fn (.node (.node (.node .nil 34 a34.fn .nil) 35 a35.fn .nil) 36 a36.fn (.node (.node .nil 37 a37.fn .nil) 38 a38.fn .nil))) 39 a39.fn (.node (.node (.node (.node .nil 40 a40.fn .nil) 41 a41.fn .nil) 42 a42.fn (.node (.node .nil 43 a43.fn .nil) 44 a44.fn .nil)) 45 a45.fn (.node (.node (.node .nil 46 a46.fn .nil) 47 a47.fn .nil) 48 a48.fn (.node (.node .nil 49 a49.fn .nil) 50 a50.fn .nil))))) 51 a51.fn (.node (.node (.node (.node (.node (.node .nil 52 a52.fn .nil) 53 a53.fn (.node .nil 54 a54.fn .nil)) 55 a55.fn (.node (.node .nil 56 a56.fn .nil) 57 a57.fn .nil)) 58 a58.fn (.node (.node (.node .nil 59 a59.fn .nil) 60 a60.fn .nil) 61 a61.fn (.node (.node .nil 62 a62.fn .nil) 63 a63.fn .nil))) 64 a64.fn (.node (.node (.node (.node .nil 65 a65.fn .nil) 66 a66.fn .nil) 67 a67.fn (.node (.node .nil 68 a68.fn .nil) 69 a69.fn .nil)) 70 a70.fn (.node (.node (.node .nil 71 a71.fn .nil) 72 a72.fn .nil) 73 a73.fn (.node (.node .nil 74 a74.fn .nil) 75 a75.fn .nil)))) 76 a76.fn (.node (.node (.node (.node (.node .nil 77 a77.fn .nil) 78 a78.fn .nil) 79 a79.fn (.node (.node .nil 80 a80.fn .nil) 81 a81.fn .nil)) 82 a82.fn (.node (.node (.node .nil 83 a83.fn .nil) 84 a84.fn .nil) 85 a85.fn (.node (.node .nil 86 a86.fn .nil) 87 a87.fn .nil))) 88 a88.fn (.node (.node (.node (.node .nil 89 a89.fn .nil) 90 a90.fn .nil) 91 a91.fn (.node (.node .nil 92 a92.fn .nil) 93 a93.fn .nil)) 94 a94.fn (.node (.node (.node .nil 95 a95.fn .nil) 96 a96.fn .nil) 98 a98.fn (.node (.node .nil 100 a100.fn .nil) 101 a101.fn .nil))))))
theorem tab_all : tab.All fun f rf => ∃ fn, Try.prog.funcs[f]? = some fn ∧ digFn Try.prog ann f fn = some rf := ⟨⟨⟨⟨⟨⟨⟨trivial, ⟨_, Try.func3, dig3⟩, trivial⟩, ⟨_, Try.func4, dig4⟩, ⟨trivial, ⟨_, Try.func5, dig5⟩, trivial⟩⟩, ⟨_, Try.func6, dig6⟩, ⟨⟨trivial, ⟨_, Try.func7, dig7⟩, trivial⟩, ⟨_, Try.func8, dig8⟩, trivial⟩⟩, ⟨_, Try.func9, dig9⟩, ⟨⟨⟨trivial, ⟨_, Try.func10, dig10⟩, trivial⟩, ⟨_, Try.func11, dig11⟩, trivial⟩, ⟨_, Try.func12, dig12⟩, ⟨⟨trivial, ⟨_, Try.func13, dig13⟩, trivial⟩, ⟨_, Try.func14, dig14⟩, trivial⟩⟩⟩, ⟨_, Try.func15, dig15⟩, ⟨⟨⟨⟨trivial, ⟨_, Try.func16, dig16⟩, trivial⟩, ⟨_, Try.func17, dig17⟩, trivial⟩, ⟨_, Try.func18, dig18⟩, ⟨⟨trivial, ⟨_, Try.func19, dig19⟩, trivial⟩, ⟨_, Try.func20, dig20⟩, trivial⟩⟩, ⟨_, Try.func21, dig21⟩, ⟨⟨⟨trivial, ⟨_, Try.func22, dig22⟩, trivial⟩, ⟨_, Try.func23, dig23⟩, trivial⟩, ⟨_, Try.func24, dig24⟩, ⟨⟨trivial, ⟨_, Try.func25, dig25⟩, trivial⟩, ⟨_, Try.func26, dig26⟩, trivial⟩⟩⟩⟩, ⟨_, Try.func27, dig27⟩, ⟨⟨⟨⟨⟨trivial, ⟨_, Try.func28, dig28⟩, trivial⟩, ⟨_, Try.func29, dig29⟩, trivial⟩, ⟨_, Try.func30, dig30⟩, ⟨⟨trivial, ⟨_, Try.func31, dig31⟩, trivial⟩, ⟨_, Try.func32, dig32⟩, trivial⟩⟩, ⟨_, Try.func33, dig33⟩, ⟨⟨⟨trivial, ⟨_, Try.func34, dig34⟩, trivial⟩, ⟨_, Try.func35, dig35⟩, trivial⟩, ⟨_, Try.func36, dig36⟩, ⟨⟨trivial, ⟨_, Try.func37, dig37⟩, trivial⟩, ⟨_, Try.func38, dig38⟩, trivial⟩⟩⟩, ⟨_, Try.func39, dig39⟩, ⟨⟨⟨⟨trivial, ⟨_, Try.func40, dig40⟩, trivial⟩, ⟨_, Try.func41, dig41⟩, trivial⟩, ⟨_, Try.func42, dig42⟩, ⟨⟨trivial, ⟨_, Try.func43, dig43⟩, trivial⟩, ⟨_, Try.func44, dig44⟩, trivial⟩⟩, ⟨_, Try.func45, dig45⟩, ⟨⟨⟨trivial, ⟨_, Try.func46, dig46⟩, trivial⟩, ⟨_, Try.func47, dig47⟩, trivial⟩, ⟨_, Try.func48, dig48⟩, ⟨⟨trivial, ⟨_, Try.func49, dig49⟩, trivial⟩, ⟨_, Try.func50, dig50⟩, trivial⟩⟩⟩⟩⟩, ⟨_, Try.func51, dig51⟩, ⟨⟨⟨⟨⟨⟨trivial, ⟨_, Try.func52, dig52⟩, trivial⟩, ⟨_, Try.func53, dig53⟩, ⟨trivial, ⟨_, Try.func54, dig54⟩, trivial⟩⟩, ⟨_, Try.func55, dig55⟩, ⟨⟨trivial, ⟨_, Try.func56, dig56⟩, trivial⟩, ⟨_, Try.func57, dig57⟩, trivial⟩⟩, ⟨_, Try.func58, dig58⟩, ⟨⟨⟨trivial, ⟨_, Try.func59, dig59⟩, trivial⟩, ⟨_, Try.func60, dig60⟩, trivial⟩, ⟨_, Try.func61, dig61⟩, ⟨⟨trivial, ⟨_, Try.func62, dig62⟩, trivial⟩, ⟨_, Try.func63, dig63⟩, trivial⟩⟩⟩, ⟨_, Try.func64, dig64⟩, ⟨⟨⟨⟨trivial, ⟨_, Try.func65, dig65⟩, trivial⟩, ⟨_, Try.func66, dig66⟩, trivial⟩, ⟨_, Try.func67, dig67⟩, ⟨⟨trivial, ⟨_, Try.func68, dig68⟩, trivial⟩, ⟨_, Try.func69, dig69⟩, trivial⟩⟩, ⟨_, Try.func70, dig70⟩, ⟨⟨⟨trivial, ⟨_, Try.func71, dig71⟩, trivial⟩, ⟨_, Try.func72, dig72⟩, trivial⟩, ⟨_, Try.func73, dig73⟩, ⟨⟨trivial, ⟨_, Try.func74, dig74⟩, trivial⟩, ⟨_, Try.func75, dig75⟩, trivial⟩⟩⟩⟩, ⟨_, Try.func76, dig76⟩, ⟨⟨⟨⟨⟨trivial, ⟨_, Try.func77, dig77⟩, trivial⟩, ⟨_, Try.func78, dig78⟩, trivial⟩, ⟨_, Try.func79, dig79⟩, ⟨⟨trivial, ⟨_, Try.func80, dig80⟩, trivial⟩, ⟨_, Try.func81, dig81⟩, trivial⟩⟩, ⟨_, Try.func82, dig82⟩, ⟨⟨⟨trivial, ⟨_, Try.func83, dig83⟩, trivial⟩, ⟨_, Try.func84, dig84⟩, trivial⟩, ⟨_, Try.func85, dig85⟩, ⟨⟨trivial, ⟨_, Try.func86, dig86⟩, trivial⟩, ⟨_, Try.func87, dig87⟩, trivial⟩⟩⟩, ⟨_, Try.func88, dig88⟩, ⟨⟨⟨⟨trivial, ⟨_, Try.func89, dig89⟩, trivial⟩, ⟨_, Try.func90, dig90⟩, trivial⟩, ⟨_, Try.func91, dig91⟩, ⟨⟨trivial, ⟨_, Try.func92, dig92⟩, trivial⟩, ⟨_, Try.func93, dig93⟩, trivial⟩⟩, ⟨_, Try.func94, dig94⟩, ⟨⟨⟨trivial, ⟨_, Try.func95, dig95⟩, trivial⟩, ⟨_, Try.func96, dig96⟩, trivial⟩, ⟨_, Try.func98, dig98⟩, ⟨⟨trivial, ⟨_, Try.func100, dig100⟩, trivial⟩, ⟨_, Try.func101, dig101⟩, trivial⟩⟩⟩⟩⟩⟩
end Go.Dk
