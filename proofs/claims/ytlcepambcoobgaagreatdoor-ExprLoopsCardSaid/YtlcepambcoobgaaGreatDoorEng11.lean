/- Eng11: an engine for the program's code, and walks of its functions (Ty). -/
import Derived.Test.YtlcepambcoobgaaGreatDoorEng08
import Derived.Test.YtlcepambcoobgaaGreatDoorProg
/- The types of the program. Printed by a program. -/
namespace Go.Eng
open Go.Proofs
theorem ty1 : tiOf Tryz.prog 1 = some ⟨.func, 1, 8, [.lit .nilFunc]⟩ := by kernel_rfl
theorem ty2 : tiOf Tryz.prog 2 = some ⟨.int .i64, 1, 8, [.lit (.int .i64 0)]⟩ := by kernel_rfl
theorem ty3 : tiOf Tryz.prog 3 = some ⟨.int .i64, 1, 8, [.lit (.int .i64 0)]⟩ := by kernel_rfl
theorem ty4 : tiOf Tryz.prog 4 = some ⟨.bool, 1, 1, [.lit (.bool false)]⟩ := by kernel_rfl
theorem ty5 : tiOf Tryz.prog 5 = some ⟨.int .u8, 1, 1, [.lit (.int .u8 0)]⟩ := by kernel_rfl
theorem ty6 : tiOf Tryz.prog 6 = some ⟨.int .u8, 1, 1, [.lit (.int .u8 0)]⟩ := by kernel_rfl
theorem ty7 : tiOf Tryz.prog 7 = some ⟨.struct [(0, 1), (1, 1), (2, 1), (3, 1)], 4, 24, [.lit (.int .i64 0), .lit (.int .i64 0), .lit (.bool false), .lit (.int .u8 0)]⟩ := by kernel_rfl
theorem ty8 : tiOf Tryz.prog 8 = some ⟨.struct [(0, 1), (1, 1), (2, 1), (3, 1)], 4, 24, [.lit (.int .i64 0), .lit (.int .i64 0), .lit (.bool false), .lit (.int .u8 0)]⟩ := by kernel_rfl
theorem ty9 : tiOf Tryz.prog 9 = some ⟨.string, 1, 16, [.lit (.string ⟨#[]⟩)]⟩ := by kernel_rfl
theorem ty10 : tiOf Tryz.prog 10 = some ⟨.string, 1, 16, [.lit (.string ⟨#[]⟩)]⟩ := by kernel_rfl
theorem ty11 : tiOf Tryz.prog 11 = some ⟨.string, 1, 16, [.lit (.string ⟨#[]⟩)]⟩ := by kernel_rfl
theorem ty12 : tiOf Tryz.prog 12 = some ⟨.int .u64, 1, 8, [.lit (.int .u64 0)]⟩ := by kernel_rfl
theorem ty13 : tiOf Tryz.prog 13 = some ⟨.struct [(0, 1), (1, 1)], 2, 24, [.lit (.string ⟨#[]⟩), .lit (.int .u64 0)]⟩ := by kernel_rfl
theorem ty14 : tiOf Tryz.prog 14 = some ⟨.struct [(0, 1), (1, 1)], 2, 24, [.lit (.string ⟨#[]⟩), .lit (.int .u64 0)]⟩ := by kernel_rfl
theorem ty15 : tiOf Tryz.prog 15 = some ⟨.ptr 387, 1, 8, [.lit (.pointer none)]⟩ := by kernel_rfl
theorem ty16 : tiOf Tryz.prog 16 = some ⟨.ptr 390, 1, 8, [.lit (.pointer none)]⟩ := by kernel_rfl
theorem ty17 : tiOf Tryz.prog 17 = some ⟨.ptr 397, 1, 8, [.lit (.pointer none)]⟩ := by kernel_rfl
theorem ty18 : tiOf Tryz.prog 18 = some ⟨.struct [(0, 1)], 1, 8, [.lit (.pointer none)]⟩ := by kernel_rfl
theorem ty19 : tiOf Tryz.prog 19 = some ⟨.struct [(0, 1)], 1, 8, [.lit (.pointer none)]⟩ := by kernel_rfl
theorem ty20 : tiOf Tryz.prog 20 = some ⟨.iface, 1, 16, [.lit .nilIface]⟩ := by kernel_rfl
theorem ty21 : tiOf Tryz.prog 21 = some ⟨.int .i32, 1, 4, [.lit (.int .i32 0)]⟩ := by kernel_rfl
theorem ty22 : tiOf Tryz.prog 22 = some ⟨.func, 1, 8, [.lit .nilFunc]⟩ := by kernel_rfl
theorem ty23 : tiOf Tryz.prog 23 = some ⟨.slice 86, 1, 24, [.nil]⟩ := by kernel_rfl
theorem ty24 : tiOf Tryz.prog 24 = some ⟨.func, 1, 8, [.lit .nilFunc]⟩ := by kernel_rfl
theorem ty25 : tiOf Tryz.prog 25 = some ⟨.func, 1, 8, [.lit .nilFunc]⟩ := by kernel_rfl
theorem ty26 : tiOf Tryz.prog 26 = some ⟨.func, 1, 8, [.lit .nilFunc]⟩ := by kernel_rfl
theorem ty27 : tiOf Tryz.prog 27 = some ⟨.slice 30, 1, 24, [.nil]⟩ := by kernel_rfl
theorem ty28 : tiOf Tryz.prog 28 = some ⟨.slice 52, 1, 24, [.nil]⟩ := by kernel_rfl
theorem ty29 : tiOf Tryz.prog 29 = some ⟨.struct [(0, 1), (1, 1), (2, 1), (3, 1), (4, 1)], 5, 80, [.lit (.int .i64 0), .lit (.int .i64 0), .lit (.string ⟨#[]⟩), .nil, .nil]⟩ := by kernel_rfl
theorem ty30 : tiOf Tryz.prog 30 = some ⟨.struct [(0, 1), (1, 1), (2, 1), (3, 1), (4, 1)], 5, 80, [.lit (.int .i64 0), .lit (.int .i64 0), .lit (.string ⟨#[]⟩), .nil, .nil]⟩ := by kernel_rfl
theorem ty31 : tiOf Tryz.prog 31 = some ⟨.func, 1, 8, [.lit .nilFunc]⟩ := by kernel_rfl
theorem ty32 : tiOf Tryz.prog 32 = some ⟨.ptr 101, 1, 8, [.lit (.pointer none)]⟩ := by kernel_rfl
theorem ty33 : tiOf Tryz.prog 33 = some ⟨.int .i64, 1, 8, [.lit (.int .i64 0)]⟩ := by kernel_rfl
theorem ty35 : tiOf Tryz.prog 35 = some ⟨.func, 1, 8, [.lit .nilFunc]⟩ := by kernel_rfl
theorem ty36 : tiOf Tryz.prog 36 = some ⟨.func, 1, 8, [.lit .nilFunc]⟩ := by kernel_rfl
theorem ty37 : tiOf Tryz.prog 37 = some ⟨.func, 1, 8, [.lit .nilFunc]⟩ := by kernel_rfl
theorem ty38 : tiOf Tryz.prog 38 = some ⟨.func, 1, 8, [.lit .nilFunc]⟩ := by kernel_rfl
theorem ty40 : tiOf Tryz.prog 40 = some ⟨.func, 1, 8, [.lit .nilFunc]⟩ := by kernel_rfl
theorem ty41 : tiOf Tryz.prog 41 = some ⟨.func, 1, 8, [.lit .nilFunc]⟩ := by kernel_rfl
theorem ty43 : tiOf Tryz.prog 43 = some ⟨.func, 1, 8, [.lit .nilFunc]⟩ := by kernel_rfl
theorem ty44 : tiOf Tryz.prog 44 = some ⟨.func, 1, 8, [.lit .nilFunc]⟩ := by kernel_rfl
theorem ty45 : tiOf Tryz.prog 45 = some ⟨.func, 1, 8, [.lit .nilFunc]⟩ := by kernel_rfl
theorem ty46 : tiOf Tryz.prog 46 = some ⟨.func, 1, 8, [.lit .nilFunc]⟩ := by kernel_rfl
theorem ty47 : tiOf Tryz.prog 47 = some ⟨.func, 1, 8, [.lit .nilFunc]⟩ := by kernel_rfl
theorem ty48 : tiOf Tryz.prog 48 = some ⟨.func, 1, 8, [.lit .nilFunc]⟩ := by kernel_rfl
theorem ty49 : tiOf Tryz.prog 49 = some ⟨.func, 1, 8, [.lit .nilFunc]⟩ := by kernel_rfl
theorem ty50 : tiOf Tryz.prog 50 = some ⟨.func, 1, 8, [.lit .nilFunc]⟩ := by kernel_rfl
theorem ty51 : tiOf Tryz.prog 51 = some ⟨.struct [(0, 1), (1, 5)], 6, 96, [.lit (.string ⟨#[]⟩), .lit (.int .i64 0), .lit (.int .i64 0), .lit (.string ⟨#[]⟩), .nil, .nil]⟩ := by kernel_rfl
theorem ty52 : tiOf Tryz.prog 52 = some ⟨.struct [(0, 1), (1, 5)], 6, 96, [.lit (.string ⟨#[]⟩), .lit (.int .i64 0), .lit (.int .i64 0), .lit (.string ⟨#[]⟩), .nil, .nil]⟩ := by kernel_rfl
theorem ty53 : tiOf Tryz.prog 53 = some ⟨.func, 1, 8, [.lit .nilFunc]⟩ := by kernel_rfl
theorem ty54 : tiOf Tryz.prog 54 = some ⟨.slice 58, 1, 24, [.nil]⟩ := by kernel_rfl
theorem ty55 : tiOf Tryz.prog 55 = some ⟨.struct [(0, 1), (1, 1), (2, 1), (3, 1), (4, 1)], 5, 56, [.lit (.string ⟨#[]⟩), .nil, .lit (.bool false), .lit (.bool false), .lit (.int .i64 0)]⟩ := by kernel_rfl
theorem ty56 : tiOf Tryz.prog 56 = some ⟨.struct [(0, 1), (1, 1), (2, 1), (3, 1), (4, 1)], 5, 56, [.lit (.string ⟨#[]⟩), .nil, .lit (.bool false), .lit (.bool false), .lit (.int .i64 0)]⟩ := by kernel_rfl
theorem ty57 : tiOf Tryz.prog 57 = some ⟨.struct [(0, 1), (1, 1)], 2, 24, [.lit (.string ⟨#[]⟩), .lit (.bool false)]⟩ := by kernel_rfl
theorem ty58 : tiOf Tryz.prog 58 = some ⟨.struct [(0, 1), (1, 1)], 2, 24, [.lit (.string ⟨#[]⟩), .lit (.bool false)]⟩ := by kernel_rfl
theorem ty59 : tiOf Tryz.prog 59 = some ⟨.slice 65, 1, 24, [.nil]⟩ := by kernel_rfl
theorem ty61 : tiOf Tryz.prog 61 = some ⟨.func, 1, 8, [.lit .nilFunc]⟩ := by kernel_rfl
theorem ty62 : tiOf Tryz.prog 62 = some ⟨.func, 1, 8, [.lit .nilFunc]⟩ := by kernel_rfl
theorem ty63 : tiOf Tryz.prog 63 = some ⟨.func, 1, 8, [.lit .nilFunc]⟩ := by kernel_rfl
theorem ty64 : tiOf Tryz.prog 64 = some ⟨.func, 1, 8, [.lit .nilFunc]⟩ := by kernel_rfl
theorem ty65 : tiOf Tryz.prog 65 = some ⟨.slice 5, 1, 24, [.nil]⟩ := by kernel_rfl
theorem ty66 : tiOf Tryz.prog 66 = some ⟨.func, 1, 8, [.lit .nilFunc]⟩ := by kernel_rfl
theorem ty67 : tiOf Tryz.prog 67 = some ⟨.func, 1, 8, [.lit .nilFunc]⟩ := by kernel_rfl
theorem ty68 : tiOf Tryz.prog 68 = some ⟨.func, 1, 8, [.lit .nilFunc]⟩ := by kernel_rfl
theorem ty69 : tiOf Tryz.prog 69 = some ⟨.func, 1, 8, [.lit .nilFunc]⟩ := by kernel_rfl
theorem ty70 : tiOf Tryz.prog 70 = some ⟨.slice 72, 1, 24, [.nil]⟩ := by kernel_rfl
theorem ty71 : tiOf Tryz.prog 71 = some ⟨.struct [(0, 1), (1, 1), (2, 5)], 7, 112, [.lit (.string ⟨#[]⟩), .lit (.string ⟨#[]⟩), .lit (.int .i64 0), .lit (.int .i64 0), .lit (.string ⟨#[]⟩), .nil, .nil]⟩ := by kernel_rfl
theorem ty72 : tiOf Tryz.prog 72 = some ⟨.struct [(0, 1), (1, 1), (2, 5)], 7, 112, [.lit (.string ⟨#[]⟩), .lit (.string ⟨#[]⟩), .lit (.int .i64 0), .lit (.int .i64 0), .lit (.string ⟨#[]⟩), .nil, .nil]⟩ := by kernel_rfl
theorem ty74 : tiOf Tryz.prog 74 = some ⟨.func, 1, 8, [.lit .nilFunc]⟩ := by kernel_rfl
theorem ty75 : tiOf Tryz.prog 75 = some ⟨.struct [(0, 1), (1, 1), (2, 1)], 3, 40, [.lit (.int .i64 0), .lit (.bool false), .nil]⟩ := by kernel_rfl
theorem ty76 : tiOf Tryz.prog 76 = some ⟨.struct [(0, 1), (1, 1), (2, 1)], 3, 40, [.lit (.int .i64 0), .lit (.bool false), .nil]⟩ := by kernel_rfl
theorem ty77 : tiOf Tryz.prog 77 = some ⟨.func, 1, 8, [.lit .nilFunc]⟩ := by kernel_rfl
theorem ty78 : tiOf Tryz.prog 78 = some ⟨.func, 1, 8, [.lit .nilFunc]⟩ := by kernel_rfl
theorem ty79 : tiOf Tryz.prog 79 = some ⟨.func, 1, 8, [.lit .nilFunc]⟩ := by kernel_rfl
theorem ty80 : tiOf Tryz.prog 80 = some ⟨.slice 9, 1, 24, [.nil]⟩ := by kernel_rfl
theorem ty81 : tiOf Tryz.prog 81 = some ⟨.func, 1, 8, [.lit .nilFunc]⟩ := by kernel_rfl
theorem ty82 : tiOf Tryz.prog 82 = some ⟨.func, 1, 8, [.lit .nilFunc]⟩ := by kernel_rfl
theorem ty83 : tiOf Tryz.prog 83 = some ⟨.func, 1, 8, [.lit .nilFunc]⟩ := by kernel_rfl
theorem ty84 : tiOf Tryz.prog 84 = some ⟨.func, 1, 8, [.lit .nilFunc]⟩ := by kernel_rfl
theorem ty85 : tiOf Tryz.prog 85 = some ⟨.struct [(0, 1), (1, 1)], 2, 48, [.nil, .nil]⟩ := by kernel_rfl
theorem ty86 : tiOf Tryz.prog 86 = some ⟨.struct [(0, 1), (1, 1)], 2, 48, [.nil, .nil]⟩ := by kernel_rfl
theorem ty87 : tiOf Tryz.prog 87 = some ⟨.func, 1, 8, [.lit .nilFunc]⟩ := by kernel_rfl
theorem ty88 : tiOf Tryz.prog 88 = some ⟨.func, 1, 8, [.lit .nilFunc]⟩ := by kernel_rfl
theorem ty89 : tiOf Tryz.prog 89 = some ⟨.func, 1, 8, [.lit .nilFunc]⟩ := by kernel_rfl
theorem ty91 : tiOf Tryz.prog 91 = some ⟨.func, 1, 8, [.lit .nilFunc]⟩ := by kernel_rfl
theorem ty93 : tiOf Tryz.prog 93 = some ⟨.func, 1, 8, [.lit .nilFunc]⟩ := by kernel_rfl
theorem ty94 : tiOf Tryz.prog 94 = some ⟨.func, 1, 8, [.lit .nilFunc]⟩ := by kernel_rfl
theorem ty95 : tiOf Tryz.prog 95 = some ⟨.func, 1, 8, [.lit .nilFunc]⟩ := by kernel_rfl
theorem ty96 : tiOf Tryz.prog 96 = some ⟨.iface, 1, 16, [.lit .nilIface]⟩ := by kernel_rfl
theorem ty97 : tiOf Tryz.prog 97 = some ⟨.iface, 1, 16, [.lit .nilIface]⟩ := by kernel_rfl
theorem ty98 : tiOf Tryz.prog 98 = some ⟨.slice 9, 1, 24, [.nil]⟩ := by kernel_rfl
theorem ty99 : tiOf Tryz.prog 99 = some ⟨.func, 1, 8, [.lit .nilFunc]⟩ := by kernel_rfl
theorem ty100 : tiOf Tryz.prog 100 = some ⟨.struct [(0, 1)], 1, 16, [.lit .nilIface]⟩ := by kernel_rfl
theorem ty101 : tiOf Tryz.prog 101 = some ⟨.struct [(0, 1)], 1, 16, [.lit .nilIface]⟩ := by kernel_rfl
theorem ty102 : tiOf Tryz.prog 102 = some ⟨.func, 1, 8, [.lit .nilFunc]⟩ := by kernel_rfl
theorem ty103 : tiOf Tryz.prog 103 = some ⟨.func, 1, 8, [.lit .nilFunc]⟩ := by kernel_rfl
theorem ty104 : tiOf Tryz.prog 104 = some ⟨.func, 1, 8, [.lit .nilFunc]⟩ := by kernel_rfl
theorem ty105 : tiOf Tryz.prog 105 = some ⟨.func, 1, 8, [.lit .nilFunc]⟩ := by kernel_rfl
theorem ty106 : tiOf Tryz.prog 106 = some ⟨.slice 110, 1, 24, [.nil]⟩ := by kernel_rfl
theorem ty107 : tiOf Tryz.prog 107 = some ⟨.slice 4, 1, 24, [.nil]⟩ := by kernel_rfl
theorem ty109 : tiOf Tryz.prog 109 = some ⟨.func, 1, 8, [.lit .nilFunc]⟩ := by kernel_rfl
theorem ty110 : tiOf Tryz.prog 110 = some ⟨.slice 27, 1, 24, [.nil]⟩ := by kernel_rfl
theorem ty111 : tiOf Tryz.prog 111 = some ⟨.func, 1, 8, [.lit .nilFunc]⟩ := by kernel_rfl
theorem ty112 : tiOf Tryz.prog 112 = some ⟨.func, 1, 8, [.lit .nilFunc]⟩ := by kernel_rfl
theorem ty113 : tiOf Tryz.prog 113 = some ⟨.func, 1, 8, [.lit .nilFunc]⟩ := by kernel_rfl
theorem ty115 : tiOf Tryz.prog 115 = some ⟨.func, 1, 8, [.lit .nilFunc]⟩ := by kernel_rfl
theorem ty116 : tiOf Tryz.prog 116 = some ⟨.func, 1, 8, [.lit .nilFunc]⟩ := by kernel_rfl
theorem ty117 : tiOf Tryz.prog 117 = some ⟨.func, 1, 8, [.lit .nilFunc]⟩ := by kernel_rfl
theorem ty119 : tiOf Tryz.prog 119 = some ⟨.func, 1, 8, [.lit .nilFunc]⟩ := by kernel_rfl
theorem ty120 : tiOf Tryz.prog 120 = some ⟨.func, 1, 8, [.lit .nilFunc]⟩ := by kernel_rfl
theorem ty121 : tiOf Tryz.prog 121 = some ⟨.func, 1, 8, [.lit .nilFunc]⟩ := by kernel_rfl
theorem ty122 : tiOf Tryz.prog 122 = some ⟨.func, 1, 8, [.lit .nilFunc]⟩ := by kernel_rfl
theorem ty123 : tiOf Tryz.prog 123 = some ⟨.func, 1, 8, [.lit .nilFunc]⟩ := by kernel_rfl
theorem ty124 : tiOf Tryz.prog 124 = some ⟨.slice 3, 1, 24, [.nil]⟩ := by kernel_rfl
theorem ty125 : tiOf Tryz.prog 125 = some ⟨.func, 1, 8, [.lit .nilFunc]⟩ := by kernel_rfl
theorem ty126 : tiOf Tryz.prog 126 = some ⟨.func, 1, 8, [.lit .nilFunc]⟩ := by kernel_rfl
theorem ty127 : tiOf Tryz.prog 127 = some ⟨.ptr 129, 1, 8, [.lit (.pointer none)]⟩ := by kernel_rfl
theorem ty128 : tiOf Tryz.prog 128 = some ⟨.struct [(0, 1)], 1, 8, [.lit (.int .i64 0)]⟩ := by kernel_rfl
theorem ty129 : tiOf Tryz.prog 129 = some ⟨.struct [(0, 1)], 1, 8, [.lit (.int .i64 0)]⟩ := by kernel_rfl
theorem ty131 : tiOf Tryz.prog 131 = some ⟨.func, 1, 8, [.lit .nilFunc]⟩ := by kernel_rfl
theorem ty132 : tiOf Tryz.prog 132 = some ⟨.func, 1, 8, [.lit .nilFunc]⟩ := by kernel_rfl
theorem ty134 : tiOf Tryz.prog 134 = some ⟨.func, 1, 8, [.lit .nilFunc]⟩ := by kernel_rfl
theorem ty135 : tiOf Tryz.prog 135 = some ⟨.func, 1, 8, [.lit .nilFunc]⟩ := by kernel_rfl
theorem ty136 : tiOf Tryz.prog 136 = some ⟨.func, 1, 8, [.lit .nilFunc]⟩ := by kernel_rfl
theorem ty137 : tiOf Tryz.prog 137 = some ⟨.func, 1, 8, [.lit .nilFunc]⟩ := by kernel_rfl
theorem ty138 : tiOf Tryz.prog 138 = some ⟨.func, 1, 8, [.lit .nilFunc]⟩ := by kernel_rfl
theorem ty139 : tiOf Tryz.prog 139 = some ⟨.func, 1, 8, [.lit .nilFunc]⟩ := by kernel_rfl
theorem ty141 : tiOf Tryz.prog 141 = some ⟨.func, 1, 8, [.lit .nilFunc]⟩ := by kernel_rfl
theorem ty142 : tiOf Tryz.prog 142 = some ⟨.func, 1, 8, [.lit .nilFunc]⟩ := by kernel_rfl
theorem ty143 : tiOf Tryz.prog 143 = some ⟨.func, 1, 8, [.lit .nilFunc]⟩ := by kernel_rfl
theorem ty144 : tiOf Tryz.prog 144 = some ⟨.func, 1, 8, [.lit .nilFunc]⟩ := by kernel_rfl
theorem ty145 : tiOf Tryz.prog 145 = some ⟨.ptr 147, 1, 8, [.lit (.pointer none)]⟩ := by kernel_rfl
theorem ty146 : tiOf Tryz.prog 146 = some ⟨.struct [(0, 1), (1, 1)], 2, 32, [.lit (.pointer none), .nil]⟩ := by kernel_rfl
theorem ty147 : tiOf Tryz.prog 147 = some ⟨.struct [(0, 1), (1, 1)], 2, 32, [.lit (.pointer none), .nil]⟩ := by kernel_rfl
theorem ty148 : tiOf Tryz.prog 148 = some ⟨.func, 1, 8, [.lit .nilFunc]⟩ := by kernel_rfl
theorem ty149 : tiOf Tryz.prog 149 = some ⟨.func, 1, 8, [.lit .nilFunc]⟩ := by kernel_rfl
theorem ty150 : tiOf Tryz.prog 150 = some ⟨.iface, 1, 16, [.lit .nilIface]⟩ := by kernel_rfl
theorem ty151 : tiOf Tryz.prog 151 = some ⟨.iface, 1, 16, [.lit .nilIface]⟩ := by kernel_rfl
theorem ty153 : tiOf Tryz.prog 153 = some ⟨.func, 1, 8, [.lit .nilFunc]⟩ := by kernel_rfl
theorem ty154 : tiOf Tryz.prog 154 = some ⟨.func, 1, 8, [.lit .nilFunc]⟩ := by kernel_rfl
theorem ty155 : tiOf Tryz.prog 155 = some ⟨.func, 1, 8, [.lit .nilFunc]⟩ := by kernel_rfl
theorem ty156 : tiOf Tryz.prog 156 = some ⟨.func, 1, 8, [.lit .nilFunc]⟩ := by kernel_rfl
theorem ty157 : tiOf Tryz.prog 157 = some ⟨.func, 1, 8, [.lit .nilFunc]⟩ := by kernel_rfl
theorem ty158 : tiOf Tryz.prog 158 = some ⟨.func, 1, 8, [.lit .nilFunc]⟩ := by kernel_rfl
theorem ty159 : tiOf Tryz.prog 159 = some ⟨.func, 1, 8, [.lit .nilFunc]⟩ := by kernel_rfl
theorem ty160 : tiOf Tryz.prog 160 = some ⟨.struct [(0, 1), (1, 1)], 2, 40, [.lit (.string ⟨#[]⟩), .nil]⟩ := by kernel_rfl
theorem ty161 : tiOf Tryz.prog 161 = some ⟨.struct [(0, 1), (1, 1)], 2, 40, [.lit (.string ⟨#[]⟩), .nil]⟩ := by kernel_rfl
theorem ty162 : tiOf Tryz.prog 162 = some ⟨.slice 9, 1, 24, [.nil]⟩ := by kernel_rfl
theorem ty163 : tiOf Tryz.prog 163 = some ⟨.slice 97, 1, 24, [.nil]⟩ := by kernel_rfl
theorem ty165 : tiOf Tryz.prog 165 = some ⟨.func, 1, 8, [.lit .nilFunc]⟩ := by kernel_rfl
theorem ty166 : tiOf Tryz.prog 166 = some ⟨.slice 97, 1, 24, [.nil]⟩ := by kernel_rfl
theorem ty167 : tiOf Tryz.prog 167 = some ⟨.func, 1, 8, [.lit .nilFunc]⟩ := by kernel_rfl
theorem ty168 : tiOf Tryz.prog 168 = some ⟨.func, 1, 8, [.lit .nilFunc]⟩ := by kernel_rfl
theorem ty169 : tiOf Tryz.prog 169 = some ⟨.struct [(0, 5)], 5, 80, [.lit (.int .i64 0), .lit (.int .i64 0), .lit (.string ⟨#[]⟩), .nil, .nil]⟩ := by kernel_rfl
theorem ty170 : tiOf Tryz.prog 170 = some ⟨.struct [(0, 5)], 5, 80, [.lit (.int .i64 0), .lit (.int .i64 0), .lit (.string ⟨#[]⟩), .nil, .nil]⟩ := by kernel_rfl
theorem ty172 : tiOf Tryz.prog 172 = some ⟨.func, 1, 8, [.lit .nilFunc]⟩ := by kernel_rfl
theorem ty174 : tiOf Tryz.prog 174 = some ⟨.func, 1, 8, [.lit .nilFunc]⟩ := by kernel_rfl
theorem ty175 : tiOf Tryz.prog 175 = some ⟨.func, 1, 8, [.lit .nilFunc]⟩ := by kernel_rfl
theorem ty176 : tiOf Tryz.prog 176 = some ⟨.func, 1, 8, [.lit .nilFunc]⟩ := by kernel_rfl
theorem ty178 : tiOf Tryz.prog 178 = some ⟨.func, 1, 8, [.lit .nilFunc]⟩ := by kernel_rfl
theorem ty179 : tiOf Tryz.prog 179 = some ⟨.func, 1, 8, [.lit .nilFunc]⟩ := by kernel_rfl
theorem ty180 : tiOf Tryz.prog 180 = some ⟨.ptr 182, 1, 8, [.lit (.pointer none)]⟩ := by kernel_rfl
theorem ty181 : tiOf Tryz.prog 181 = some ⟨.struct [(0, 1)], 1, 8, [.lit (.int .i64 0)]⟩ := by kernel_rfl
theorem ty182 : tiOf Tryz.prog 182 = some ⟨.struct [(0, 1)], 1, 8, [.lit (.int .i64 0)]⟩ := by kernel_rfl
theorem ty183 : tiOf Tryz.prog 183 = some ⟨.map 9 184, 1, 8, [.lit (.map none)]⟩ := by kernel_rfl
theorem ty184 : tiOf Tryz.prog 184 = some ⟨.struct [], 0, 0, []⟩ := by kernel_rfl
theorem ty186 : tiOf Tryz.prog 186 = some ⟨.struct [(0, 1)], 1, 8, [.lit (.int .i64 0)]⟩ := by kernel_rfl
theorem ty187 : tiOf Tryz.prog 187 = some ⟨.struct [(0, 1)], 1, 8, [.lit (.int .i64 0)]⟩ := by kernel_rfl
theorem ty188 : tiOf Tryz.prog 188 = some ⟨.ptr 190, 1, 8, [.lit (.pointer none)]⟩ := by kernel_rfl
theorem ty189 : tiOf Tryz.prog 189 = some ⟨.struct [(0, 5), (5, 1)], 6, 88, [.lit (.int .i64 0), .lit (.int .i64 0), .lit (.string ⟨#[]⟩), .nil, .nil, .lit (.int .i64 0)]⟩ := by kernel_rfl
theorem ty190 : tiOf Tryz.prog 190 = some ⟨.struct [(0, 5), (5, 1)], 6, 88, [.lit (.int .i64 0), .lit (.int .i64 0), .lit (.string ⟨#[]⟩), .nil, .nil, .lit (.int .i64 0)]⟩ := by kernel_rfl
theorem ty191 : tiOf Tryz.prog 191 = some ⟨.func, 1, 8, [.lit .nilFunc]⟩ := by kernel_rfl
theorem ty192 : tiOf Tryz.prog 192 = some ⟨.func, 1, 8, [.lit .nilFunc]⟩ := by kernel_rfl
theorem ty193 : tiOf Tryz.prog 193 = some ⟨.func, 1, 8, [.lit .nilFunc]⟩ := by kernel_rfl
theorem ty194 : tiOf Tryz.prog 194 = some ⟨.func, 1, 8, [.lit .nilFunc]⟩ := by kernel_rfl
theorem ty195 : tiOf Tryz.prog 195 = some ⟨.func, 1, 8, [.lit .nilFunc]⟩ := by kernel_rfl
theorem ty196 : tiOf Tryz.prog 196 = some ⟨.func, 1, 8, [.lit .nilFunc]⟩ := by kernel_rfl
theorem ty197 : tiOf Tryz.prog 197 = some ⟨.func, 1, 8, [.lit .nilFunc]⟩ := by kernel_rfl
theorem ty198 : tiOf Tryz.prog 198 = some ⟨.func, 1, 8, [.lit .nilFunc]⟩ := by kernel_rfl
theorem ty199 : tiOf Tryz.prog 199 = some ⟨.func, 1, 8, [.lit .nilFunc]⟩ := by kernel_rfl
theorem ty200 : tiOf Tryz.prog 200 = some ⟨.int .u64, 1, 8, [.lit (.int .u64 0)]⟩ := by kernel_rfl
theorem ty201 : tiOf Tryz.prog 201 = some ⟨.func, 1, 8, [.lit .nilFunc]⟩ := by kernel_rfl
theorem ty202 : tiOf Tryz.prog 202 = some ⟨.func, 1, 8, [.lit .nilFunc]⟩ := by kernel_rfl
theorem ty203 : tiOf Tryz.prog 203 = some ⟨.func, 1, 8, [.lit .nilFunc]⟩ := by kernel_rfl
theorem ty204 : tiOf Tryz.prog 204 = some ⟨.func, 1, 8, [.lit .nilFunc]⟩ := by kernel_rfl
theorem ty205 : tiOf Tryz.prog 205 = some ⟨.slice 210, 1, 24, [.nil]⟩ := by kernel_rfl
theorem ty207 : tiOf Tryz.prog 207 = some ⟨.func, 1, 8, [.lit .nilFunc]⟩ := by kernel_rfl
theorem ty208 : tiOf Tryz.prog 208 = some ⟨.func, 1, 8, [.lit .nilFunc]⟩ := by kernel_rfl
theorem ty209 : tiOf Tryz.prog 209 = some ⟨.struct [(0, 1), (1, 1)], 2, 24, [.lit (.string ⟨#[]⟩), .lit (.int .i64 0)]⟩ := by kernel_rfl
theorem ty210 : tiOf Tryz.prog 210 = some ⟨.struct [(0, 1), (1, 1)], 2, 24, [.lit (.string ⟨#[]⟩), .lit (.int .i64 0)]⟩ := by kernel_rfl
theorem ty211 : tiOf Tryz.prog 211 = some ⟨.func, 1, 8, [.lit .nilFunc]⟩ := by kernel_rfl
theorem ty212 : tiOf Tryz.prog 212 = some ⟨.func, 1, 8, [.lit .nilFunc]⟩ := by kernel_rfl
theorem ty213 : tiOf Tryz.prog 213 = some ⟨.func, 1, 8, [.lit .nilFunc]⟩ := by kernel_rfl
theorem ty214 : tiOf Tryz.prog 214 = some ⟨.func, 1, 8, [.lit .nilFunc]⟩ := by kernel_rfl
theorem ty215 : tiOf Tryz.prog 215 = some ⟨.func, 1, 8, [.lit .nilFunc]⟩ := by kernel_rfl
theorem ty216 : tiOf Tryz.prog 216 = some ⟨.map 9 9, 1, 8, [.lit (.map none)]⟩ := by kernel_rfl
theorem ty217 : tiOf Tryz.prog 217 = some ⟨.func, 1, 8, [.lit .nilFunc]⟩ := by kernel_rfl
theorem ty218 : tiOf Tryz.prog 218 = some ⟨.func, 1, 8, [.lit .nilFunc]⟩ := by kernel_rfl
theorem ty219 : tiOf Tryz.prog 219 = some ⟨.func, 1, 8, [.lit .nilFunc]⟩ := by kernel_rfl
theorem ty220 : tiOf Tryz.prog 220 = some ⟨.func, 1, 8, [.lit .nilFunc]⟩ := by kernel_rfl
theorem ty221 : tiOf Tryz.prog 221 = some ⟨.ptr 223, 1, 8, [.lit (.pointer none)]⟩ := by kernel_rfl
theorem ty222 : tiOf Tryz.prog 222 = some ⟨.struct [(0, 1)], 1, 24, [.nil]⟩ := by kernel_rfl
theorem ty223 : tiOf Tryz.prog 223 = some ⟨.struct [(0, 1)], 1, 24, [.nil]⟩ := by kernel_rfl
theorem ty224 : tiOf Tryz.prog 224 = some ⟨.func, 1, 8, [.lit .nilFunc]⟩ := by kernel_rfl
theorem ty225 : tiOf Tryz.prog 225 = some ⟨.func, 1, 8, [.lit .nilFunc]⟩ := by kernel_rfl
theorem ty226 : tiOf Tryz.prog 226 = some ⟨.int .u32, 1, 4, [.lit (.int .u32 0)]⟩ := by kernel_rfl
theorem ty227 : tiOf Tryz.prog 227 = some ⟨.ptr 5, 1, 8, [.lit (.pointer none)]⟩ := by kernel_rfl
theorem ty228 : tiOf Tryz.prog 228 = some ⟨.func, 1, 8, [.lit .nilFunc]⟩ := by kernel_rfl
theorem ty229 : tiOf Tryz.prog 229 = some ⟨.func, 1, 8, [.lit .nilFunc]⟩ := by kernel_rfl
theorem ty230 : tiOf Tryz.prog 230 = some ⟨.struct [(0, 5)], 5, 80, [.lit (.int .i64 0), .lit (.int .i64 0), .lit (.string ⟨#[]⟩), .nil, .nil]⟩ := by kernel_rfl
theorem ty231 : tiOf Tryz.prog 231 = some ⟨.struct [(0, 1), (1, 1)], 2, 40, [.lit (.string ⟨#[]⟩), .nil]⟩ := by kernel_rfl
theorem ty232 : tiOf Tryz.prog 232 = some ⟨.struct [(0, 1), (1, 1)], 2, 40, [.lit (.string ⟨#[]⟩), .nil]⟩ := by kernel_rfl
theorem ty234 : tiOf Tryz.prog 234 = some ⟨.func, 1, 8, [.lit .nilFunc]⟩ := by kernel_rfl
theorem ty235 : tiOf Tryz.prog 235 = some ⟨.slice 238, 1, 24, [.nil]⟩ := by kernel_rfl
theorem ty236 : tiOf Tryz.prog 236 = some ⟨.slice 238, 1, 24, [.nil]⟩ := by kernel_rfl
theorem ty237 : tiOf Tryz.prog 237 = some ⟨.struct [(0, 1), (1, 1)], 2, 32, [.lit (.string ⟨#[]⟩), .lit .nilIface]⟩ := by kernel_rfl
theorem ty238 : tiOf Tryz.prog 238 = some ⟨.struct [(0, 1), (1, 1)], 2, 32, [.lit (.string ⟨#[]⟩), .lit .nilIface]⟩ := by kernel_rfl
theorem ty239 : tiOf Tryz.prog 239 = some ⟨.func, 1, 8, [.lit .nilFunc]⟩ := by kernel_rfl
theorem ty240 : tiOf Tryz.prog 240 = some ⟨.func, 1, 8, [.lit .nilFunc]⟩ := by kernel_rfl
theorem ty241 : tiOf Tryz.prog 241 = some ⟨.func, 1, 8, [.lit .nilFunc]⟩ := by kernel_rfl
theorem ty242 : tiOf Tryz.prog 242 = some ⟨.func, 1, 8, [.lit .nilFunc]⟩ := by kernel_rfl
theorem ty243 : tiOf Tryz.prog 243 = some ⟨.func, 1, 8, [.lit .nilFunc]⟩ := by kernel_rfl
theorem ty244 : tiOf Tryz.prog 244 = some ⟨.ptr 399, 1, 8, [.lit (.pointer none)]⟩ := by kernel_rfl
theorem ty245 : tiOf Tryz.prog 245 = some ⟨.func, 1, 8, [.lit .nilFunc]⟩ := by kernel_rfl
theorem ty246 : tiOf Tryz.prog 246 = some ⟨.func, 1, 8, [.lit .nilFunc]⟩ := by kernel_rfl
theorem ty247 : tiOf Tryz.prog 247 = some ⟨.func, 1, 8, [.lit .nilFunc]⟩ := by kernel_rfl
theorem ty248 : tiOf Tryz.prog 248 = some ⟨.func, 1, 8, [.lit .nilFunc]⟩ := by kernel_rfl
theorem ty249 : tiOf Tryz.prog 249 = some ⟨.func, 1, 8, [.lit .nilFunc]⟩ := by kernel_rfl
theorem ty250 : tiOf Tryz.prog 250 = some ⟨.func, 1, 8, [.lit .nilFunc]⟩ := by kernel_rfl
theorem ty251 : tiOf Tryz.prog 251 = some ⟨.func, 1, 8, [.lit .nilFunc]⟩ := by kernel_rfl
theorem ty252 : tiOf Tryz.prog 252 = some ⟨.int .u64, 1, 8, [.lit (.int .u64 0)]⟩ := by kernel_rfl
theorem ty253 : tiOf Tryz.prog 253 = some ⟨.func, 1, 8, [.lit .nilFunc]⟩ := by kernel_rfl
theorem ty254 : tiOf Tryz.prog 254 = some ⟨.func, 1, 8, [.lit .nilFunc]⟩ := by kernel_rfl
theorem ty255 : tiOf Tryz.prog 255 = some ⟨.int .i64, 1, 8, [.lit (.int .i64 0)]⟩ := by kernel_rfl
theorem ty257 : tiOf Tryz.prog 257 = some ⟨.func, 1, 8, [.lit .nilFunc]⟩ := by kernel_rfl
theorem ty258 : tiOf Tryz.prog 258 = some ⟨.func, 1, 8, [.lit .nilFunc]⟩ := by kernel_rfl
theorem ty259 : tiOf Tryz.prog 259 = some ⟨.func, 1, 8, [.lit .nilFunc]⟩ := by kernel_rfl
theorem ty260 : tiOf Tryz.prog 260 = some ⟨.func, 1, 8, [.lit .nilFunc]⟩ := by kernel_rfl
theorem ty261 : tiOf Tryz.prog 261 = some ⟨.func, 1, 8, [.lit .nilFunc]⟩ := by kernel_rfl
theorem ty262 : tiOf Tryz.prog 262 = some ⟨.func, 1, 8, [.lit .nilFunc]⟩ := by kernel_rfl
theorem ty263 : tiOf Tryz.prog 263 = some ⟨.func, 1, 8, [.lit .nilFunc]⟩ := by kernel_rfl
theorem ty264 : tiOf Tryz.prog 264 = some ⟨.func, 1, 8, [.lit .nilFunc]⟩ := by kernel_rfl
theorem ty265 : tiOf Tryz.prog 265 = some ⟨.func, 1, 8, [.lit .nilFunc]⟩ := by kernel_rfl
theorem ty266 : tiOf Tryz.prog 266 = some ⟨.func, 1, 8, [.lit .nilFunc]⟩ := by kernel_rfl
theorem ty267 : tiOf Tryz.prog 267 = some ⟨.func, 1, 8, [.lit .nilFunc]⟩ := by kernel_rfl
theorem ty268 : tiOf Tryz.prog 268 = some ⟨.func, 1, 8, [.lit .nilFunc]⟩ := by kernel_rfl
theorem ty269 : tiOf Tryz.prog 269 = some ⟨.func, 1, 8, [.lit .nilFunc]⟩ := by kernel_rfl
theorem ty270 : tiOf Tryz.prog 270 = some ⟨.func, 1, 8, [.lit .nilFunc]⟩ := by kernel_rfl
theorem ty271 : tiOf Tryz.prog 271 = some ⟨.func, 1, 8, [.lit .nilFunc]⟩ := by kernel_rfl
theorem ty272 : tiOf Tryz.prog 272 = some ⟨.func, 1, 8, [.lit .nilFunc]⟩ := by kernel_rfl
theorem ty273 : tiOf Tryz.prog 273 = some ⟨.func, 1, 8, [.lit .nilFunc]⟩ := by kernel_rfl
theorem ty274 : tiOf Tryz.prog 274 = some ⟨.func, 1, 8, [.lit .nilFunc]⟩ := by kernel_rfl
theorem ty275 : tiOf Tryz.prog 275 = some ⟨.func, 1, 8, [.lit .nilFunc]⟩ := by kernel_rfl
theorem ty277 : tiOf Tryz.prog 277 = some ⟨.func, 1, 8, [.lit .nilFunc]⟩ := by kernel_rfl
theorem ty279 : tiOf Tryz.prog 279 = some ⟨.struct [(0, 1), (1, 1)], 2, 2, [.lit (.int .u8 0), .lit (.int .u8 0)]⟩ := by kernel_rfl
theorem ty280 : tiOf Tryz.prog 280 = some ⟨.struct [(0, 1), (1, 1)], 2, 2, [.lit (.int .u8 0), .lit (.int .u8 0)]⟩ := by kernel_rfl
theorem ty283 : tiOf Tryz.prog 283 = some ⟨.func, 1, 8, [.lit .nilFunc]⟩ := by kernel_rfl
theorem ty284 : tiOf Tryz.prog 284 = some ⟨.func, 1, 8, [.lit .nilFunc]⟩ := by kernel_rfl
theorem ty285 : tiOf Tryz.prog 285 = some ⟨.func, 1, 8, [.lit .nilFunc]⟩ := by kernel_rfl
theorem ty286 : tiOf Tryz.prog 286 = some ⟨.struct [(0, 1), (1, 1), (2, 1), (3, 1), (4, 1)], 5, 80, [.lit (.string ⟨#[]⟩), .lit (.string ⟨#[]⟩), .lit .nilIface, .lit .nilIface, .lit .nilIface]⟩ := by kernel_rfl
theorem ty287 : tiOf Tryz.prog 287 = some ⟨.struct [(0, 1), (1, 1), (2, 1), (3, 1), (4, 1)], 5, 80, [.lit (.string ⟨#[]⟩), .lit (.string ⟨#[]⟩), .lit .nilIface, .lit .nilIface, .lit .nilIface]⟩ := by kernel_rfl
theorem ty288 : tiOf Tryz.prog 288 = some ⟨.func, 1, 8, [.lit .nilFunc]⟩ := by kernel_rfl
theorem ty289 : tiOf Tryz.prog 289 = some ⟨.func, 1, 8, [.lit .nilFunc]⟩ := by kernel_rfl
theorem ty290 : tiOf Tryz.prog 290 = some ⟨.func, 1, 8, [.lit .nilFunc]⟩ := by kernel_rfl
theorem ty291 : tiOf Tryz.prog 291 = some ⟨.func, 1, 8, [.lit .nilFunc]⟩ := by kernel_rfl
theorem ty292 : tiOf Tryz.prog 292 = some ⟨.map 9 3, 1, 8, [.lit (.map none)]⟩ := by kernel_rfl
theorem ty293 : tiOf Tryz.prog 293 = some ⟨.func, 1, 8, [.lit .nilFunc]⟩ := by kernel_rfl
theorem ty294 : tiOf Tryz.prog 294 = some ⟨.func, 1, 8, [.lit .nilFunc]⟩ := by kernel_rfl
theorem ty295 : tiOf Tryz.prog 295 = some ⟨.func, 1, 8, [.lit .nilFunc]⟩ := by kernel_rfl
theorem ty296 : tiOf Tryz.prog 296 = some ⟨.func, 1, 8, [.lit .nilFunc]⟩ := by kernel_rfl
theorem ty297 : tiOf Tryz.prog 297 = some ⟨.func, 1, 8, [.lit .nilFunc]⟩ := by kernel_rfl
theorem ty298 : tiOf Tryz.prog 298 = some ⟨.int .u64, 1, 8, [.lit (.int .u64 0)]⟩ := by kernel_rfl
theorem ty299 : tiOf Tryz.prog 299 = some ⟨.func, 1, 8, [.lit .nilFunc]⟩ := by kernel_rfl
theorem ty300 : tiOf Tryz.prog 300 = some ⟨.func, 1, 8, [.lit .nilFunc]⟩ := by kernel_rfl
theorem ty301 : tiOf Tryz.prog 301 = some ⟨.func, 1, 8, [.lit .nilFunc]⟩ := by kernel_rfl
theorem ty302 : tiOf Tryz.prog 302 = some ⟨.ptr 3, 1, 8, [.lit (.pointer none)]⟩ := by kernel_rfl
theorem ty303 : tiOf Tryz.prog 303 = some ⟨.func, 1, 8, [.lit .nilFunc]⟩ := by kernel_rfl
theorem ty304 : tiOf Tryz.prog 304 = some ⟨.func, 1, 8, [.lit .nilFunc]⟩ := by kernel_rfl
theorem ty305 : tiOf Tryz.prog 305 = some ⟨.func, 1, 8, [.lit .nilFunc]⟩ := by kernel_rfl
theorem ty306 : tiOf Tryz.prog 306 = some ⟨.func, 1, 8, [.lit .nilFunc]⟩ := by kernel_rfl
theorem ty307 : tiOf Tryz.prog 307 = some ⟨.ptr 309, 1, 8, [.lit (.pointer none)]⟩ := by kernel_rfl
theorem ty308 : tiOf Tryz.prog 308 = some ⟨.struct [(0, 5), (5, 1), (6, 1)], 7, 96, [.lit (.int .i64 0), .lit (.int .i64 0), .lit (.string ⟨#[]⟩), .nil, .nil, .lit (.int .i64 0), .lit (.int .i64 0)]⟩ := by kernel_rfl
theorem ty309 : tiOf Tryz.prog 309 = some ⟨.struct [(0, 5), (5, 1), (6, 1)], 7, 96, [.lit (.int .i64 0), .lit (.int .i64 0), .lit (.string ⟨#[]⟩), .nil, .nil, .lit (.int .i64 0), .lit (.int .i64 0)]⟩ := by kernel_rfl
theorem ty310 : tiOf Tryz.prog 310 = some ⟨.func, 1, 8, [.lit .nilFunc]⟩ := by kernel_rfl
theorem ty311 : tiOf Tryz.prog 311 = some ⟨.func, 1, 8, [.lit .nilFunc]⟩ := by kernel_rfl
theorem ty312 : tiOf Tryz.prog 312 = some ⟨.func, 1, 8, [.lit .nilFunc]⟩ := by kernel_rfl
theorem ty313 : tiOf Tryz.prog 313 = some ⟨.func, 1, 8, [.lit .nilFunc]⟩ := by kernel_rfl
theorem ty314 : tiOf Tryz.prog 314 = some ⟨.func, 1, 8, [.lit .nilFunc]⟩ := by kernel_rfl
theorem ty315 : tiOf Tryz.prog 315 = some ⟨.ptr 298, 1, 8, [.lit (.pointer none)]⟩ := by kernel_rfl
theorem ty316 : tiOf Tryz.prog 316 = some ⟨.func, 1, 8, [.lit .nilFunc]⟩ := by kernel_rfl
theorem ty317 : tiOf Tryz.prog 317 = some ⟨.func, 1, 8, [.lit .nilFunc]⟩ := by kernel_rfl
theorem ty318 : tiOf Tryz.prog 318 = some ⟨.ptr 341, 1, 8, [.lit (.pointer none)]⟩ := by kernel_rfl
theorem ty319 : tiOf Tryz.prog 319 = some ⟨.func, 1, 8, [.lit .nilFunc]⟩ := by kernel_rfl
theorem ty320 : tiOf Tryz.prog 320 = some ⟨.func, 1, 8, [.lit .nilFunc]⟩ := by kernel_rfl
theorem ty321 : tiOf Tryz.prog 321 = some ⟨.ptr 325, 1, 8, [.lit (.pointer none)]⟩ := by kernel_rfl
theorem ty322 : tiOf Tryz.prog 322 = some ⟨.func, 1, 8, [.lit .nilFunc]⟩ := by kernel_rfl
theorem ty323 : tiOf Tryz.prog 323 = some ⟨.func, 1, 8, [.lit .nilFunc]⟩ := by kernel_rfl
theorem ty324 : tiOf Tryz.prog 324 = some ⟨.struct [(0, 5), (5, 1)], 6, 88, [.lit (.int .i64 0), .lit (.int .i64 0), .lit (.string ⟨#[]⟩), .nil, .nil, .lit (.int .i64 0)]⟩ := by kernel_rfl
theorem ty325 : tiOf Tryz.prog 325 = some ⟨.struct [(0, 5), (5, 1)], 6, 88, [.lit (.int .i64 0), .lit (.int .i64 0), .lit (.string ⟨#[]⟩), .nil, .nil, .lit (.int .i64 0)]⟩ := by kernel_rfl
theorem ty326 : tiOf Tryz.prog 326 = some ⟨.func, 1, 8, [.lit .nilFunc]⟩ := by kernel_rfl
theorem ty327 : tiOf Tryz.prog 327 = some ⟨.func, 1, 8, [.lit .nilFunc]⟩ := by kernel_rfl
theorem ty329 : tiOf Tryz.prog 329 = some ⟨.func, 1, 8, [.lit .nilFunc]⟩ := by kernel_rfl
theorem ty331 : tiOf Tryz.prog 331 = some ⟨.func, 1, 8, [.lit .nilFunc]⟩ := by kernel_rfl
theorem ty332 : tiOf Tryz.prog 332 = some ⟨.func, 1, 8, [.lit .nilFunc]⟩ := by kernel_rfl
theorem ty333 : tiOf Tryz.prog 333 = some ⟨.func, 1, 8, [.lit .nilFunc]⟩ := by kernel_rfl
theorem ty334 : tiOf Tryz.prog 334 = some ⟨.func, 1, 8, [.lit .nilFunc]⟩ := by kernel_rfl
theorem ty335 : tiOf Tryz.prog 335 = some ⟨.func, 1, 8, [.lit .nilFunc]⟩ := by kernel_rfl
theorem ty337 : tiOf Tryz.prog 337 = some ⟨.func, 1, 8, [.lit .nilFunc]⟩ := by kernel_rfl
theorem ty338 : tiOf Tryz.prog 338 = some ⟨.func, 1, 8, [.lit .nilFunc]⟩ := by kernel_rfl
theorem ty339 : tiOf Tryz.prog 339 = some ⟨.func, 1, 8, [.lit .nilFunc]⟩ := by kernel_rfl
theorem ty340 : tiOf Tryz.prog 340 = some ⟨.struct [(0, 1), (1, 5), (6, 1)], 7, 104, [.lit (.string ⟨#[]⟩), .lit (.int .i64 0), .lit (.int .i64 0), .lit (.string ⟨#[]⟩), .nil, .nil, .lit (.pointer none)]⟩ := by kernel_rfl
theorem ty341 : tiOf Tryz.prog 341 = some ⟨.struct [(0, 1), (1, 5), (6, 1)], 7, 104, [.lit (.string ⟨#[]⟩), .lit (.int .i64 0), .lit (.int .i64 0), .lit (.string ⟨#[]⟩), .nil, .nil, .lit (.pointer none)]⟩ := by kernel_rfl
theorem ty342 : tiOf Tryz.prog 342 = some ⟨.func, 1, 8, [.lit .nilFunc]⟩ := by kernel_rfl
theorem ty343 : tiOf Tryz.prog 343 = some ⟨.func, 1, 8, [.lit .nilFunc]⟩ := by kernel_rfl
theorem ty344 : tiOf Tryz.prog 344 = some ⟨.func, 1, 8, [.lit .nilFunc]⟩ := by kernel_rfl
theorem ty345 : tiOf Tryz.prog 345 = some ⟨.func, 1, 8, [.lit .nilFunc]⟩ := by kernel_rfl
theorem ty346 : tiOf Tryz.prog 346 = some ⟨.func, 1, 8, [.lit .nilFunc]⟩ := by kernel_rfl
theorem ty349 : tiOf Tryz.prog 349 = some ⟨.func, 1, 8, [.lit .nilFunc]⟩ := by kernel_rfl
theorem ty350 : tiOf Tryz.prog 350 = some ⟨.func, 1, 8, [.lit .nilFunc]⟩ := by kernel_rfl
theorem ty351 : tiOf Tryz.prog 351 = some ⟨.func, 1, 8, [.lit .nilFunc]⟩ := by kernel_rfl
theorem ty352 : tiOf Tryz.prog 352 = some ⟨.func, 1, 8, [.lit .nilFunc]⟩ := by kernel_rfl
theorem ty353 : tiOf Tryz.prog 353 = some ⟨.func, 1, 8, [.lit .nilFunc]⟩ := by kernel_rfl
theorem ty354 : tiOf Tryz.prog 354 = some ⟨.func, 1, 8, [.lit .nilFunc]⟩ := by kernel_rfl
theorem ty355 : tiOf Tryz.prog 355 = some ⟨.func, 1, 8, [.lit .nilFunc]⟩ := by kernel_rfl
theorem ty356 : tiOf Tryz.prog 356 = some ⟨.func, 1, 8, [.lit .nilFunc]⟩ := by kernel_rfl
theorem ty357 : tiOf Tryz.prog 357 = some ⟨.func, 1, 8, [.lit .nilFunc]⟩ := by kernel_rfl
theorem ty358 : tiOf Tryz.prog 358 = some ⟨.func, 1, 8, [.lit .nilFunc]⟩ := by kernel_rfl
theorem ty359 : tiOf Tryz.prog 359 = some ⟨.func, 1, 8, [.lit .nilFunc]⟩ := by kernel_rfl
theorem ty360 : tiOf Tryz.prog 360 = some ⟨.func, 1, 8, [.lit .nilFunc]⟩ := by kernel_rfl
theorem ty361 : tiOf Tryz.prog 361 = some ⟨.func, 1, 8, [.lit .nilFunc]⟩ := by kernel_rfl
theorem ty362 : tiOf Tryz.prog 362 = some ⟨.func, 1, 8, [.lit .nilFunc]⟩ := by kernel_rfl
theorem ty363 : tiOf Tryz.prog 363 = some ⟨.func, 1, 8, [.lit .nilFunc]⟩ := by kernel_rfl
theorem ty364 : tiOf Tryz.prog 364 = some ⟨.func, 1, 8, [.lit .nilFunc]⟩ := by kernel_rfl
theorem ty365 : tiOf Tryz.prog 365 = some ⟨.func, 1, 8, [.lit .nilFunc]⟩ := by kernel_rfl
theorem ty366 : tiOf Tryz.prog 366 = some ⟨.func, 1, 8, [.lit .nilFunc]⟩ := by kernel_rfl
theorem ty369 : tiOf Tryz.prog 369 = some ⟨.func, 1, 8, [.lit .nilFunc]⟩ := by kernel_rfl
theorem ty370 : tiOf Tryz.prog 370 = some ⟨.int .i64, 1, 8, [.lit (.int .i64 0)]⟩ := by kernel_rfl
theorem ty372 : tiOf Tryz.prog 372 = some ⟨.func, 1, 8, [.lit .nilFunc]⟩ := by kernel_rfl
theorem ty373 : tiOf Tryz.prog 373 = some ⟨.ptr 380, 1, 8, [.lit (.pointer none)]⟩ := by kernel_rfl
theorem ty374 : tiOf Tryz.prog 374 = some ⟨.func, 1, 8, [.lit .nilFunc]⟩ := by kernel_rfl
theorem ty375 : tiOf Tryz.prog 375 = some ⟨.func, 1, 8, [.lit .nilFunc]⟩ := by kernel_rfl
theorem ty377 : tiOf Tryz.prog 377 = some ⟨.func, 1, 8, [.lit .nilFunc]⟩ := by kernel_rfl
theorem ty378 : tiOf Tryz.prog 378 = some ⟨.func, 1, 8, [.lit .nilFunc]⟩ := by kernel_rfl
theorem ty379 : tiOf Tryz.prog 379 = some ⟨.struct [(0, 1), (1, 1), (2, 1)], 3, 48, [.lit (.string ⟨#[]⟩), .lit (.string ⟨#[]⟩), .lit .nilIface]⟩ := by kernel_rfl
theorem ty380 : tiOf Tryz.prog 380 = some ⟨.struct [(0, 1), (1, 1), (2, 1)], 3, 48, [.lit (.string ⟨#[]⟩), .lit (.string ⟨#[]⟩), .lit .nilIface]⟩ := by kernel_rfl
theorem ty381 : tiOf Tryz.prog 381 = some ⟨.func, 1, 8, [.lit .nilFunc]⟩ := by kernel_rfl
theorem ty382 : tiOf Tryz.prog 382 = some ⟨.func, 1, 8, [.lit .nilFunc]⟩ := by kernel_rfl
theorem ty383 : tiOf Tryz.prog 383 = some ⟨.ptr 385, 1, 8, [.lit (.pointer none)]⟩ := by kernel_rfl
theorem ty384 : tiOf Tryz.prog 384 = some ⟨.struct [(0, 1)], 1, 16, [.lit (.string ⟨#[]⟩)]⟩ := by kernel_rfl
theorem ty385 : tiOf Tryz.prog 385 = some ⟨.struct [(0, 1)], 1, 16, [.lit (.string ⟨#[]⟩)]⟩ := by kernel_rfl
theorem ty386 : tiOf Tryz.prog 386 = some ⟨.struct [(0, 1), (1, 1), (2, 1), (3, 1)], 4, 40, [.lit (.pointer none), .lit (.pointer none), .lit (.pointer none), .lit (.string ⟨#[]⟩)]⟩ := by kernel_rfl
theorem ty387 : tiOf Tryz.prog 387 = some ⟨.struct [(0, 1), (1, 1), (2, 1), (3, 1)], 4, 40, [.lit (.pointer none), .lit (.pointer none), .lit (.pointer none), .lit (.string ⟨#[]⟩)]⟩ := by kernel_rfl
theorem ty391 : tiOf Tryz.prog 391 = some ⟨.int .u8, 1, 1, [.lit (.int .u8 0)]⟩ := by kernel_rfl
theorem ty392 : tiOf Tryz.prog 392 = some ⟨.int .u8, 1, 1, [.lit (.int .u8 0)]⟩ := by kernel_rfl
theorem ty393 : tiOf Tryz.prog 393 = some ⟨.func, 1, 8, [.lit .nilFunc]⟩ := by kernel_rfl
theorem ty394 : tiOf Tryz.prog 394 = some ⟨.int .i32, 1, 4, [.lit (.int .i32 0)]⟩ := by kernel_rfl
theorem ty395 : tiOf Tryz.prog 395 = some ⟨.int .i32, 1, 4, [.lit (.int .i32 0)]⟩ := by kernel_rfl
theorem ty396 : tiOf Tryz.prog 396 = some ⟨.struct [(0, 1), (1, 1), (2, 1), (3, 1), (4, 1), (5, 1), (6, 1), (7, 1), (8, 1), (9, 1), (10, 1)], 11, 48, [.lit (.int .u64 0), .lit (.int .u64 0), .lit (.int .u32 0), .lit (.int .u8 0), .lit (.int .u8 0), .lit (.int .u8 0), .lit (.int .u8 0), .lit .nilFunc, .lit (.pointer none), .lit (.int .i32 0), .lit (.int .i32 0)]⟩ := by kernel_rfl
theorem ty397 : tiOf Tryz.prog 397 = some ⟨.struct [(0, 1), (1, 1), (2, 1), (3, 1), (4, 1), (5, 1), (6, 1), (7, 1), (8, 1), (9, 1), (10, 1)], 11, 48, [.lit (.int .u64 0), .lit (.int .u64 0), .lit (.int .u32 0), .lit (.int .u8 0), .lit (.int .u8 0), .lit (.int .u8 0), .lit (.int .u8 0), .lit .nilFunc, .lit (.pointer none), .lit (.int .i32 0), .lit (.int .i32 0)]⟩ := by kernel_rfl
theorem ty398 : tiOf Tryz.prog 398 = some ⟨.struct [(0, 1), (1, 5), (6, 1)], 7, 104, [.lit (.string ⟨#[]⟩), .lit (.int .i64 0), .lit (.int .i64 0), .lit (.string ⟨#[]⟩), .nil, .nil, .lit (.pointer none)]⟩ := by kernel_rfl
theorem ty399 : tiOf Tryz.prog 399 = some ⟨.struct [(0, 1), (1, 5), (6, 1)], 7, 104, [.lit (.string ⟨#[]⟩), .lit (.int .i64 0), .lit (.int .i64 0), .lit (.string ⟨#[]⟩), .nil, .nil, .lit (.pointer none)]⟩ := by kernel_rfl
theorem ty400 : tiOf Tryz.prog 400 = some ⟨.ptr 403, 1, 8, [.lit (.pointer none)]⟩ := by kernel_rfl
theorem ty401 : tiOf Tryz.prog 401 = some ⟨.func, 1, 8, [.lit .nilFunc]⟩ := by kernel_rfl
theorem ty402 : tiOf Tryz.prog 402 = some ⟨.struct [(0, 5), (5, 1)], 6, 88, [.lit (.int .i64 0), .lit (.int .i64 0), .lit (.string ⟨#[]⟩), .nil, .nil, .lit (.int .i64 0)]⟩ := by kernel_rfl
theorem ty403 : tiOf Tryz.prog 403 = some ⟨.struct [(0, 5), (5, 1)], 6, 88, [.lit (.int .i64 0), .lit (.int .i64 0), .lit (.string ⟨#[]⟩), .nil, .nil, .lit (.int .i64 0)]⟩ := by kernel_rfl
theorem ty404 : tiOf Tryz.prog 404 = some ⟨.func, 1, 8, [.lit .nilFunc]⟩ := by kernel_rfl
theorem ty405 : tiOf Tryz.prog 405 = some ⟨.func, 1, 8, [.lit .nilFunc]⟩ := by kernel_rfl
theorem ty406 : tiOf Tryz.prog 406 = some ⟨.func, 1, 8, [.lit .nilFunc]⟩ := by kernel_rfl
theorem ty407 : tiOf Tryz.prog 407 = some ⟨.func, 1, 8, [.lit .nilFunc]⟩ := by kernel_rfl
theorem ty408 : tiOf Tryz.prog 408 = some ⟨.func, 1, 8, [.lit .nilFunc]⟩ := by kernel_rfl
theorem ty409 : tiOf Tryz.prog 409 = some ⟨.func, 1, 8, [.lit .nilFunc]⟩ := by kernel_rfl
theorem ty410 : tiOf Tryz.prog 410 = some ⟨.func, 1, 8, [.lit .nilFunc]⟩ := by kernel_rfl
theorem ty411 : tiOf Tryz.prog 411 = some ⟨.func, 1, 8, [.lit .nilFunc]⟩ := by kernel_rfl
theorem ty412 : tiOf Tryz.prog 412 = some ⟨.func, 1, 8, [.lit .nilFunc]⟩ := by kernel_rfl
theorem ty413 : tiOf Tryz.prog 413 = some ⟨.func, 1, 8, [.lit .nilFunc]⟩ := by kernel_rfl
theorem ty415 : tiOf Tryz.prog 415 = some ⟨.func, 1, 8, [.lit .nilFunc]⟩ := by kernel_rfl
theorem ty416 : tiOf Tryz.prog 416 = some ⟨.func, 1, 8, [.lit .nilFunc]⟩ := by kernel_rfl
theorem ty417 : tiOf Tryz.prog 417 = some ⟨.func, 1, 8, [.lit .nilFunc]⟩ := by kernel_rfl
theorem ty419 : tiOf Tryz.prog 419 = some ⟨.func, 1, 8, [.lit .nilFunc]⟩ := by kernel_rfl
theorem ty420 : tiOf Tryz.prog 420 = some ⟨.func, 1, 8, [.lit .nilFunc]⟩ := by kernel_rfl
theorem ty421 : tiOf Tryz.prog 421 = some ⟨.func, 1, 8, [.lit .nilFunc]⟩ := by kernel_rfl
theorem ty422 : tiOf Tryz.prog 422 = some ⟨.func, 1, 8, [.lit .nilFunc]⟩ := by kernel_rfl
theorem ty423 : tiOf Tryz.prog 423 = some ⟨.func, 1, 8, [.lit .nilFunc]⟩ := by kernel_rfl
theorem ty424 : tiOf Tryz.prog 424 = some ⟨.func, 1, 8, [.lit .nilFunc]⟩ := by kernel_rfl
theorem ty426 : tiOf Tryz.prog 426 = some ⟨.func, 1, 8, [.lit .nilFunc]⟩ := by kernel_rfl
theorem ty427 : tiOf Tryz.prog 427 = some ⟨.func, 1, 8, [.lit .nilFunc]⟩ := by kernel_rfl
theorem ty428 : tiOf Tryz.prog 428 = some ⟨.func, 1, 8, [.lit .nilFunc]⟩ := by kernel_rfl
theorem ty432 : tiOf Tryz.prog 432 = some ⟨.func, 1, 8, [.lit .nilFunc]⟩ := by kernel_rfl
theorem ty433 : tiOf Tryz.prog 433 = some ⟨.func, 1, 8, [.lit .nilFunc]⟩ := by kernel_rfl
theorem ty434 : tiOf Tryz.prog 434 = some ⟨.ptr 430, 1, 8, [.lit (.pointer none)]⟩ := by kernel_rfl
theorem ty435 : tiOf Tryz.prog 435 = some ⟨.func, 1, 8, [.lit .nilFunc]⟩ := by kernel_rfl
theorem ty436 : tiOf Tryz.prog 436 = some ⟨.func, 1, 8, [.lit .nilFunc]⟩ := by kernel_rfl
theorem ty437 : tiOf Tryz.prog 437 = some ⟨.func, 1, 8, [.lit .nilFunc]⟩ := by kernel_rfl
def tyTree : Tr TI := .node 217 ⟨.func, 1, 8, [.lit .nilFunc]⟩ (.node 106 ⟨.slice 110, 1, 24, [.nil]⟩ (.node 53 ⟨.func, 1, 8, [.lit .nilFunc]⟩ (.node 25 ⟨.func, 1, 8, [.lit .nilFunc]⟩ (.node 13 ⟨.struct [(0, 1), (1, 1)], 2, 24, [.lit (.string ⟨#[]⟩), .lit (.int .u64 0)]⟩ (.node 7 ⟨.struct [(0, 1), (1, 1), (2, 1), (3, 1)], 4, 24, [.lit (.int .i64 0), .lit (.int .i64 0), .lit (.bool false), .lit (.int .u8 0)]⟩ (.node 4 ⟨.bool, 1, 1, [.lit (.bool false)]⟩ (.node 2 ⟨.int .i64, 1, 8, [.lit (.int .i64 0)]⟩ (.node 1 ⟨.func, 1, 8, [.lit .nilFunc]⟩ .leaf .leaf) (.node 3 ⟨.int .i64, 1, 8, [.lit (.int .i64 0)]⟩ .leaf .leaf)) (.node 6 ⟨.int .u8, 1, 1, [.lit (.int .u8 0)]⟩ (.node 5 ⟨.int .u8, 1, 1, [.lit (.int .u8 0)]⟩ .leaf .leaf) .leaf)) (.node 10 ⟨.string, 1, 16, [.lit (.string ⟨#[]⟩)]⟩ (.node 9 ⟨.string, 1, 16, [.lit (.string ⟨#[]⟩)]⟩ (.node 8 ⟨.struct [(0, 1), (1, 1), (2, 1), (3, 1)], 4, 24, [.lit (.int .i64 0), .lit (.int .i64 0), .lit (.bool false), .lit (.int .u8 0)]⟩ .leaf .leaf) .leaf) (.node 12 ⟨.int .u64, 1, 8, [.lit (.int .u64 0)]⟩ (.node 11 ⟨.string, 1, 16, [.lit (.string ⟨#[]⟩)]⟩ .leaf .leaf) .leaf))) (.node 19 ⟨.struct [(0, 1)], 1, 8, [.lit (.pointer none)]⟩ (.node 16 ⟨.ptr 390, 1, 8, [.lit (.pointer none)]⟩ (.node 15 ⟨.ptr 387, 1, 8, [.lit (.pointer none)]⟩ (.node 14 ⟨.struct [(0, 1), (1, 1)], 2, 24, [.lit (.string ⟨#[]⟩), .lit (.int .u64 0)]⟩ .leaf .leaf) .leaf) (.node 18 ⟨.struct [(0, 1)], 1, 8, [.lit (.pointer none)]⟩ (.node 17 ⟨.ptr 397, 1, 8, [.lit (.pointer none)]⟩ .leaf .leaf) .leaf)) (.node 22 ⟨.func, 1, 8, [.lit .nilFunc]⟩ (.node 21 ⟨.int .i32, 1, 4, [.lit (.int .i32 0)]⟩ (.node 20 ⟨.iface, 1, 16, [.lit .nilIface]⟩ .leaf .leaf) .leaf) (.node 24 ⟨.func, 1, 8, [.lit .nilFunc]⟩ (.node 23 ⟨.slice 86, 1, 24, [.nil]⟩ .leaf .leaf) .leaf)))) (.node 40 ⟨.func, 1, 8, [.lit .nilFunc]⟩ (.node 32 ⟨.ptr 101, 1, 8, [.lit (.pointer none)]⟩ (.node 29 ⟨.struct [(0, 1), (1, 1), (2, 1), (3, 1), (4, 1)], 5, 80, [.lit (.int .i64 0), .lit (.int .i64 0), .lit (.string ⟨#[]⟩), .nil, .nil]⟩ (.node 27 ⟨.slice 30, 1, 24, [.nil]⟩ (.node 26 ⟨.func, 1, 8, [.lit .nilFunc]⟩ .leaf .leaf) (.node 28 ⟨.slice 52, 1, 24, [.nil]⟩ .leaf .leaf)) (.node 31 ⟨.func, 1, 8, [.lit .nilFunc]⟩ (.node 30 ⟨.struct [(0, 1), (1, 1), (2, 1), (3, 1), (4, 1)], 5, 80, [.lit (.int .i64 0), .lit (.int .i64 0), .lit (.string ⟨#[]⟩), .nil, .nil]⟩ .leaf .leaf) .leaf)) (.node 36 ⟨.func, 1, 8, [.lit .nilFunc]⟩ (.node 35 ⟨.func, 1, 8, [.lit .nilFunc]⟩ (.node 33 ⟨.int .i64, 1, 8, [.lit (.int .i64 0)]⟩ .leaf .leaf) .leaf) (.node 38 ⟨.func, 1, 8, [.lit .nilFunc]⟩ (.node 37 ⟨.func, 1, 8, [.lit .nilFunc]⟩ .leaf .leaf) .leaf))) (.node 47 ⟨.func, 1, 8, [.lit .nilFunc]⟩ (.node 44 ⟨.func, 1, 8, [.lit .nilFunc]⟩ (.node 43 ⟨.func, 1, 8, [.lit .nilFunc]⟩ (.node 41 ⟨.func, 1, 8, [.lit .nilFunc]⟩ .leaf .leaf) .leaf) (.node 46 ⟨.func, 1, 8, [.lit .nilFunc]⟩ (.node 45 ⟨.func, 1, 8, [.lit .nilFunc]⟩ .leaf .leaf) .leaf)) (.node 50 ⟨.func, 1, 8, [.lit .nilFunc]⟩ (.node 49 ⟨.func, 1, 8, [.lit .nilFunc]⟩ (.node 48 ⟨.func, 1, 8, [.lit .nilFunc]⟩ .leaf .leaf) .leaf) (.node 52 ⟨.struct [(0, 1), (1, 5)], 6, 96, [.lit (.string ⟨#[]⟩), .lit (.int .i64 0), .lit (.int .i64 0), .lit (.string ⟨#[]⟩), .nil, .nil]⟩ (.node 51 ⟨.struct [(0, 1), (1, 5)], 6, 96, [.lit (.string ⟨#[]⟩), .lit (.int .i64 0), .lit (.int .i64 0), .lit (.string ⟨#[]⟩), .nil, .nil]⟩ .leaf .leaf) .leaf))))) (.node 80 ⟨.slice 9, 1, 24, [.nil]⟩ (.node 67 ⟨.func, 1, 8, [.lit .nilFunc]⟩ (.node 61 ⟨.func, 1, 8, [.lit .nilFunc]⟩ (.node 57 ⟨.struct [(0, 1), (1, 1)], 2, 24, [.lit (.string ⟨#[]⟩), .lit (.bool false)]⟩ (.node 55 ⟨.struct [(0, 1), (1, 1), (2, 1), (3, 1), (4, 1)], 5, 56, [.lit (.string ⟨#[]⟩), .nil, .lit (.bool false), .lit (.bool false), .lit (.int .i64 0)]⟩ (.node 54 ⟨.slice 58, 1, 24, [.nil]⟩ .leaf .leaf) (.node 56 ⟨.struct [(0, 1), (1, 1), (2, 1), (3, 1), (4, 1)], 5, 56, [.lit (.string ⟨#[]⟩), .nil, .lit (.bool false), .lit (.bool false), .lit (.int .i64 0)]⟩ .leaf .leaf)) (.node 59 ⟨.slice 65, 1, 24, [.nil]⟩ (.node 58 ⟨.struct [(0, 1), (1, 1)], 2, 24, [.lit (.string ⟨#[]⟩), .lit (.bool false)]⟩ .leaf .leaf) .leaf)) (.node 64 ⟨.func, 1, 8, [.lit .nilFunc]⟩ (.node 63 ⟨.func, 1, 8, [.lit .nilFunc]⟩ (.node 62 ⟨.func, 1, 8, [.lit .nilFunc]⟩ .leaf .leaf) .leaf) (.node 66 ⟨.func, 1, 8, [.lit .nilFunc]⟩ (.node 65 ⟨.slice 5, 1, 24, [.nil]⟩ .leaf .leaf) .leaf))) (.node 74 ⟨.func, 1, 8, [.lit .nilFunc]⟩ (.node 70 ⟨.slice 72, 1, 24, [.nil]⟩ (.node 69 ⟨.func, 1, 8, [.lit .nilFunc]⟩ (.node 68 ⟨.func, 1, 8, [.lit .nilFunc]⟩ .leaf .leaf) .leaf) (.node 72 ⟨.struct [(0, 1), (1, 1), (2, 5)], 7, 112, [.lit (.string ⟨#[]⟩), .lit (.string ⟨#[]⟩), .lit (.int .i64 0), .lit (.int .i64 0), .lit (.string ⟨#[]⟩), .nil, .nil]⟩ (.node 71 ⟨.struct [(0, 1), (1, 1), (2, 5)], 7, 112, [.lit (.string ⟨#[]⟩), .lit (.string ⟨#[]⟩), .lit (.int .i64 0), .lit (.int .i64 0), .lit (.string ⟨#[]⟩), .nil, .nil]⟩ .leaf .leaf) .leaf)) (.node 77 ⟨.func, 1, 8, [.lit .nilFunc]⟩ (.node 76 ⟨.struct [(0, 1), (1, 1), (2, 1)], 3, 40, [.lit (.int .i64 0), .lit (.bool false), .nil]⟩ (.node 75 ⟨.struct [(0, 1), (1, 1), (2, 1)], 3, 40, [.lit (.int .i64 0), .lit (.bool false), .nil]⟩ .leaf .leaf) .leaf) (.node 79 ⟨.func, 1, 8, [.lit .nilFunc]⟩ (.node 78 ⟨.func, 1, 8, [.lit .nilFunc]⟩ .leaf .leaf) .leaf)))) (.node 94 ⟨.func, 1, 8, [.lit .nilFunc]⟩ (.node 86 ⟨.struct [(0, 1), (1, 1)], 2, 48, [.nil, .nil]⟩ (.node 83 ⟨.func, 1, 8, [.lit .nilFunc]⟩ (.node 82 ⟨.func, 1, 8, [.lit .nilFunc]⟩ (.node 81 ⟨.func, 1, 8, [.lit .nilFunc]⟩ .leaf .leaf) .leaf) (.node 85 ⟨.struct [(0, 1), (1, 1)], 2, 48, [.nil, .nil]⟩ (.node 84 ⟨.func, 1, 8, [.lit .nilFunc]⟩ .leaf .leaf) .leaf)) (.node 89 ⟨.func, 1, 8, [.lit .nilFunc]⟩ (.node 88 ⟨.func, 1, 8, [.lit .nilFunc]⟩ (.node 87 ⟨.func, 1, 8, [.lit .nilFunc]⟩ .leaf .leaf) .leaf) (.node 93 ⟨.func, 1, 8, [.lit .nilFunc]⟩ (.node 91 ⟨.func, 1, 8, [.lit .nilFunc]⟩ .leaf .leaf) .leaf))) (.node 100 ⟨.struct [(0, 1)], 1, 16, [.lit .nilIface]⟩ (.node 97 ⟨.iface, 1, 16, [.lit .nilIface]⟩ (.node 96 ⟨.iface, 1, 16, [.lit .nilIface]⟩ (.node 95 ⟨.func, 1, 8, [.lit .nilFunc]⟩ .leaf .leaf) .leaf) (.node 99 ⟨.func, 1, 8, [.lit .nilFunc]⟩ (.node 98 ⟨.slice 9, 1, 24, [.nil]⟩ .leaf .leaf) .leaf)) (.node 103 ⟨.func, 1, 8, [.lit .nilFunc]⟩ (.node 102 ⟨.func, 1, 8, [.lit .nilFunc]⟩ (.node 101 ⟨.struct [(0, 1)], 1, 16, [.lit .nilIface]⟩ .leaf .leaf) .leaf) (.node 105 ⟨.func, 1, 8, [.lit .nilFunc]⟩ (.node 104 ⟨.func, 1, 8, [.lit .nilFunc]⟩ .leaf .leaf) .leaf)))))) (.node 162 ⟨.slice 9, 1, 24, [.nil]⟩ (.node 136 ⟨.func, 1, 8, [.lit .nilFunc]⟩ (.node 122 ⟨.func, 1, 8, [.lit .nilFunc]⟩ (.node 115 ⟨.func, 1, 8, [.lit .nilFunc]⟩ (.node 111 ⟨.func, 1, 8, [.lit .nilFunc]⟩ (.node 109 ⟨.func, 1, 8, [.lit .nilFunc]⟩ (.node 107 ⟨.slice 4, 1, 24, [.nil]⟩ .leaf .leaf) (.node 110 ⟨.slice 27, 1, 24, [.nil]⟩ .leaf .leaf)) (.node 113 ⟨.func, 1, 8, [.lit .nilFunc]⟩ (.node 112 ⟨.func, 1, 8, [.lit .nilFunc]⟩ .leaf .leaf) .leaf)) (.node 119 ⟨.func, 1, 8, [.lit .nilFunc]⟩ (.node 117 ⟨.func, 1, 8, [.lit .nilFunc]⟩ (.node 116 ⟨.func, 1, 8, [.lit .nilFunc]⟩ .leaf .leaf) .leaf) (.node 121 ⟨.func, 1, 8, [.lit .nilFunc]⟩ (.node 120 ⟨.func, 1, 8, [.lit .nilFunc]⟩ .leaf .leaf) .leaf))) (.node 128 ⟨.struct [(0, 1)], 1, 8, [.lit (.int .i64 0)]⟩ (.node 125 ⟨.func, 1, 8, [.lit .nilFunc]⟩ (.node 124 ⟨.slice 3, 1, 24, [.nil]⟩ (.node 123 ⟨.func, 1, 8, [.lit .nilFunc]⟩ .leaf .leaf) .leaf) (.node 127 ⟨.ptr 129, 1, 8, [.lit (.pointer none)]⟩ (.node 126 ⟨.func, 1, 8, [.lit .nilFunc]⟩ .leaf .leaf) .leaf)) (.node 132 ⟨.func, 1, 8, [.lit .nilFunc]⟩ (.node 131 ⟨.func, 1, 8, [.lit .nilFunc]⟩ (.node 129 ⟨.struct [(0, 1)], 1, 8, [.lit (.int .i64 0)]⟩ .leaf .leaf) .leaf) (.node 135 ⟨.func, 1, 8, [.lit .nilFunc]⟩ (.node 134 ⟨.func, 1, 8, [.lit .nilFunc]⟩ .leaf .leaf) .leaf)))) (.node 149 ⟨.func, 1, 8, [.lit .nilFunc]⟩ (.node 143 ⟨.func, 1, 8, [.lit .nilFunc]⟩ (.node 139 ⟨.func, 1, 8, [.lit .nilFunc]⟩ (.node 138 ⟨.func, 1, 8, [.lit .nilFunc]⟩ (.node 137 ⟨.func, 1, 8, [.lit .nilFunc]⟩ .leaf .leaf) .leaf) (.node 142 ⟨.func, 1, 8, [.lit .nilFunc]⟩ (.node 141 ⟨.func, 1, 8, [.lit .nilFunc]⟩ .leaf .leaf) .leaf)) (.node 146 ⟨.struct [(0, 1), (1, 1)], 2, 32, [.lit (.pointer none), .nil]⟩ (.node 145 ⟨.ptr 147, 1, 8, [.lit (.pointer none)]⟩ (.node 144 ⟨.func, 1, 8, [.lit .nilFunc]⟩ .leaf .leaf) .leaf) (.node 148 ⟨.func, 1, 8, [.lit .nilFunc]⟩ (.node 147 ⟨.struct [(0, 1), (1, 1)], 2, 32, [.lit (.pointer none), .nil]⟩ .leaf .leaf) .leaf))) (.node 156 ⟨.func, 1, 8, [.lit .nilFunc]⟩ (.node 153 ⟨.func, 1, 8, [.lit .nilFunc]⟩ (.node 151 ⟨.iface, 1, 16, [.lit .nilIface]⟩ (.node 150 ⟨.iface, 1, 16, [.lit .nilIface]⟩ .leaf .leaf) .leaf) (.node 155 ⟨.func, 1, 8, [.lit .nilFunc]⟩ (.node 154 ⟨.func, 1, 8, [.lit .nilFunc]⟩ .leaf .leaf) .leaf)) (.node 159 ⟨.func, 1, 8, [.lit .nilFunc]⟩ (.node 158 ⟨.func, 1, 8, [.lit .nilFunc]⟩ (.node 157 ⟨.func, 1, 8, [.lit .nilFunc]⟩ .leaf .leaf) .leaf) (.node 161 ⟨.struct [(0, 1), (1, 1)], 2, 40, [.lit (.string ⟨#[]⟩), .nil]⟩ (.node 160 ⟨.struct [(0, 1), (1, 1)], 2, 40, [.lit (.string ⟨#[]⟩), .nil]⟩ .leaf .leaf) .leaf))))) (.node 192 ⟨.func, 1, 8, [.lit .nilFunc]⟩ (.node 179 ⟨.func, 1, 8, [.lit .nilFunc]⟩ (.node 170 ⟨.struct [(0, 5)], 5, 80, [.lit (.int .i64 0), .lit (.int .i64 0), .lit (.string ⟨#[]⟩), .nil, .nil]⟩ (.node 167 ⟨.func, 1, 8, [.lit .nilFunc]⟩ (.node 165 ⟨.func, 1, 8, [.lit .nilFunc]⟩ (.node 163 ⟨.slice 97, 1, 24, [.nil]⟩ .leaf .leaf) (.node 166 ⟨.slice 97, 1, 24, [.nil]⟩ .leaf .leaf)) (.node 169 ⟨.struct [(0, 5)], 5, 80, [.lit (.int .i64 0), .lit (.int .i64 0), .lit (.string ⟨#[]⟩), .nil, .nil]⟩ (.node 168 ⟨.func, 1, 8, [.lit .nilFunc]⟩ .leaf .leaf) .leaf)) (.node 175 ⟨.func, 1, 8, [.lit .nilFunc]⟩ (.node 174 ⟨.func, 1, 8, [.lit .nilFunc]⟩ (.node 172 ⟨.func, 1, 8, [.lit .nilFunc]⟩ .leaf .leaf) .leaf) (.node 178 ⟨.func, 1, 8, [.lit .nilFunc]⟩ (.node 176 ⟨.func, 1, 8, [.lit .nilFunc]⟩ .leaf .leaf) .leaf))) (.node 186 ⟨.struct [(0, 1)], 1, 8, [.lit (.int .i64 0)]⟩ (.node 182 ⟨.struct [(0, 1)], 1, 8, [.lit (.int .i64 0)]⟩ (.node 181 ⟨.struct [(0, 1)], 1, 8, [.lit (.int .i64 0)]⟩ (.node 180 ⟨.ptr 182, 1, 8, [.lit (.pointer none)]⟩ .leaf .leaf) .leaf) (.node 184 ⟨.struct [], 0, 0, []⟩ (.node 183 ⟨.map 9 184, 1, 8, [.lit (.map none)]⟩ .leaf .leaf) .leaf)) (.node 189 ⟨.struct [(0, 5), (5, 1)], 6, 88, [.lit (.int .i64 0), .lit (.int .i64 0), .lit (.string ⟨#[]⟩), .nil, .nil, .lit (.int .i64 0)]⟩ (.node 188 ⟨.ptr 190, 1, 8, [.lit (.pointer none)]⟩ (.node 187 ⟨.struct [(0, 1)], 1, 8, [.lit (.int .i64 0)]⟩ .leaf .leaf) .leaf) (.node 191 ⟨.func, 1, 8, [.lit .nilFunc]⟩ (.node 190 ⟨.struct [(0, 5), (5, 1)], 6, 88, [.lit (.int .i64 0), .lit (.int .i64 0), .lit (.string ⟨#[]⟩), .nil, .nil, .lit (.int .i64 0)]⟩ .leaf .leaf) .leaf)))) (.node 204 ⟨.func, 1, 8, [.lit .nilFunc]⟩ (.node 198 ⟨.func, 1, 8, [.lit .nilFunc]⟩ (.node 195 ⟨.func, 1, 8, [.lit .nilFunc]⟩ (.node 194 ⟨.func, 1, 8, [.lit .nilFunc]⟩ (.node 193 ⟨.func, 1, 8, [.lit .nilFunc]⟩ .leaf .leaf) .leaf) (.node 197 ⟨.func, 1, 8, [.lit .nilFunc]⟩ (.node 196 ⟨.func, 1, 8, [.lit .nilFunc]⟩ .leaf .leaf) .leaf)) (.node 201 ⟨.func, 1, 8, [.lit .nilFunc]⟩ (.node 200 ⟨.int .u64, 1, 8, [.lit (.int .u64 0)]⟩ (.node 199 ⟨.func, 1, 8, [.lit .nilFunc]⟩ .leaf .leaf) .leaf) (.node 203 ⟨.func, 1, 8, [.lit .nilFunc]⟩ (.node 202 ⟨.func, 1, 8, [.lit .nilFunc]⟩ .leaf .leaf) .leaf))) (.node 211 ⟨.func, 1, 8, [.lit .nilFunc]⟩ (.node 208 ⟨.func, 1, 8, [.lit .nilFunc]⟩ (.node 207 ⟨.func, 1, 8, [.lit .nilFunc]⟩ (.node 205 ⟨.slice 210, 1, 24, [.nil]⟩ .leaf .leaf) .leaf) (.node 210 ⟨.struct [(0, 1), (1, 1)], 2, 24, [.lit (.string ⟨#[]⟩), .lit (.int .i64 0)]⟩ (.node 209 ⟨.struct [(0, 1), (1, 1)], 2, 24, [.lit (.string ⟨#[]⟩), .lit (.int .i64 0)]⟩ .leaf .leaf) .leaf)) (.node 214 ⟨.func, 1, 8, [.lit .nilFunc]⟩ (.node 213 ⟨.func, 1, 8, [.lit .nilFunc]⟩ (.node 212 ⟨.func, 1, 8, [.lit .nilFunc]⟩ .leaf .leaf) .leaf) (.node 216 ⟨.map 9 9, 1, 8, [.lit (.map none)]⟩ (.node 215 ⟨.func, 1, 8, [.lit .nilFunc]⟩ .leaf .leaf) .leaf))))))) (.node 322 ⟨.func, 1, 8, [.lit .nilFunc]⟩ (.node 269 ⟨.func, 1, 8, [.lit .nilFunc]⟩ (.node 243 ⟨.func, 1, 8, [.lit .nilFunc]⟩ (.node 230 ⟨.struct [(0, 5)], 5, 80, [.lit (.int .i64 0), .lit (.int .i64 0), .lit (.string ⟨#[]⟩), .nil, .nil]⟩ (.node 224 ⟨.func, 1, 8, [.lit .nilFunc]⟩ (.node 221 ⟨.ptr 223, 1, 8, [.lit (.pointer none)]⟩ (.node 219 ⟨.func, 1, 8, [.lit .nilFunc]⟩ (.node 218 ⟨.func, 1, 8, [.lit .nilFunc]⟩ .leaf .leaf) (.node 220 ⟨.func, 1, 8, [.lit .nilFunc]⟩ .leaf .leaf)) (.node 223 ⟨.struct [(0, 1)], 1, 24, [.nil]⟩ (.node 222 ⟨.struct [(0, 1)], 1, 24, [.nil]⟩ .leaf .leaf) .leaf)) (.node 227 ⟨.ptr 5, 1, 8, [.lit (.pointer none)]⟩ (.node 226 ⟨.int .u32, 1, 4, [.lit (.int .u32 0)]⟩ (.node 225 ⟨.func, 1, 8, [.lit .nilFunc]⟩ .leaf .leaf) .leaf) (.node 229 ⟨.func, 1, 8, [.lit .nilFunc]⟩ (.node 228 ⟨.func, 1, 8, [.lit .nilFunc]⟩ .leaf .leaf) .leaf))) (.node 237 ⟨.struct [(0, 1), (1, 1)], 2, 32, [.lit (.string ⟨#[]⟩), .lit .nilIface]⟩ (.node 234 ⟨.func, 1, 8, [.lit .nilFunc]⟩ (.node 232 ⟨.struct [(0, 1), (1, 1)], 2, 40, [.lit (.string ⟨#[]⟩), .nil]⟩ (.node 231 ⟨.struct [(0, 1), (1, 1)], 2, 40, [.lit (.string ⟨#[]⟩), .nil]⟩ .leaf .leaf) .leaf) (.node 236 ⟨.slice 238, 1, 24, [.nil]⟩ (.node 235 ⟨.slice 238, 1, 24, [.nil]⟩ .leaf .leaf) .leaf)) (.node 240 ⟨.func, 1, 8, [.lit .nilFunc]⟩ (.node 239 ⟨.func, 1, 8, [.lit .nilFunc]⟩ (.node 238 ⟨.struct [(0, 1), (1, 1)], 2, 32, [.lit (.string ⟨#[]⟩), .lit .nilIface]⟩ .leaf .leaf) .leaf) (.node 242 ⟨.func, 1, 8, [.lit .nilFunc]⟩ (.node 241 ⟨.func, 1, 8, [.lit .nilFunc]⟩ .leaf .leaf) .leaf)))) (.node 257 ⟨.func, 1, 8, [.lit .nilFunc]⟩ (.node 250 ⟨.func, 1, 8, [.lit .nilFunc]⟩ (.node 247 ⟨.func, 1, 8, [.lit .nilFunc]⟩ (.node 245 ⟨.func, 1, 8, [.lit .nilFunc]⟩ (.node 244 ⟨.ptr 399, 1, 8, [.lit (.pointer none)]⟩ .leaf .leaf) (.node 246 ⟨.func, 1, 8, [.lit .nilFunc]⟩ .leaf .leaf)) (.node 249 ⟨.func, 1, 8, [.lit .nilFunc]⟩ (.node 248 ⟨.func, 1, 8, [.lit .nilFunc]⟩ .leaf .leaf) .leaf)) (.node 253 ⟨.func, 1, 8, [.lit .nilFunc]⟩ (.node 252 ⟨.int .u64, 1, 8, [.lit (.int .u64 0)]⟩ (.node 251 ⟨.func, 1, 8, [.lit .nilFunc]⟩ .leaf .leaf) .leaf) (.node 255 ⟨.int .i64, 1, 8, [.lit (.int .i64 0)]⟩ (.node 254 ⟨.func, 1, 8, [.lit .nilFunc]⟩ .leaf .leaf) .leaf))) (.node 263 ⟨.func, 1, 8, [.lit .nilFunc]⟩ (.node 260 ⟨.func, 1, 8, [.lit .nilFunc]⟩ (.node 259 ⟨.func, 1, 8, [.lit .nilFunc]⟩ (.node 258 ⟨.func, 1, 8, [.lit .nilFunc]⟩ .leaf .leaf) .leaf) (.node 262 ⟨.func, 1, 8, [.lit .nilFunc]⟩ (.node 261 ⟨.func, 1, 8, [.lit .nilFunc]⟩ .leaf .leaf) .leaf)) (.node 266 ⟨.func, 1, 8, [.lit .nilFunc]⟩ (.node 265 ⟨.func, 1, 8, [.lit .nilFunc]⟩ (.node 264 ⟨.func, 1, 8, [.lit .nilFunc]⟩ .leaf .leaf) .leaf) (.node 268 ⟨.func, 1, 8, [.lit .nilFunc]⟩ (.node 267 ⟨.func, 1, 8, [.lit .nilFunc]⟩ .leaf .leaf) .leaf))))) (.node 298 ⟨.int .u64, 1, 8, [.lit (.int .u64 0)]⟩ (.node 286 ⟨.struct [(0, 1), (1, 1), (2, 1), (3, 1), (4, 1)], 5, 80, [.lit (.string ⟨#[]⟩), .lit (.string ⟨#[]⟩), .lit .nilIface, .lit .nilIface, .lit .nilIface]⟩ (.node 277 ⟨.func, 1, 8, [.lit .nilFunc]⟩ (.node 273 ⟨.func, 1, 8, [.lit .nilFunc]⟩ (.node 271 ⟨.func, 1, 8, [.lit .nilFunc]⟩ (.node 270 ⟨.func, 1, 8, [.lit .nilFunc]⟩ .leaf .leaf) (.node 272 ⟨.func, 1, 8, [.lit .nilFunc]⟩ .leaf .leaf)) (.node 275 ⟨.func, 1, 8, [.lit .nilFunc]⟩ (.node 274 ⟨.func, 1, 8, [.lit .nilFunc]⟩ .leaf .leaf) .leaf)) (.node 283 ⟨.func, 1, 8, [.lit .nilFunc]⟩ (.node 280 ⟨.struct [(0, 1), (1, 1)], 2, 2, [.lit (.int .u8 0), .lit (.int .u8 0)]⟩ (.node 279 ⟨.struct [(0, 1), (1, 1)], 2, 2, [.lit (.int .u8 0), .lit (.int .u8 0)]⟩ .leaf .leaf) .leaf) (.node 285 ⟨.func, 1, 8, [.lit .nilFunc]⟩ (.node 284 ⟨.func, 1, 8, [.lit .nilFunc]⟩ .leaf .leaf) .leaf))) (.node 292 ⟨.map 9 3, 1, 8, [.lit (.map none)]⟩ (.node 289 ⟨.func, 1, 8, [.lit .nilFunc]⟩ (.node 288 ⟨.func, 1, 8, [.lit .nilFunc]⟩ (.node 287 ⟨.struct [(0, 1), (1, 1), (2, 1), (3, 1), (4, 1)], 5, 80, [.lit (.string ⟨#[]⟩), .lit (.string ⟨#[]⟩), .lit .nilIface, .lit .nilIface, .lit .nilIface]⟩ .leaf .leaf) .leaf) (.node 291 ⟨.func, 1, 8, [.lit .nilFunc]⟩ (.node 290 ⟨.func, 1, 8, [.lit .nilFunc]⟩ .leaf .leaf) .leaf)) (.node 295 ⟨.func, 1, 8, [.lit .nilFunc]⟩ (.node 294 ⟨.func, 1, 8, [.lit .nilFunc]⟩ (.node 293 ⟨.func, 1, 8, [.lit .nilFunc]⟩ .leaf .leaf) .leaf) (.node 297 ⟨.func, 1, 8, [.lit .nilFunc]⟩ (.node 296 ⟨.func, 1, 8, [.lit .nilFunc]⟩ .leaf .leaf) .leaf)))) (.node 310 ⟨.func, 1, 8, [.lit .nilFunc]⟩ (.node 304 ⟨.func, 1, 8, [.lit .nilFunc]⟩ (.node 301 ⟨.func, 1, 8, [.lit .nilFunc]⟩ (.node 300 ⟨.func, 1, 8, [.lit .nilFunc]⟩ (.node 299 ⟨.func, 1, 8, [.lit .nilFunc]⟩ .leaf .leaf) .leaf) (.node 303 ⟨.func, 1, 8, [.lit .nilFunc]⟩ (.node 302 ⟨.ptr 3, 1, 8, [.lit (.pointer none)]⟩ .leaf .leaf) .leaf)) (.node 307 ⟨.ptr 309, 1, 8, [.lit (.pointer none)]⟩ (.node 306 ⟨.func, 1, 8, [.lit .nilFunc]⟩ (.node 305 ⟨.func, 1, 8, [.lit .nilFunc]⟩ .leaf .leaf) .leaf) (.node 309 ⟨.struct [(0, 5), (5, 1), (6, 1)], 7, 96, [.lit (.int .i64 0), .lit (.int .i64 0), .lit (.string ⟨#[]⟩), .nil, .nil, .lit (.int .i64 0), .lit (.int .i64 0)]⟩ (.node 308 ⟨.struct [(0, 5), (5, 1), (6, 1)], 7, 96, [.lit (.int .i64 0), .lit (.int .i64 0), .lit (.string ⟨#[]⟩), .nil, .nil, .lit (.int .i64 0), .lit (.int .i64 0)]⟩ .leaf .leaf) .leaf))) (.node 316 ⟨.func, 1, 8, [.lit .nilFunc]⟩ (.node 313 ⟨.func, 1, 8, [.lit .nilFunc]⟩ (.node 312 ⟨.func, 1, 8, [.lit .nilFunc]⟩ (.node 311 ⟨.func, 1, 8, [.lit .nilFunc]⟩ .leaf .leaf) .leaf) (.node 315 ⟨.ptr 298, 1, 8, [.lit (.pointer none)]⟩ (.node 314 ⟨.func, 1, 8, [.lit .nilFunc]⟩ .leaf .leaf) .leaf)) (.node 319 ⟨.func, 1, 8, [.lit .nilFunc]⟩ (.node 318 ⟨.ptr 341, 1, 8, [.lit (.pointer none)]⟩ (.node 317 ⟨.func, 1, 8, [.lit .nilFunc]⟩ .leaf .leaf) .leaf) (.node 321 ⟨.ptr 325, 1, 8, [.lit (.pointer none)]⟩ (.node 320 ⟨.func, 1, 8, [.lit .nilFunc]⟩ .leaf .leaf) .leaf)))))) (.node 380 ⟨.struct [(0, 1), (1, 1), (2, 1)], 3, 48, [.lit (.string ⟨#[]⟩), .lit (.string ⟨#[]⟩), .lit .nilIface]⟩ (.node 352 ⟨.func, 1, 8, [.lit .nilFunc]⟩ (.node 338 ⟨.func, 1, 8, [.lit .nilFunc]⟩ (.node 331 ⟨.func, 1, 8, [.lit .nilFunc]⟩ (.node 326 ⟨.func, 1, 8, [.lit .nilFunc]⟩ (.node 324 ⟨.struct [(0, 5), (5, 1)], 6, 88, [.lit (.int .i64 0), .lit (.int .i64 0), .lit (.string ⟨#[]⟩), .nil, .nil, .lit (.int .i64 0)]⟩ (.node 323 ⟨.func, 1, 8, [.lit .nilFunc]⟩ .leaf .leaf) (.node 325 ⟨.struct [(0, 5), (5, 1)], 6, 88, [.lit (.int .i64 0), .lit (.int .i64 0), .lit (.string ⟨#[]⟩), .nil, .nil, .lit (.int .i64 0)]⟩ .leaf .leaf)) (.node 329 ⟨.func, 1, 8, [.lit .nilFunc]⟩ (.node 327 ⟨.func, 1, 8, [.lit .nilFunc]⟩ .leaf .leaf) .leaf)) (.node 334 ⟨.func, 1, 8, [.lit .nilFunc]⟩ (.node 333 ⟨.func, 1, 8, [.lit .nilFunc]⟩ (.node 332 ⟨.func, 1, 8, [.lit .nilFunc]⟩ .leaf .leaf) .leaf) (.node 337 ⟨.func, 1, 8, [.lit .nilFunc]⟩ (.node 335 ⟨.func, 1, 8, [.lit .nilFunc]⟩ .leaf .leaf) .leaf))) (.node 344 ⟨.func, 1, 8, [.lit .nilFunc]⟩ (.node 341 ⟨.struct [(0, 1), (1, 5), (6, 1)], 7, 104, [.lit (.string ⟨#[]⟩), .lit (.int .i64 0), .lit (.int .i64 0), .lit (.string ⟨#[]⟩), .nil, .nil, .lit (.pointer none)]⟩ (.node 340 ⟨.struct [(0, 1), (1, 5), (6, 1)], 7, 104, [.lit (.string ⟨#[]⟩), .lit (.int .i64 0), .lit (.int .i64 0), .lit (.string ⟨#[]⟩), .nil, .nil, .lit (.pointer none)]⟩ (.node 339 ⟨.func, 1, 8, [.lit .nilFunc]⟩ .leaf .leaf) .leaf) (.node 343 ⟨.func, 1, 8, [.lit .nilFunc]⟩ (.node 342 ⟨.func, 1, 8, [.lit .nilFunc]⟩ .leaf .leaf) .leaf)) (.node 349 ⟨.func, 1, 8, [.lit .nilFunc]⟩ (.node 346 ⟨.func, 1, 8, [.lit .nilFunc]⟩ (.node 345 ⟨.func, 1, 8, [.lit .nilFunc]⟩ .leaf .leaf) .leaf) (.node 351 ⟨.func, 1, 8, [.lit .nilFunc]⟩ (.node 350 ⟨.func, 1, 8, [.lit .nilFunc]⟩ .leaf .leaf) .leaf)))) (.node 364 ⟨.func, 1, 8, [.lit .nilFunc]⟩ (.node 358 ⟨.func, 1, 8, [.lit .nilFunc]⟩ (.node 355 ⟨.func, 1, 8, [.lit .nilFunc]⟩ (.node 354 ⟨.func, 1, 8, [.lit .nilFunc]⟩ (.node 353 ⟨.func, 1, 8, [.lit .nilFunc]⟩ .leaf .leaf) .leaf) (.node 357 ⟨.func, 1, 8, [.lit .nilFunc]⟩ (.node 356 ⟨.func, 1, 8, [.lit .nilFunc]⟩ .leaf .leaf) .leaf)) (.node 361 ⟨.func, 1, 8, [.lit .nilFunc]⟩ (.node 360 ⟨.func, 1, 8, [.lit .nilFunc]⟩ (.node 359 ⟨.func, 1, 8, [.lit .nilFunc]⟩ .leaf .leaf) .leaf) (.node 363 ⟨.func, 1, 8, [.lit .nilFunc]⟩ (.node 362 ⟨.func, 1, 8, [.lit .nilFunc]⟩ .leaf .leaf) .leaf))) (.node 373 ⟨.ptr 380, 1, 8, [.lit (.pointer none)]⟩ (.node 369 ⟨.func, 1, 8, [.lit .nilFunc]⟩ (.node 366 ⟨.func, 1, 8, [.lit .nilFunc]⟩ (.node 365 ⟨.func, 1, 8, [.lit .nilFunc]⟩ .leaf .leaf) .leaf) (.node 372 ⟨.func, 1, 8, [.lit .nilFunc]⟩ (.node 370 ⟨.int .i64, 1, 8, [.lit (.int .i64 0)]⟩ .leaf .leaf) .leaf)) (.node 377 ⟨.func, 1, 8, [.lit .nilFunc]⟩ (.node 375 ⟨.func, 1, 8, [.lit .nilFunc]⟩ (.node 374 ⟨.func, 1, 8, [.lit .nilFunc]⟩ .leaf .leaf) .leaf) (.node 379 ⟨.struct [(0, 1), (1, 1), (2, 1)], 3, 48, [.lit (.string ⟨#[]⟩), .lit (.string ⟨#[]⟩), .lit .nilIface]⟩ (.node 378 ⟨.func, 1, 8, [.lit .nilFunc]⟩ .leaf .leaf) .leaf))))) (.node 408 ⟨.func, 1, 8, [.lit .nilFunc]⟩ (.node 396 ⟨.struct [(0, 1), (1, 1), (2, 1), (3, 1), (4, 1), (5, 1), (6, 1), (7, 1), (8, 1), (9, 1), (10, 1)], 11, 48, [.lit (.int .u64 0), .lit (.int .u64 0), .lit (.int .u32 0), .lit (.int .u8 0), .lit (.int .u8 0), .lit (.int .u8 0), .lit (.int .u8 0), .lit .nilFunc, .lit (.pointer none), .lit (.int .i32 0), .lit (.int .i32 0)]⟩ (.node 387 ⟨.struct [(0, 1), (1, 1), (2, 1), (3, 1)], 4, 40, [.lit (.pointer none), .lit (.pointer none), .lit (.pointer none), .lit (.string ⟨#[]⟩)]⟩ (.node 384 ⟨.struct [(0, 1)], 1, 16, [.lit (.string ⟨#[]⟩)]⟩ (.node 382 ⟨.func, 1, 8, [.lit .nilFunc]⟩ (.node 381 ⟨.func, 1, 8, [.lit .nilFunc]⟩ .leaf .leaf) (.node 383 ⟨.ptr 385, 1, 8, [.lit (.pointer none)]⟩ .leaf .leaf)) (.node 386 ⟨.struct [(0, 1), (1, 1), (2, 1), (3, 1)], 4, 40, [.lit (.pointer none), .lit (.pointer none), .lit (.pointer none), .lit (.string ⟨#[]⟩)]⟩ (.node 385 ⟨.struct [(0, 1)], 1, 16, [.lit (.string ⟨#[]⟩)]⟩ .leaf .leaf) .leaf)) (.node 393 ⟨.func, 1, 8, [.lit .nilFunc]⟩ (.node 392 ⟨.int .u8, 1, 1, [.lit (.int .u8 0)]⟩ (.node 391 ⟨.int .u8, 1, 1, [.lit (.int .u8 0)]⟩ .leaf .leaf) .leaf) (.node 395 ⟨.int .i32, 1, 4, [.lit (.int .i32 0)]⟩ (.node 394 ⟨.int .i32, 1, 4, [.lit (.int .i32 0)]⟩ .leaf .leaf) .leaf))) (.node 402 ⟨.struct [(0, 5), (5, 1)], 6, 88, [.lit (.int .i64 0), .lit (.int .i64 0), .lit (.string ⟨#[]⟩), .nil, .nil, .lit (.int .i64 0)]⟩ (.node 399 ⟨.struct [(0, 1), (1, 5), (6, 1)], 7, 104, [.lit (.string ⟨#[]⟩), .lit (.int .i64 0), .lit (.int .i64 0), .lit (.string ⟨#[]⟩), .nil, .nil, .lit (.pointer none)]⟩ (.node 398 ⟨.struct [(0, 1), (1, 5), (6, 1)], 7, 104, [.lit (.string ⟨#[]⟩), .lit (.int .i64 0), .lit (.int .i64 0), .lit (.string ⟨#[]⟩), .nil, .nil, .lit (.pointer none)]⟩ (.node 397 ⟨.struct [(0, 1), (1, 1), (2, 1), (3, 1), (4, 1), (5, 1), (6, 1), (7, 1), (8, 1), (9, 1), (10, 1)], 11, 48, [.lit (.int .u64 0), .lit (.int .u64 0), .lit (.int .u32 0), .lit (.int .u8 0), .lit (.int .u8 0), .lit (.int .u8 0), .lit (.int .u8 0), .lit .nilFunc, .lit (.pointer none), .lit (.int .i32 0), .lit (.int .i32 0)]⟩ .leaf .leaf) .leaf) (.node 401 ⟨.func, 1, 8, [.lit .nilFunc]⟩ (.node 400 ⟨.ptr 403, 1, 8, [.lit (.pointer none)]⟩ .leaf .leaf) .leaf)) (.node 405 ⟨.func, 1, 8, [.lit .nilFunc]⟩ (.node 404 ⟨.func, 1, 8, [.lit .nilFunc]⟩ (.node 403 ⟨.struct [(0, 5), (5, 1)], 6, 88, [.lit (.int .i64 0), .lit (.int .i64 0), .lit (.string ⟨#[]⟩), .nil, .nil, .lit (.int .i64 0)]⟩ .leaf .leaf) .leaf) (.node 407 ⟨.func, 1, 8, [.lit .nilFunc]⟩ (.node 406 ⟨.func, 1, 8, [.lit .nilFunc]⟩ .leaf .leaf) .leaf)))) (.node 422 ⟨.func, 1, 8, [.lit .nilFunc]⟩ (.node 415 ⟨.func, 1, 8, [.lit .nilFunc]⟩ (.node 411 ⟨.func, 1, 8, [.lit .nilFunc]⟩ (.node 410 ⟨.func, 1, 8, [.lit .nilFunc]⟩ (.node 409 ⟨.func, 1, 8, [.lit .nilFunc]⟩ .leaf .leaf) .leaf) (.node 413 ⟨.func, 1, 8, [.lit .nilFunc]⟩ (.node 412 ⟨.func, 1, 8, [.lit .nilFunc]⟩ .leaf .leaf) .leaf)) (.node 419 ⟨.func, 1, 8, [.lit .nilFunc]⟩ (.node 417 ⟨.func, 1, 8, [.lit .nilFunc]⟩ (.node 416 ⟨.func, 1, 8, [.lit .nilFunc]⟩ .leaf .leaf) .leaf) (.node 421 ⟨.func, 1, 8, [.lit .nilFunc]⟩ (.node 420 ⟨.func, 1, 8, [.lit .nilFunc]⟩ .leaf .leaf) .leaf))) (.node 432 ⟨.func, 1, 8, [.lit .nilFunc]⟩ (.node 426 ⟨.func, 1, 8, [.lit .nilFunc]⟩ (.node 424 ⟨.func, 1, 8, [.lit .nilFunc]⟩ (.node 423 ⟨.func, 1, 8, [.lit .nilFunc]⟩ .leaf .leaf) .leaf) (.node 428 ⟨.func, 1, 8, [.lit .nilFunc]⟩ (.node 427 ⟨.func, 1, 8, [.lit .nilFunc]⟩ .leaf .leaf) .leaf)) (.node 435 ⟨.func, 1, 8, [.lit .nilFunc]⟩ (.node 434 ⟨.ptr 430, 1, 8, [.lit (.pointer none)]⟩ (.node 433 ⟨.func, 1, 8, [.lit .nilFunc]⟩ .leaf .leaf) .leaf) (.node 437 ⟨.func, 1, 8, [.lit .nilFunc]⟩ (.node 436 ⟨.func, 1, 8, [.lit .nilFunc]⟩ .leaf .leaf) .leaf)))))))
theorem tyTree_ok : tyTree.All (TOK Tryz.prog) := ⟨tiOf_ok ty217, ⟨tiOf_ok ty106, ⟨tiOf_ok ty53, ⟨tiOf_ok ty25, ⟨tiOf_ok ty13, ⟨tiOf_ok ty7, ⟨tiOf_ok ty4, ⟨tiOf_ok ty2, ⟨tiOf_ok ty1, trivial, trivial⟩, ⟨tiOf_ok ty3, trivial, trivial⟩⟩, ⟨tiOf_ok ty6, ⟨tiOf_ok ty5, trivial, trivial⟩, trivial⟩⟩, ⟨tiOf_ok ty10, ⟨tiOf_ok ty9, ⟨tiOf_ok ty8, trivial, trivial⟩, trivial⟩, ⟨tiOf_ok ty12, ⟨tiOf_ok ty11, trivial, trivial⟩, trivial⟩⟩⟩, ⟨tiOf_ok ty19, ⟨tiOf_ok ty16, ⟨tiOf_ok ty15, ⟨tiOf_ok ty14, trivial, trivial⟩, trivial⟩, ⟨tiOf_ok ty18, ⟨tiOf_ok ty17, trivial, trivial⟩, trivial⟩⟩, ⟨tiOf_ok ty22, ⟨tiOf_ok ty21, ⟨tiOf_ok ty20, trivial, trivial⟩, trivial⟩, ⟨tiOf_ok ty24, ⟨tiOf_ok ty23, trivial, trivial⟩, trivial⟩⟩⟩⟩, ⟨tiOf_ok ty40, ⟨tiOf_ok ty32, ⟨tiOf_ok ty29, ⟨tiOf_ok ty27, ⟨tiOf_ok ty26, trivial, trivial⟩, ⟨tiOf_ok ty28, trivial, trivial⟩⟩, ⟨tiOf_ok ty31, ⟨tiOf_ok ty30, trivial, trivial⟩, trivial⟩⟩, ⟨tiOf_ok ty36, ⟨tiOf_ok ty35, ⟨tiOf_ok ty33, trivial, trivial⟩, trivial⟩, ⟨tiOf_ok ty38, ⟨tiOf_ok ty37, trivial, trivial⟩, trivial⟩⟩⟩, ⟨tiOf_ok ty47, ⟨tiOf_ok ty44, ⟨tiOf_ok ty43, ⟨tiOf_ok ty41, trivial, trivial⟩, trivial⟩, ⟨tiOf_ok ty46, ⟨tiOf_ok ty45, trivial, trivial⟩, trivial⟩⟩, ⟨tiOf_ok ty50, ⟨tiOf_ok ty49, ⟨tiOf_ok ty48, trivial, trivial⟩, trivial⟩, ⟨tiOf_ok ty52, ⟨tiOf_ok ty51, trivial, trivial⟩, trivial⟩⟩⟩⟩⟩, ⟨tiOf_ok ty80, ⟨tiOf_ok ty67, ⟨tiOf_ok ty61, ⟨tiOf_ok ty57, ⟨tiOf_ok ty55, ⟨tiOf_ok ty54, trivial, trivial⟩, ⟨tiOf_ok ty56, trivial, trivial⟩⟩, ⟨tiOf_ok ty59, ⟨tiOf_ok ty58, trivial, trivial⟩, trivial⟩⟩, ⟨tiOf_ok ty64, ⟨tiOf_ok ty63, ⟨tiOf_ok ty62, trivial, trivial⟩, trivial⟩, ⟨tiOf_ok ty66, ⟨tiOf_ok ty65, trivial, trivial⟩, trivial⟩⟩⟩, ⟨tiOf_ok ty74, ⟨tiOf_ok ty70, ⟨tiOf_ok ty69, ⟨tiOf_ok ty68, trivial, trivial⟩, trivial⟩, ⟨tiOf_ok ty72, ⟨tiOf_ok ty71, trivial, trivial⟩, trivial⟩⟩, ⟨tiOf_ok ty77, ⟨tiOf_ok ty76, ⟨tiOf_ok ty75, trivial, trivial⟩, trivial⟩, ⟨tiOf_ok ty79, ⟨tiOf_ok ty78, trivial, trivial⟩, trivial⟩⟩⟩⟩, ⟨tiOf_ok ty94, ⟨tiOf_ok ty86, ⟨tiOf_ok ty83, ⟨tiOf_ok ty82, ⟨tiOf_ok ty81, trivial, trivial⟩, trivial⟩, ⟨tiOf_ok ty85, ⟨tiOf_ok ty84, trivial, trivial⟩, trivial⟩⟩, ⟨tiOf_ok ty89, ⟨tiOf_ok ty88, ⟨tiOf_ok ty87, trivial, trivial⟩, trivial⟩, ⟨tiOf_ok ty93, ⟨tiOf_ok ty91, trivial, trivial⟩, trivial⟩⟩⟩, ⟨tiOf_ok ty100, ⟨tiOf_ok ty97, ⟨tiOf_ok ty96, ⟨tiOf_ok ty95, trivial, trivial⟩, trivial⟩, ⟨tiOf_ok ty99, ⟨tiOf_ok ty98, trivial, trivial⟩, trivial⟩⟩, ⟨tiOf_ok ty103, ⟨tiOf_ok ty102, ⟨tiOf_ok ty101, trivial, trivial⟩, trivial⟩, ⟨tiOf_ok ty105, ⟨tiOf_ok ty104, trivial, trivial⟩, trivial⟩⟩⟩⟩⟩⟩, ⟨tiOf_ok ty162, ⟨tiOf_ok ty136, ⟨tiOf_ok ty122, ⟨tiOf_ok ty115, ⟨tiOf_ok ty111, ⟨tiOf_ok ty109, ⟨tiOf_ok ty107, trivial, trivial⟩, ⟨tiOf_ok ty110, trivial, trivial⟩⟩, ⟨tiOf_ok ty113, ⟨tiOf_ok ty112, trivial, trivial⟩, trivial⟩⟩, ⟨tiOf_ok ty119, ⟨tiOf_ok ty117, ⟨tiOf_ok ty116, trivial, trivial⟩, trivial⟩, ⟨tiOf_ok ty121, ⟨tiOf_ok ty120, trivial, trivial⟩, trivial⟩⟩⟩, ⟨tiOf_ok ty128, ⟨tiOf_ok ty125, ⟨tiOf_ok ty124, ⟨tiOf_ok ty123, trivial, trivial⟩, trivial⟩, ⟨tiOf_ok ty127, ⟨tiOf_ok ty126, trivial, trivial⟩, trivial⟩⟩, ⟨tiOf_ok ty132, ⟨tiOf_ok ty131, ⟨tiOf_ok ty129, trivial, trivial⟩, trivial⟩, ⟨tiOf_ok ty135, ⟨tiOf_ok ty134, trivial, trivial⟩, trivial⟩⟩⟩⟩, ⟨tiOf_ok ty149, ⟨tiOf_ok ty143, ⟨tiOf_ok ty139, ⟨tiOf_ok ty138, ⟨tiOf_ok ty137, trivial, trivial⟩, trivial⟩, ⟨tiOf_ok ty142, ⟨tiOf_ok ty141, trivial, trivial⟩, trivial⟩⟩, ⟨tiOf_ok ty146, ⟨tiOf_ok ty145, ⟨tiOf_ok ty144, trivial, trivial⟩, trivial⟩, ⟨tiOf_ok ty148, ⟨tiOf_ok ty147, trivial, trivial⟩, trivial⟩⟩⟩, ⟨tiOf_ok ty156, ⟨tiOf_ok ty153, ⟨tiOf_ok ty151, ⟨tiOf_ok ty150, trivial, trivial⟩, trivial⟩, ⟨tiOf_ok ty155, ⟨tiOf_ok ty154, trivial, trivial⟩, trivial⟩⟩, ⟨tiOf_ok ty159, ⟨tiOf_ok ty158, ⟨tiOf_ok ty157, trivial, trivial⟩, trivial⟩, ⟨tiOf_ok ty161, ⟨tiOf_ok ty160, trivial, trivial⟩, trivial⟩⟩⟩⟩⟩, ⟨tiOf_ok ty192, ⟨tiOf_ok ty179, ⟨tiOf_ok ty170, ⟨tiOf_ok ty167, ⟨tiOf_ok ty165, ⟨tiOf_ok ty163, trivial, trivial⟩, ⟨tiOf_ok ty166, trivial, trivial⟩⟩, ⟨tiOf_ok ty169, ⟨tiOf_ok ty168, trivial, trivial⟩, trivial⟩⟩, ⟨tiOf_ok ty175, ⟨tiOf_ok ty174, ⟨tiOf_ok ty172, trivial, trivial⟩, trivial⟩, ⟨tiOf_ok ty178, ⟨tiOf_ok ty176, trivial, trivial⟩, trivial⟩⟩⟩, ⟨tiOf_ok ty186, ⟨tiOf_ok ty182, ⟨tiOf_ok ty181, ⟨tiOf_ok ty180, trivial, trivial⟩, trivial⟩, ⟨tiOf_ok ty184, ⟨tiOf_ok ty183, trivial, trivial⟩, trivial⟩⟩, ⟨tiOf_ok ty189, ⟨tiOf_ok ty188, ⟨tiOf_ok ty187, trivial, trivial⟩, trivial⟩, ⟨tiOf_ok ty191, ⟨tiOf_ok ty190, trivial, trivial⟩, trivial⟩⟩⟩⟩, ⟨tiOf_ok ty204, ⟨tiOf_ok ty198, ⟨tiOf_ok ty195, ⟨tiOf_ok ty194, ⟨tiOf_ok ty193, trivial, trivial⟩, trivial⟩, ⟨tiOf_ok ty197, ⟨tiOf_ok ty196, trivial, trivial⟩, trivial⟩⟩, ⟨tiOf_ok ty201, ⟨tiOf_ok ty200, ⟨tiOf_ok ty199, trivial, trivial⟩, trivial⟩, ⟨tiOf_ok ty203, ⟨tiOf_ok ty202, trivial, trivial⟩, trivial⟩⟩⟩, ⟨tiOf_ok ty211, ⟨tiOf_ok ty208, ⟨tiOf_ok ty207, ⟨tiOf_ok ty205, trivial, trivial⟩, trivial⟩, ⟨tiOf_ok ty210, ⟨tiOf_ok ty209, trivial, trivial⟩, trivial⟩⟩, ⟨tiOf_ok ty214, ⟨tiOf_ok ty213, ⟨tiOf_ok ty212, trivial, trivial⟩, trivial⟩, ⟨tiOf_ok ty216, ⟨tiOf_ok ty215, trivial, trivial⟩, trivial⟩⟩⟩⟩⟩⟩⟩, ⟨tiOf_ok ty322, ⟨tiOf_ok ty269, ⟨tiOf_ok ty243, ⟨tiOf_ok ty230, ⟨tiOf_ok ty224, ⟨tiOf_ok ty221, ⟨tiOf_ok ty219, ⟨tiOf_ok ty218, trivial, trivial⟩, ⟨tiOf_ok ty220, trivial, trivial⟩⟩, ⟨tiOf_ok ty223, ⟨tiOf_ok ty222, trivial, trivial⟩, trivial⟩⟩, ⟨tiOf_ok ty227, ⟨tiOf_ok ty226, ⟨tiOf_ok ty225, trivial, trivial⟩, trivial⟩, ⟨tiOf_ok ty229, ⟨tiOf_ok ty228, trivial, trivial⟩, trivial⟩⟩⟩, ⟨tiOf_ok ty237, ⟨tiOf_ok ty234, ⟨tiOf_ok ty232, ⟨tiOf_ok ty231, trivial, trivial⟩, trivial⟩, ⟨tiOf_ok ty236, ⟨tiOf_ok ty235, trivial, trivial⟩, trivial⟩⟩, ⟨tiOf_ok ty240, ⟨tiOf_ok ty239, ⟨tiOf_ok ty238, trivial, trivial⟩, trivial⟩, ⟨tiOf_ok ty242, ⟨tiOf_ok ty241, trivial, trivial⟩, trivial⟩⟩⟩⟩, ⟨tiOf_ok ty257, ⟨tiOf_ok ty250, ⟨tiOf_ok ty247, ⟨tiOf_ok ty245, ⟨tiOf_ok ty244, trivial, trivial⟩, ⟨tiOf_ok ty246, trivial, trivial⟩⟩, ⟨tiOf_ok ty249, ⟨tiOf_ok ty248, trivial, trivial⟩, trivial⟩⟩, ⟨tiOf_ok ty253, ⟨tiOf_ok ty252, ⟨tiOf_ok ty251, trivial, trivial⟩, trivial⟩, ⟨tiOf_ok ty255, ⟨tiOf_ok ty254, trivial, trivial⟩, trivial⟩⟩⟩, ⟨tiOf_ok ty263, ⟨tiOf_ok ty260, ⟨tiOf_ok ty259, ⟨tiOf_ok ty258, trivial, trivial⟩, trivial⟩, ⟨tiOf_ok ty262, ⟨tiOf_ok ty261, trivial, trivial⟩, trivial⟩⟩, ⟨tiOf_ok ty266, ⟨tiOf_ok ty265, ⟨tiOf_ok ty264, trivial, trivial⟩, trivial⟩, ⟨tiOf_ok ty268, ⟨tiOf_ok ty267, trivial, trivial⟩, trivial⟩⟩⟩⟩⟩, ⟨tiOf_ok ty298, ⟨tiOf_ok ty286, ⟨tiOf_ok ty277, ⟨tiOf_ok ty273, ⟨tiOf_ok ty271, ⟨tiOf_ok ty270, trivial, trivial⟩, ⟨tiOf_ok ty272, trivial, trivial⟩⟩, ⟨tiOf_ok ty275, ⟨tiOf_ok ty274, trivial, trivial⟩, trivial⟩⟩, ⟨tiOf_ok ty283, ⟨tiOf_ok ty280, ⟨tiOf_ok ty279, trivial, trivial⟩, trivial⟩, ⟨tiOf_ok ty285, ⟨tiOf_ok ty284, trivial, trivial⟩, trivial⟩⟩⟩, ⟨tiOf_ok ty292, ⟨tiOf_ok ty289, ⟨tiOf_ok ty288, ⟨tiOf_ok ty287, trivial, trivial⟩, trivial⟩, ⟨tiOf_ok ty291, ⟨tiOf_ok ty290, trivial, trivial⟩, trivial⟩⟩, ⟨tiOf_ok ty295, ⟨tiOf_ok ty294, ⟨tiOf_ok ty293, trivial, trivial⟩, trivial⟩, ⟨tiOf_ok ty297, ⟨tiOf_ok ty296, trivial, trivial⟩, trivial⟩⟩⟩⟩, ⟨tiOf_ok ty310, ⟨tiOf_ok ty304, ⟨tiOf_ok ty301, ⟨tiOf_ok ty300, ⟨tiOf_ok ty299, trivial, trivial⟩, trivial⟩, ⟨tiOf_ok ty303, ⟨tiOf_ok ty302, trivial, trivial⟩, trivial⟩⟩, ⟨tiOf_ok ty307, ⟨tiOf_ok ty306, ⟨tiOf_ok ty305, trivial, trivial⟩, trivial⟩, ⟨tiOf_ok ty309, ⟨tiOf_ok ty308, trivial, trivial⟩, trivial⟩⟩⟩, ⟨tiOf_ok ty316, ⟨tiOf_ok ty313, ⟨tiOf_ok ty312, ⟨tiOf_ok ty311, trivial, trivial⟩, trivial⟩, ⟨tiOf_ok ty315, ⟨tiOf_ok ty314, trivial, trivial⟩, trivial⟩⟩, ⟨tiOf_ok ty319, ⟨tiOf_ok ty318, ⟨tiOf_ok ty317, trivial, trivial⟩, trivial⟩, ⟨tiOf_ok ty321, ⟨tiOf_ok ty320, trivial, trivial⟩, trivial⟩⟩⟩⟩⟩⟩, ⟨tiOf_ok ty380, ⟨tiOf_ok ty352, ⟨tiOf_ok ty338, ⟨tiOf_ok ty331, ⟨tiOf_ok ty326, ⟨tiOf_ok ty324, ⟨tiOf_ok ty323, trivial, trivial⟩, ⟨tiOf_ok ty325, trivial, trivial⟩⟩, ⟨tiOf_ok ty329, ⟨tiOf_ok ty327, trivial, trivial⟩, trivial⟩⟩, ⟨tiOf_ok ty334, ⟨tiOf_ok ty333, ⟨tiOf_ok ty332, trivial, trivial⟩, trivial⟩, ⟨tiOf_ok ty337, ⟨tiOf_ok ty335, trivial, trivial⟩, trivial⟩⟩⟩, ⟨tiOf_ok ty344, ⟨tiOf_ok ty341, ⟨tiOf_ok ty340, ⟨tiOf_ok ty339, trivial, trivial⟩, trivial⟩, ⟨tiOf_ok ty343, ⟨tiOf_ok ty342, trivial, trivial⟩, trivial⟩⟩, ⟨tiOf_ok ty349, ⟨tiOf_ok ty346, ⟨tiOf_ok ty345, trivial, trivial⟩, trivial⟩, ⟨tiOf_ok ty351, ⟨tiOf_ok ty350, trivial, trivial⟩, trivial⟩⟩⟩⟩, ⟨tiOf_ok ty364, ⟨tiOf_ok ty358, ⟨tiOf_ok ty355, ⟨tiOf_ok ty354, ⟨tiOf_ok ty353, trivial, trivial⟩, trivial⟩, ⟨tiOf_ok ty357, ⟨tiOf_ok ty356, trivial, trivial⟩, trivial⟩⟩, ⟨tiOf_ok ty361, ⟨tiOf_ok ty360, ⟨tiOf_ok ty359, trivial, trivial⟩, trivial⟩, ⟨tiOf_ok ty363, ⟨tiOf_ok ty362, trivial, trivial⟩, trivial⟩⟩⟩, ⟨tiOf_ok ty373, ⟨tiOf_ok ty369, ⟨tiOf_ok ty366, ⟨tiOf_ok ty365, trivial, trivial⟩, trivial⟩, ⟨tiOf_ok ty372, ⟨tiOf_ok ty370, trivial, trivial⟩, trivial⟩⟩, ⟨tiOf_ok ty377, ⟨tiOf_ok ty375, ⟨tiOf_ok ty374, trivial, trivial⟩, trivial⟩, ⟨tiOf_ok ty379, ⟨tiOf_ok ty378, trivial, trivial⟩, trivial⟩⟩⟩⟩⟩, ⟨tiOf_ok ty408, ⟨tiOf_ok ty396, ⟨tiOf_ok ty387, ⟨tiOf_ok ty384, ⟨tiOf_ok ty382, ⟨tiOf_ok ty381, trivial, trivial⟩, ⟨tiOf_ok ty383, trivial, trivial⟩⟩, ⟨tiOf_ok ty386, ⟨tiOf_ok ty385, trivial, trivial⟩, trivial⟩⟩, ⟨tiOf_ok ty393, ⟨tiOf_ok ty392, ⟨tiOf_ok ty391, trivial, trivial⟩, trivial⟩, ⟨tiOf_ok ty395, ⟨tiOf_ok ty394, trivial, trivial⟩, trivial⟩⟩⟩, ⟨tiOf_ok ty402, ⟨tiOf_ok ty399, ⟨tiOf_ok ty398, ⟨tiOf_ok ty397, trivial, trivial⟩, trivial⟩, ⟨tiOf_ok ty401, ⟨tiOf_ok ty400, trivial, trivial⟩, trivial⟩⟩, ⟨tiOf_ok ty405, ⟨tiOf_ok ty404, ⟨tiOf_ok ty403, trivial, trivial⟩, trivial⟩, ⟨tiOf_ok ty407, ⟨tiOf_ok ty406, trivial, trivial⟩, trivial⟩⟩⟩⟩, ⟨tiOf_ok ty422, ⟨tiOf_ok ty415, ⟨tiOf_ok ty411, ⟨tiOf_ok ty410, ⟨tiOf_ok ty409, trivial, trivial⟩, trivial⟩, ⟨tiOf_ok ty413, ⟨tiOf_ok ty412, trivial, trivial⟩, trivial⟩⟩, ⟨tiOf_ok ty419, ⟨tiOf_ok ty417, ⟨tiOf_ok ty416, trivial, trivial⟩, trivial⟩, ⟨tiOf_ok ty421, ⟨tiOf_ok ty420, trivial, trivial⟩, trivial⟩⟩⟩, ⟨tiOf_ok ty432, ⟨tiOf_ok ty426, ⟨tiOf_ok ty424, ⟨tiOf_ok ty423, trivial, trivial⟩, trivial⟩, ⟨tiOf_ok ty428, ⟨tiOf_ok ty427, trivial, trivial⟩, trivial⟩⟩, ⟨tiOf_ok ty435, ⟨tiOf_ok ty434, ⟨tiOf_ok ty433, trivial, trivial⟩, trivial⟩, ⟨tiOf_ok ty437, ⟨tiOf_ok ty436, trivial, trivial⟩, trivial⟩⟩⟩⟩⟩⟩⟩⟩
theorem mixed_ok : Tryz.prog.follows .mixedOrders = true := by kernel_rfl
end Go.Eng
