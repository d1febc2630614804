/-
  Texts of this proof, part 7: Tab Tv Tsm Ty Tex NamePlain Tka Ab44.
-/
import Derived.Test.YtnkafjkcjpajgaaQLockAnew6
import Derived.Lib.MinMax
import Derived.Shelf.SlIter.Nil
import Derived.Shelf.SortM.Plain
import Derived.Shelf.SortM.SortNone
import Derived.Sort.Walk0
import Derived.Test.YtnkafjkcjpajgaaProg
namespace Go.Proofs.Ytnkafjkcjpajgaa
set_option maxRecDepth 100000 in
def tab : Tab :=
  (.node 139 ⟨2, 40, [.string ⟨#[]⟩, .slice none 0 0], (.struct [(0, 1), (1, 1)])⟩ (.node 70 ⟨1, 24, [.slice none 0 0], (.slice 73)⟩ (.node 36 ⟨1, 8, [.nilFunc], .other⟩ (.node 17 ⟨1, 8, [.pointer none], .other⟩ (.node 9 ⟨1, 16, [.string ⟨#[]⟩], .string⟩ (.node 5 ⟨1, 1, [.int .u8 0], (.int .u8)⟩ (.node 3 ⟨1, 8, [.int .i64 0], (.int .i64)⟩ (.node 2 ⟨1, 8, [.int .i64 0], (.int .i64)⟩ (.node 1 ⟨1, 8, [.nilFunc], .other⟩ .nil .nil) .nil) (.node 4 ⟨1, 1, [.bool false], .bool⟩ .nil .nil)) (.node 7 ⟨4, 24, [.int .i64 0, .int .i64 0, .bool false, .int .u8 0], (.struct [(0, 1), (1, 1), (2, 1), (3, 1)])⟩ (.node 6 ⟨1, 1, [.int .u8 0], (.int .u8)⟩ .nil .nil) (.node 8 ⟨4, 24, [.int .i64 0, .int .i64 0, .bool false, .int .u8 0], (.struct [(0, 1), (1, 1), (2, 1), (3, 1)])⟩ .nil .nil))) (.node 13 ⟨2, 24, [.string ⟨#[]⟩, .int .u64 0], (.struct [(0, 1), (1, 1)])⟩ (.node 11 ⟨1, 16, [.string ⟨#[]⟩], .string⟩ (.node 10 ⟨1, 16, [.string ⟨#[]⟩], .string⟩ .nil .nil) (.node 12 ⟨1, 8, [.int .u64 0], (.int .u64)⟩ .nil .nil)) (.node 15 ⟨1, 8, [.pointer none], .other⟩ (.node 14 ⟨2, 24, [.string ⟨#[]⟩, .int .u64 0], (.struct [(0, 1), (1, 1)])⟩ .nil .nil) (.node 16 ⟨1, 8, [.pointer none], .other⟩ .nil .nil)))) (.node 26 ⟨1, 24, [.slice none 0 0], (.slice 89)⟩ (.node 21 ⟨1, 4, [.int .i32 0], (.int .i32)⟩ (.node 19 ⟨1, 8, [.pointer none], (.struct [(0, 1)])⟩ (.node 18 ⟨1, 8, [.pointer none], (.struct [(0, 1)])⟩ .nil .nil) (.node 20 ⟨1, 16, [.nilIface], .other⟩ .nil .nil)) (.node 23 ⟨1, 8, [.int .i64 0], (.int .i64)⟩ (.node 22 ⟨1, 24, [.slice none 0 0], (.slice 32)⟩ .nil .nil) (.node 25 ⟨1, 8, [.nilFunc], .other⟩ .nil .nil))) (.node 31 ⟨2, 16, [.int .i64 0, .int .i64 0], (.struct [(0, 1), (1, 1)])⟩ (.node 29 ⟨1, 8, [.nilFunc], .other⟩ (.node 28 ⟨1, 8, [.nilFunc], .other⟩ .nil .nil) (.node 30 ⟨1, 8, [.nilFunc], .other⟩ .nil .nil)) (.node 33 ⟨1, 8, [.nilFunc], .other⟩ (.node 32 ⟨2, 16, [.int .i64 0, .int .i64 0], (.struct [(0, 1), (1, 1)])⟩ .nil .nil) (.node 34 ⟨1, 8, [.nilFunc], .other⟩ .nil .nil))))) (.node 54 ⟨1, 8, [.nilFunc], .other⟩ (.node 45 ⟨2, 24, [.string ⟨#[]⟩, .int .i64 0], (.struct [(0, 1), (1, 1)])⟩ (.node 40 ⟨1, 8, [.nilFunc], .other⟩ (.node 38 ⟨1, 8, [.nilFunc], .other⟩ (.node 37 ⟨1, 8, [.nilFunc], .other⟩ .nil .nil) (.node 39 ⟨1, 8, [.nilFunc], .other⟩ .nil .nil)) (.node 42 ⟨1, 24, [.slice none 0 0], (.slice 49)⟩ (.node 41 ⟨1, 24, [.slice none 0 0], (.slice 46)⟩ .nil .nil) (.node 44 ⟨1, 8, [.nilFunc], .other⟩ .nil .nil))) (.node 49 ⟨3, 32, [.string ⟨#[]⟩, .int .i64 0, .int .i64 0], (.struct [(0, 1), (1, 1), (2, 1)])⟩ (.node 47 ⟨1, 8, [.nilFunc], .other⟩ (.node 46 ⟨2, 24, [.string ⟨#[]⟩, .int .i64 0], (.struct [(0, 1), (1, 1)])⟩ .nil .nil) (.node 48 ⟨3, 32, [.string ⟨#[]⟩, .int .i64 0, .int .i64 0], (.struct [(0, 1), (1, 1), (2, 1)])⟩ .nil .nil)) (.node 51 ⟨1, 24, [.slice none 0 0], (.slice 113)⟩ (.node 50 ⟨1, 8, [.nilFunc], .other⟩ .nil .nil) (.node 52 ⟨1, 24, [.slice none 0 0], (.slice 118)⟩ .nil .nil)))) (.node 62 ⟨1, 24, [.slice none 0 0], (.slice 142)⟩ (.node 58 ⟨1, 8, [.nilFunc], .other⟩ (.node 56 ⟨1, 8, [.nilFunc], .other⟩ (.node 55 ⟨1, 8, [.nilFunc], .other⟩ .nil .nil) (.node 57 ⟨1, 24, [.slice none 0 0], (.slice 9)⟩ .nil .nil)) (.node 60 ⟨1, 24, [.slice none 0 0], (.slice 135)⟩ (.node 59 ⟨1, 8, [.nilFunc], .other⟩ .nil .nil) (.node 61 ⟨1, 24, [.slice none 0 0], (.slice 140)⟩ .nil .nil))) (.node 66 ⟨8, 168, [.string ⟨#[]⟩, .int .i64 0, .slice none 0 0, .slice none 0 0, .slice none 0 0, .slice none 0 0, .slice none 0 0, .slice none 0 0], (.struct [(0, 1), (1, 1), (2, 1), (3, 1), (4, 1), (5, 1), (6, 1), (7, 1)])⟩ (.node 64 ⟨1, 24, [.slice none 0 0], (.slice 75)⟩ (.node 63 ⟨1, 24, [.slice none 0 0], (.slice 183)⟩ .nil .nil) (.node 65 ⟨8, 168, [.string ⟨#[]⟩, .int .i64 0, .slice none 0 0, .slice none 0 0, .slice none 0 0, .slice none 0 0, .slice none 0 0, .slice none 0 0], (.struct [(0, 1), (1, 1), (2, 1), (3, 1), (4, 1), (5, 1), (6, 1), (7, 1)])⟩ .nil .nil)) (.node 68 ⟨3, 48, [.int .i64 0, .string ⟨#[]⟩, .slice none 0 0], (.struct [(0, 1), (1, 1), (2, 1)])⟩ (.node 67 ⟨1, 24, [.slice none 0 0], (.slice 69)⟩ .nil .nil) (.node 69 ⟨3, 48, [.int .i64 0, .string ⟨#[]⟩, .slice none 0 0], (.struct [(0, 1), (1, 1), (2, 1)])⟩ .nil .nil)))))) (.node 104 ⟨1, 8, [.nilFunc], .other⟩ (.node 88 ⟨1, 8, [.nilFunc], .other⟩ (.node 80 ⟨1, 8, [.nilFunc], .other⟩ (.node 75 ⟨14, 248, [.string ⟨#[]⟩, .slice none 0 0, .slice none 0 0, .int .i64 0, .string ⟨#[]⟩, .slice none 0 0, .int .i64 0, .int .i64 0, .string ⟨#[]⟩, .slice none 0 0, .slice none 0 0, .slice none 0 0, .slice none 0 0, .int .i64 0], (.struct [(0, 1), (1, 1), (2, 1), (3, 3), (6, 8)])⟩ (.node 73 ⟨8, 136, [.int .i64 0, .int .i64 0, .string ⟨#[]⟩, .slice none 0 0, .slice none 0 0, .slice none 0 0, .slice none 0 0, .int .i64 0], (.struct [(0, 1), (1, 1), (2, 1), (3, 1), (4, 1), (5, 1), (6, 1), (7, 1)])⟩ (.node 72 ⟨8, 136, [.int .i64 0, .int .i64 0, .string ⟨#[]⟩, .slice none 0 0, .slice none 0 0, .slice none 0 0, .slice none 0 0, .int .i64 0], (.struct [(0, 1), (1, 1), (2, 1), (3, 1), (4, 1), (5, 1), (6, 1), (7, 1)])⟩ (.node 71 ⟨1, 24, [.slice none 0 0], (.slice 188)⟩ .nil .nil) .nil) (.node 74 ⟨14, 248, [.string ⟨#[]⟩, .slice none 0 0, .slice none 0 0, .int .i64 0, .string ⟨#[]⟩, .slice none 0 0, .int .i64 0, .int .i64 0, .string ⟨#[]⟩, .slice none 0 0, .slice none 0 0, .slice none 0 0, .slice none 0 0, .int .i64 0], (.struct [(0, 1), (1, 1), (2, 1), (3, 3), (6, 8)])⟩ .nil .nil)) (.node 77 ⟨1, 24, [.slice none 0 0], (.struct [(0, 1)])⟩ (.node 76 ⟨1, 24, [.slice none 0 0], (.slice 129)⟩ .nil .nil) (.node 78 ⟨1, 24, [.slice none 0 0], (.struct [(0, 1)])⟩ .nil .nil))) (.node 84 ⟨1, 8, [.nilFunc], .other⟩ (.node 82 ⟨1, 8, [.nilFunc], .other⟩ (.node 81 ⟨1, 8, [.nilFunc], .other⟩ .nil .nil) (.node 83 ⟨1, 8, [.nilFunc], .other⟩ .nil .nil)) (.node 86 ⟨1, 8, [.nilFunc], .other⟩ (.node 85 ⟨1, 8, [.nilFunc], .other⟩ .nil .nil) (.node 87 ⟨1, 8, [.nilFunc], .other⟩ .nil .nil)))) (.node 96 ⟨1, 8, [.nilFunc], .other⟩ (.node 92 ⟨1, 8, [.nilFunc], .other⟩ (.node 90 ⟨1, 24, [.slice none 0 0], (.slice 4)⟩ (.node 89 ⟨2, 16, [.int .i64 0, .int .i64 0], (.array 2 3)⟩ .nil .nil) (.node 91 ⟨1, 8, [.nilFunc], .other⟩ .nil .nil)) (.node 94 ⟨1, 8, [.nilFunc], .other⟩ (.node 93 ⟨1, 8, [.nilFunc], .other⟩ .nil .nil) (.node 95 ⟨1, 8, [.nilFunc], .other⟩ .nil .nil))) (.node 100 ⟨1, 8, [.nilFunc], .other⟩ (.node 98 ⟨1, 8, [.nilFunc], .other⟩ (.node 97 ⟨1, 8, [.map none], .other⟩ .nil .nil) (.node 99 ⟨1, 8, [.nilFunc], .other⟩ .nil .nil)) (.node 102 ⟨1, 8, [.nilFunc], .other⟩ (.node 101 ⟨1, 8, [.nilFunc], .other⟩ .nil .nil) (.node 103 ⟨1, 8, [.map none], .other⟩ .nil .nil))))) (.node 121 ⟨1, 8, [.nilFunc], .other⟩ (.node 112 ⟨3, 48, [.string ⟨#[]⟩, .int .i64 0, .slice none 0 0], (.struct [(0, 1), (1, 1), (2, 1)])⟩ (.node 108 ⟨1, 8, [.map none], .other⟩ (.node 106 ⟨1, 8, [.nilFunc], .other⟩ (.node 105 ⟨1, 8, [.nilFunc], .other⟩ .nil .nil) (.node 107 ⟨1, 8, [.pointer none], .other⟩ .nil .nil)) (.node 110 ⟨4, 80, [.slice none 0 0, .slice none 0 0, .map none, .slice none 0 0], (.struct [(0, 1), (1, 1), (2, 1), (3, 1)])⟩ (.node 109 ⟨4, 80, [.slice none 0 0, .slice none 0 0, .map none, .slice none 0 0], (.struct [(0, 1), (1, 1), (2, 1), (3, 1)])⟩ .nil .nil) (.node 111 ⟨1, 8, [.nilFunc], .other⟩ .nil .nil))) (.node 117 ⟨3, 32, [.string ⟨#[]⟩, .int .i64 0, .int .i64 0], (.struct [(0, 1), (1, 1), (2, 1)])⟩ (.node 115 ⟨1, 8, [.nilFunc], .other⟩ (.node 113 ⟨3, 48, [.string ⟨#[]⟩, .int .i64 0, .slice none 0 0], (.struct [(0, 1), (1, 1), (2, 1)])⟩ .nil .nil) (.node 116 ⟨1, 8, [.pointer none], .other⟩ .nil .nil)) (.node 119 ⟨1, 8, [.nilFunc], .other⟩ (.node 118 ⟨3, 32, [.string ⟨#[]⟩, .int .i64 0, .int .i64 0], (.struct [(0, 1), (1, 1), (2, 1)])⟩ .nil .nil) (.node 120 ⟨1, 8, [.nilFunc], .other⟩ .nil .nil)))) (.node 131 ⟨1, 8, [.nilFunc], .other⟩ (.node 126 ⟨1, 24, [.slice none 0 0], (.slice 150)⟩ (.node 124 ⟨1, 8, [.nilFunc], .other⟩ (.node 122 ⟨1, 8, [.nilFunc], .other⟩ .nil .nil) (.node 125 ⟨1, 8, [.nilFunc], .other⟩ .nil .nil)) (.node 128 ⟨4, 72, [.string ⟨#[]⟩, .int .i64 0, .slice none 0 0, .slice none 0 0], (.struct [(0, 1), (1, 1), (2, 1), (3, 1)])⟩ (.node 127 ⟨1, 24, [.slice none 0 0], (.slice 3)⟩ .nil .nil) (.node 129 ⟨4, 72, [.string ⟨#[]⟩, .int .i64 0, .slice none 0 0, .slice none 0 0], (.struct [(0, 1), (1, 1), (2, 1), (3, 1)])⟩ .nil .nil))) (.node 135 ⟨3, 64, [.string ⟨#[]⟩, .slice none 0 0, .slice none 0 0], (.struct [(0, 1), (1, 1), (2, 1)])⟩ (.node 133 ⟨1, 24, [.slice none 0 0], (.slice 137)⟩ (.node 132 ⟨1, 8, [.nilFunc], .other⟩ .nil .nil) (.node 134 ⟨3, 64, [.string ⟨#[]⟩, .slice none 0 0, .slice none 0 0], (.struct [(0, 1), (1, 1), (2, 1)])⟩ .nil .nil)) (.node 137 ⟨2, 40, [.string ⟨#[]⟩, .slice none 0 0], (.struct [(0, 1), (1, 1)])⟩ (.node 136 ⟨2, 40, [.string ⟨#[]⟩, .slice none 0 0], (.struct [(0, 1), (1, 1)])⟩ .nil .nil) (.node 138 ⟨1, 8, [.nilFunc], .other⟩ .nil .nil))))))) (.node 210 ⟨1, 24, [.slice none 0 0], (.slice 52)⟩ (.node 175 ⟨1, 8, [.nilFunc], .other⟩ (.node 157 ⟨1, 8, [.nilFunc], .other⟩ (.node 148 ⟨4, 56, [.int .i64 0, .int .i64 0, .string ⟨#[]⟩, .slice none 0 0], (.struct [(0, 1), (1, 1), (2, 1), (3, 1)])⟩ (.node 144 ⟨1, 8, [.nilFunc], .other⟩ (.node 142 ⟨3, 56, [.string ⟨#[]⟩, .string ⟨#[]⟩, .slice none 0 0], (.struct [(0, 1), (1, 1), (2, 1)])⟩ (.node 141 ⟨3, 56, [.string ⟨#[]⟩, .string ⟨#[]⟩, .slice none 0 0], (.struct [(0, 1), (1, 1), (2, 1)])⟩ (.node 140 ⟨2, 40, [.string ⟨#[]⟩, .slice none 0 0], (.struct [(0, 1), (1, 1)])⟩ .nil .nil) .nil) (.node 143 ⟨1, 8, [.nilFunc], .other⟩ .nil .nil)) (.node 146 ⟨1, 24, [.slice none 0 0], (.slice 148)⟩ (.node 145 ⟨1, 8, [.map none], .other⟩ .nil .nil) (.node 147 ⟨4, 56, [.int .i64 0, .int .i64 0, .string ⟨#[]⟩, .slice none 0 0], (.struct [(0, 1), (1, 1), (2, 1), (3, 1)])⟩ .nil .nil))) (.node 153 ⟨1, 8, [.nilFunc], .other⟩ (.node 150 ⟨5, 64, [.int .i64 0, .int .i64 0, .int .i64 0, .string ⟨#[]⟩, .slice none 0 0], (.struct [(0, 1), (1, 4)])⟩ (.node 149 ⟨5, 64, [.int .i64 0, .int .i64 0, .int .i64 0, .string ⟨#[]⟩, .slice none 0 0], (.struct [(0, 1), (1, 4)])⟩ .nil .nil) (.node 152 ⟨1, 8, [.nilFunc], .other⟩ .nil .nil)) (.node 155 ⟨1, 8, [.nilFunc], .other⟩ (.node 154 ⟨1, 8, [.nilFunc], .other⟩ .nil .nil) (.node 156 ⟨1, 8, [.nilFunc], .other⟩ .nil .nil)))) (.node 165 ⟨1, 8, [.nilFunc], .other⟩ (.node 161 ⟨1, 8, [.nilFunc], .other⟩ (.node 159 ⟨1, 8, [.nilFunc], .other⟩ (.node 158 ⟨1, 8, [.nilFunc], .other⟩ .nil .nil) (.node 160 ⟨1, 8, [.nilFunc], .other⟩ .nil .nil)) (.node 163 ⟨1, 24, [.slice none 0 0], (.slice 22)⟩ (.node 162 ⟨1, 8, [.int .u64 0], (.int .u64)⟩ .nil .nil) (.node 164 ⟨1, 8, [.nilFunc], .other⟩ .nil .nil))) (.node 170 ⟨1, 8, [.nilFunc], .other⟩ (.node 167 ⟨1, 8, [.nilFunc], .other⟩ (.node 166 ⟨1, 8, [.nilFunc], .other⟩ .nil .nil) (.node 168 ⟨1, 8, [.nilFunc], .other⟩ .nil .nil)) (.node 172 ⟨1, 8, [.nilFunc], .other⟩ (.node 171 ⟨1, 8, [.nilFunc], .other⟩ .nil .nil) (.node 174 ⟨1, 8, [.nilFunc], .other⟩ .nil .nil))))) (.node 192 ⟨1, 8, [.nilFunc], .other⟩ (.node 183 ⟨15, 272, [.string ⟨#[]⟩, .slice none 0 0, .slice none 0 0, .slice none 0 0, .int .i64 0, .string ⟨#[]⟩, .slice none 0 0, .int .i64 0, .int .i64 0, .string ⟨#[]⟩, .slice none 0 0, .slice none 0 0, .slice none 0 0, .slice none 0 0, .int .i64 0], (.struct [(0, 1), (1, 1), (2, 1), (3, 1), (4, 3), (7, 8)])⟩ (.node 179 ⟨17, 344, [.string ⟨#[]⟩, .int .i64 0, .slice none 0 0, .slice none 0 0, .slice none 0 0, .slice none 0 0, .slice none 0 0, .slice none 0 0, .string ⟨#[]⟩, .int .i64 0, .slice none 0 0, .slice none 0 0, .slice none 0 0, .slice none 0 0, .slice none 0 0, .slice none 0 0, .map none], (.struct [(0, 8), (8, 8), (16, 1)])⟩ (.node 177 ⟨1, 8, [.pointer none], .other⟩ (.node 176 ⟨1, 8, [.nilFunc], .other⟩ .nil .nil) (.node 178 ⟨1, 8, [.map none], .other⟩ .nil .nil)) (.node 181 ⟨1, 8, [.nilFunc], .other⟩ (.node 180 ⟨17, 344, [.string ⟨#[]⟩, .int .i64 0, .slice none 0 0, .slice none 0 0, .slice none 0 0, .slice none 0 0, .slice none 0 0, .slice none 0 0, .string ⟨#[]⟩, .int .i64 0, .slice none 0 0, .slice none 0 0, .slice none 0 0, .slice none 0 0, .slice none 0 0, .slice none 0 0, .map none], (.struct [(0, 8), (8, 8), (16, 1)])⟩ .nil .nil) (.node 182 ⟨15, 272, [.string ⟨#[]⟩, .slice none 0 0, .slice none 0 0, .slice none 0 0, .int .i64 0, .string ⟨#[]⟩, .slice none 0 0, .int .i64 0, .int .i64 0, .string ⟨#[]⟩, .slice none 0 0, .slice none 0 0, .slice none 0 0, .slice none 0 0, .int .i64 0], (.struct [(0, 1), (1, 1), (2, 1), (3, 1), (4, 3), (7, 8)])⟩ .nil .nil))) (.node 187 ⟨12, 192, [.int .i64 0, .int .i64 0, .string ⟨#[]⟩, .slice none 0 0, .int .i64 0, .int .i64 0, .string ⟨#[]⟩, .slice none 0 0, .slice none 0 0, .slice none 0 0, .slice none 0 0, .int .i64 0], (.struct [(0, 4), (4, 8)])⟩ (.node 185 ⟨4, 56, [.int .i64 0, .int .i64 0, .string ⟨#[]⟩, .slice none 0 0], (.struct [(0, 1), (1, 1), (2, 1), (3, 1)])⟩ (.node 184 ⟨1, 24, [.slice none 0 0], (.slice 186)⟩ .nil .nil) (.node 186 ⟨4, 56, [.int .i64 0, .int .i64 0, .string ⟨#[]⟩, .slice none 0 0], (.struct [(0, 1), (1, 1), (2, 1), (3, 1)])⟩ .nil .nil)) (.node 189 ⟨1, 8, [.nilFunc], .other⟩ (.node 188 ⟨12, 192, [.int .i64 0, .int .i64 0, .string ⟨#[]⟩, .slice none 0 0, .int .i64 0, .int .i64 0, .string ⟨#[]⟩, .slice none 0 0, .slice none 0 0, .slice none 0 0, .slice none 0 0, .int .i64 0], (.struct [(0, 4), (4, 8)])⟩ .nil .nil) (.node 190 ⟨1, 8, [.nilFunc], .other⟩ .nil .nil)))) (.node 201 ⟨1, 8, [.nilFunc], .other⟩ (.node 197 ⟨1, 8, [.nilFunc], .other⟩ (.node 194 ⟨1, 8, [.nilFunc], .other⟩ (.node 193 ⟨1, 8, [.nilFunc], .other⟩ .nil .nil) (.node 195 ⟨1, 8, [.int .i64 0], (.int .i64)⟩ .nil .nil)) (.node 199 ⟨1, 8, [.nilFunc], .other⟩ (.node 198 ⟨1, 8, [.nilFunc], .other⟩ .nil .nil) (.node 200 ⟨1, 8, [.nilFunc], .other⟩ .nil .nil))) (.node 205 ⟨1, 8, [.nilFunc], .other⟩ (.node 203 ⟨1, 8, [.nilFunc], .other⟩ (.node 202 ⟨1, 4, [.int .u32 0], (.int .u32)⟩ .nil .nil) (.node 204 ⟨1, 8, [.int .u64 0], (.int .u64)⟩ .nil .nil)) (.node 207 ⟨1, 24, [.slice none 0 0], (.slice 5)⟩ (.node 206 ⟨1, 8, [.nilFunc], .other⟩ .nil .nil) (.node 209 ⟨1, 8, [.nilFunc], .other⟩ .nil .nil)))))) (.node 245 ⟨1, 8, [.nilFunc], .other⟩ (.node 228 ⟨1, 8, [.nilFunc], .other⟩ (.node 220 ⟨1, 8, [.nilFunc], .other⟩ (.node 215 ⟨1, 8, [.nilFunc], .other⟩ (.node 213 ⟨1, 8, [.nilFunc], .other⟩ (.node 212 ⟨1, 8, [.nilFunc], .other⟩ (.node 211 ⟨1, 8, [.nilFunc], .other⟩ .nil .nil) .nil) (.node 214 ⟨1, 8, [.nilFunc], .other⟩ .nil .nil)) (.node 217 ⟨1, 8, [.nilFunc], .other⟩ (.node 216 ⟨1, 8, [.nilFunc], .other⟩ .nil .nil) (.node 218 ⟨1, 8, [.pointer none], .other⟩ .nil .nil))) (.node 224 ⟨1, 8, [.nilFunc], .other⟩ (.node 222 ⟨3, 56, [.slice none 0 0, .slice none 0 0, .pointer none], (.struct [(0, 1), (1, 1), (2, 1)])⟩ (.node 221 ⟨3, 56, [.slice none 0 0, .slice none 0 0, .pointer none], (.struct [(0, 1), (1, 1), (2, 1)])⟩ .nil .nil) (.node 223 ⟨1, 8, [.int .u64 0], (.int .u64)⟩ .nil .nil)) (.node 226 ⟨1, 8, [.nilFunc], .other⟩ (.node 225 ⟨1, 8, [.nilFunc], .other⟩ .nil .nil) (.node 227 ⟨1, 8, [.nilFunc], .other⟩ .nil .nil)))) (.node 236 ⟨1, 8, [.nilFunc], .other⟩ (.node 232 ⟨1, 8, [.nilFunc], .other⟩ (.node 230 ⟨1, 8, [.nilFunc], .other⟩ (.node 229 ⟨1, 8, [.nilFunc], .other⟩ .nil .nil) (.node 231 ⟨1, 8, [.nilFunc], .other⟩ .nil .nil)) (.node 234 ⟨1, 8, [.nilFunc], .other⟩ (.node 233 ⟨1, 8, [.nilFunc], .other⟩ .nil .nil) (.node 235 ⟨1, 8, [.nilFunc], .other⟩ .nil .nil))) (.node 241 ⟨1, 8, [.nilFunc], .other⟩ (.node 238 ⟨1, 8, [.nilFunc], .other⟩ (.node 237 ⟨1, 8, [.nilFunc], .other⟩ .nil .nil) (.node 239 ⟨1, 8, [.nilFunc], .other⟩ .nil .nil)) (.node 243 ⟨1, 8, [.nilFunc], .other⟩ (.node 242 ⟨1, 8, [.nilFunc], .other⟩ .nil .nil) (.node 244 ⟨1, 8, [.nilFunc], .other⟩ .nil .nil))))) (.node 265 ⟨1, 8, [.nilFunc], .other⟩ (.node 256 ⟨1, 8, [.pointer none], .other⟩ (.node 251 ⟨1, 8, [.nilFunc], .other⟩ (.node 248 ⟨1, 8, [.nilFunc], .other⟩ (.node 246 ⟨1, 8, [.pointer none], .other⟩ .nil .nil) (.node 249 ⟨1, 8, [.nilFunc], .other⟩ .nil .nil)) (.node 254 ⟨1, 8, [.nilFunc], .other⟩ (.node 253 ⟨1, 8, [.nilFunc], .other⟩ .nil .nil) (.node 255 ⟨1, 8, [.nilFunc], .other⟩ .nil .nil))) (.node 261 ⟨1, 8, [.nilFunc], .other⟩ (.node 259 ⟨1, 8, [.nilFunc], .other⟩ (.node 258 ⟨1, 8, [.nilFunc], .other⟩ .nil .nil) (.node 260 ⟨1, 8, [.nilFunc], .other⟩ .nil .nil)) (.node 263 ⟨3, 56, [.slice none 0 0, .slice none 0 0, .pointer none], (.struct [(0, 1), (1, 1), (2, 1)])⟩ (.node 262 ⟨3, 56, [.slice none 0 0, .slice none 0 0, .pointer none], (.struct [(0, 1), (1, 1), (2, 1)])⟩ .nil .nil) (.node 264 ⟨1, 8, [.nilFunc], .other⟩ .nil .nil)))) (.node 273 ⟨1, 1, [.int .u8 0], (.int .u8)⟩ (.node 269 ⟨0, 0, [], (.array 0 16)⟩ (.node 267 ⟨4, 40, [.pointer none, .pointer none, .pointer none, .string ⟨#[]⟩], (.struct [(0, 1), (1, 1), (2, 1), (3, 1)])⟩ (.node 266 ⟨1, 8, [.nilFunc], .other⟩ .nil .nil) (.node 268 ⟨4, 40, [.pointer none, .pointer none, .pointer none, .string ⟨#[]⟩], (.struct [(0, 1), (1, 1), (2, 1), (3, 1)])⟩ .nil .nil)) (.node 271 ⟨0, 0, [], (.struct [(0, 0)])⟩ (.node 270 ⟨0, 0, [], (.struct [(0, 0)])⟩ .nil .nil) (.node 272 ⟨1, 8, [.nilFunc], .other⟩ .nil .nil))) (.node 277 ⟨1, 4, [.int .i32 0], (.int .i32)⟩ (.node 275 ⟨1, 8, [.nilFunc], .other⟩ (.node 274 ⟨1, 1, [.int .u8 0], (.int .u8)⟩ .nil .nil) (.node 276 ⟨1, 8, [.pointer none], .other⟩ .nil .nil)) (.node 279 ⟨11, 48, [.int .u64 0, .int .u64 0, .int .u32 0, .int .u8 0, .int .u8 0, .int .u8 0, .int .u8 0, .nilFunc, .pointer none, .int .i32 0, .int .i32 0], (.struct [(0, 1), (1, 1), (2, 1), (3, 1), (4, 1), (5, 1), (6, 1), (7, 1), (8, 1), (9, 1), (10, 1)])⟩ (.node 278 ⟨1, 4, [.int .i32 0], (.int .i32)⟩ .nil .nil) (.node 280 ⟨11, 48, [.int .u64 0, .int .u64 0, .int .u32 0, .int .u8 0, .int .u8 0, .int .u8 0, .int .u8 0, .nilFunc, .pointer none, .int .i32 0, .int .i32 0], (.struct [(0, 1), (1, 1), (2, 1), (3, 1), (4, 1), (5, 1), (6, 1), (7, 1), (8, 1), (9, 1), (10, 1)])⟩ .nil .nil))))))))
set_option maxRecDepth 100000 in
theorem tabOkB : tab.okB Try.prog = true := by kernel_rfl
theorem tok : TabOk Try.prog tab := tab_ok tabOkB
end Go.Proofs.Ytnkafjkcjpajgaa
namespace Go.Proofs.Ytnkafjkcjpajgaa
open Go.RowKit
inductive V where
  | mk (kind num : Int) (text : ByteArray) (args : List V)
mutual
def V.ts : V → List T
  | .mk k n t l => [.lit (.int .i64 k), .lit (.int .i64 n), .lit (.string t), .row l.length 4 (V.all l)]
def V.all : List V → List T
  | [] => []
  | v :: r => v.ts ++ V.all r
end
theorem V.all_eq : ∀ l : List V, V.all l = l.flatMap V.ts
  | [] => rfl
  | v :: l => by rw [V.all, V.all_eq l]; rfl
theorem V.ts_len : ∀ v : V, v.ts.length = 4
  | .mk _ _ _ _ => rfl
def V.row (l : List V) : T := .row l.length 4 (V.all l)
def V.t (v : V) : T := .agg v.ts
mutual
def V.same : V → V → Bool
  | .mk k n t l, .mk k' n' t' l' => decide (k = k') && decide (n = n') && decide (t = t') && V.sames l l'
def V.sames : List V → List V → Bool
  | [], [] => true
  | v :: l, v' :: l' => v.same v' && V.sames l l'
  | _, _ => false
end
theorem V.at {l : List V} {k : Nat} {v : V} (h : l[k]? = some v) : ((V.all l).drop (k * 4)).take 4 = v.ts := by rw [V.all_eq]; exact flat_at V.ts 4 V.ts_len h
mutual
def V.size : V → Nat
  | .mk _ _ _ l => V.sizes l + 1
def V.sizes : List V → Nat
  | [] => 0
  | v :: r => v.size + V.sizes r
end
theorem V.size_mem {v : V} : ∀ {l : List V}, v ∈ l → v.size ≤ V.sizes l
  | [], h => by simp at h
  | x :: l, h => by
    simp only [V.sizes]
    rcases List.mem_cons.1 h with rfl | h
    · omega
    · have := V.size_mem h; omega
theorem V.len_sizes : ∀ l : List V, l.length ≤ V.sizes l
  | [] => by simp [V.sizes]
  | .mk _ _ _ _ :: l => by have := V.len_sizes l; simp only [V.sizes, V.size, List.length_cons]; omega
end Go.Proofs.Ytnkafjkcjpajgaa
namespace Go.Proofs.Ytnkafjkcjpajgaa
open Go.RowKit
theorem nth {α : Type} {l : List α} {k : Nat} (h : k < l.length) : ∃ a, l[k]? = some a := ⟨_, List.getElem?_eq_getElem h⟩
def V.args : V → List V
  | .mk _ _ _ l => l
end Go.Proofs.Ytnkafjkcjpajgaa
namespace Go.Proofs.Ytnkafjkcjpajgaa
open Go.RowKit
inductive Y where
  | mk (kind : Int) (name : ByteArray) (args : List Y)
mutual
def Y.ts : Y → List T
  | .mk k n l => [.lit (.int .i64 k), .lit (.string n), .row l.length 3 (Y.all l)]
def Y.all : List Y → List T
  | [] => []
  | v :: r => v.ts ++ Y.all r
end
theorem Y.all_eq : ∀ l : List Y, Y.all l = l.flatMap Y.ts
  | [] => rfl
  | v :: l => by rw [Y.all, Y.all_eq l]; rfl
theorem Y.ts_len : ∀ v : Y, v.ts.length = 3
  | .mk _ _ _ => rfl
def Y.row (l : List Y) : T := .row l.length 3 (Y.all l)
def Y.t (v : Y) : T := .agg v.ts
theorem Y.at {l : List Y} {k : Nat} {v : Y} (h : l[k]? = some v) : ((Y.all l).drop (k * 3)).take 3 = v.ts := by rw [Y.all_eq]; exact flat_at Y.ts 3 Y.ts_len h
mutual
def Y.size : Y → Nat
  | .mk _ n l => Y.sizes l + n.size + 1
def Y.sizes : List Y → Nat
  | [] => 0
  | v :: r => v.size + Y.sizes r
end
theorem Y.size_mem {v : Y} : ∀ {l : List Y}, v ∈ l → v.size ≤ Y.sizes l
  | [], h => by simp at h
  | x :: l, h => by
    simp only [Y.sizes]
    rcases List.mem_cons.1 h with rfl | h
    · omega
    · have := Y.size_mem h; omega
theorem Y.sizes_sum : ∀ l : List Y, Y.sizes l = (l.map Y.size).sum
  | [] => rfl
  | v :: l => by simp [Y.sizes, Y.sizes_sum l]
instance : Inhabited Y := ⟨.mk 0 ⟨#[]⟩ []⟩
theorem Y.len_sizes : ∀ l : List Y, l.length ≤ Y.sizes l
  | [] => by simp [Y.sizes]
  | .mk _ _ _ :: l => by have := Y.len_sizes l; simp only [Y.sizes, Y.size, List.length_cons]; omega
def Y.args : Y → List Y
  | .mk _ _ l => l
end Go.Proofs.Ytnkafjkcjpajgaa
namespace Go.Proofs.Ytnkafjkcjpajgaa
open Go.RowKit
mutual
inductive Ex where
  | mk (kind num : Int) (text : ByteArray) (names : List ByteArray) (types : List Y) (args : List Ex) (arms : List Ar) (pos : Int)
inductive Ar where
  | mk (pat : V) (body : Ex)
end
mutual
def Ex.ts : Ex → List T
  | .mk k n t ns ys l rs a => [.lit (.int .i64 k), .lit (.int .i64 n), .lit (.string t), strRow ns, Y.row ys, .row l.length 8 (Ex.all l), .row rs.length 12 (Ar.all rs), .lit (.int .i64 a)]
def Ex.all : List Ex → List T
  | [] => []
  | v :: r => v.ts ++ Ex.all r
def Ar.ts : Ar → List T
  | .mk p b => p.ts ++ b.ts
def Ar.all : List Ar → List T
  | [] => []
  | v :: r => v.ts ++ Ar.all r
end
theorem Ex.all_eq : ∀ l : List Ex, Ex.all l = l.flatMap Ex.ts
  | [] => rfl
  | v :: l => by rw [Ex.all, Ex.all_eq l]; rfl
theorem Ar.all_eq : ∀ l : List Ar, Ar.all l = l.flatMap Ar.ts
  | [] => rfl
  | v :: l => by rw [Ar.all, Ar.all_eq l]; rfl
theorem Ex.ts_len : ∀ v : Ex, v.ts.length = 8
  | .mk _ _ _ _ _ _ _ _ => rfl
theorem Ar.ts_len : ∀ v : Ar, v.ts.length = 12
  | .mk p b => by rw [Ar.ts, List.length_append, V.ts_len, Ex.ts_len]
def Ex.row (l : List Ex) : T := .row l.length 8 (Ex.all l)
def Ex.t (v : Ex) : T := .agg v.ts
def Ar.row (l : List Ar) : T := .row l.length 12 (Ar.all l)
theorem Ex.at {l : List Ex} {k : Nat} {v : Ex} (h : l[k]? = some v) : ((Ex.all l).drop (k * 8)).take 8 = v.ts := by rw [Ex.all_eq]; exact flat_at Ex.ts 8 Ex.ts_len h
theorem Ar.at {l : List Ar} {k : Nat} {v : Ar} (h : l[k]? = some v) : ((Ar.all l).drop (k * 12)).take 12 = v.ts := by rw [Ar.all_eq]; exact flat_at Ar.ts 12 Ar.ts_len h
def strSize (l : List ByteArray) : Nat := (l.map fun s => s.size + 1).sum
mutual
def Ex.size : Ex → Nat
  | .mk _ _ t ns ys l rs _ => t.size + strSize ns + Y.sizes ys + Ex.sizes l + Ar.sizes rs + 1
def Ex.sizes : List Ex → Nat
  | [] => 0
  | v :: r => v.size + Ex.sizes r
def Ar.size : Ar → Nat
  | .mk p b => p.size + b.size
def Ar.sizes : List Ar → Nat
  | [] => 0
  | v :: r => v.size + Ar.sizes r
end
theorem Ex.sizes_sum : ∀ l : List Ex, Ex.sizes l = (l.map Ex.size).sum
  | [] => rfl
  | v :: l => by simp [Ex.sizes, Ex.sizes_sum l]
theorem Ar.sizes_sum : ∀ l : List Ar, Ar.sizes l = (l.map Ar.size).sum
  | [] => rfl
  | v :: l => by simp [Ar.sizes, Ar.sizes_sum l]
theorem sum_mem' {α : Type} (μ : α → Nat) : ∀ {l : List α} {a : α}, a ∈ l → μ a ≤ (l.map μ).sum
  | [], _, h => by simp at h
  | x :: l, a, h => by
    simp only [List.map_cons, List.sum_cons]
    rcases List.mem_cons.1 h with rfl | h
    · omega
    · have := sum_mem' μ h; omega
theorem len_sum' {α : Type} (μ : α → Nat) (h : ∀ a, 1 ≤ μ a) : ∀ l : List α, l.length ≤ (l.map μ).sum
  | [] => by simp
  | x :: l => by have := h x; have := len_sum' μ h l; simp only [List.map_cons, List.sum_cons, List.length_cons]; omega
theorem Ex.size_mem {v : Ex} {l : List Ex} (h : v ∈ l) : v.size ≤ Ex.sizes l := by rw [Ex.sizes_sum]; exact sum_mem' Ex.size h
theorem Ar.size_mem {v : Ar} {l : List Ar} (h : v ∈ l) : v.size ≤ Ar.sizes l := by rw [Ar.sizes_sum]; exact sum_mem' Ar.size h
theorem Ex.size_pos : ∀ v : Ex, 1 ≤ v.size
  | .mk _ _ _ _ _ _ _ _ => by simp only [Ex.size]; omega
theorem Ar.size_pos : ∀ v : Ar, 1 ≤ v.size
  | .mk p b => by have := b.size_pos; simp only [Ar.size]; omega
theorem Ex.len_sizes (l : List Ex) : l.length ≤ Ex.sizes l := by rw [Ex.sizes_sum]; exact len_sum' Ex.size Ex.size_pos l
theorem Ar.len_sizes (l : List Ar) : l.length ≤ Ar.sizes l := by rw [Ar.sizes_sum]; exact len_sum' Ar.size Ar.size_pos l
instance : Inhabited Ex := ⟨.mk 0 0 ⟨#[]⟩ [] [] [] [] 0⟩
instance : Inhabited Ar := ⟨.mk (.mk 0 0 ⟨#[]⟩ []) default⟩
structure Us where
  name : ByteArray
  low : Int
  high : Int
def Us.ts : Us → List T
  | ⟨f_name, f_low, f_high⟩ => [.lit (.string f_name), .lit (.int .i64 f_low), .lit (.int .i64 f_high)]
theorem Us.ts_len (x : Us) : x.ts.length = 3 := by simp [Us.ts]
def Us.t (x : Us) : T := .agg x.ts
def Us.row (l : List Us) : T := .row l.length 3 (l.flatMap Us.ts)
theorem Us.at {l : List Us} {k : Nat} {x : Us} (h : l[k]? = some x) : ((l.flatMap Us.ts).drop (k * 3)).take 3 = x.ts := flat_at Us.ts 3 Us.ts_len h
def Us.size : Us → Nat
  | ⟨f_name, _, _⟩ => f_name.size + 1
def Us.sizes (l : List Us) : Nat := (l.map Us.size).sum
theorem Us.size_mem {x : Us} {l : List Us} (h : x ∈ l) : x.size ≤ Us.sizes l := sum_mem' Us.size h
theorem Us.len_sizes (l : List Us) : l.length ≤ Us.sizes l := len_sum' Us.size (fun x => by simp only [Us.size]; omega) l
instance : Inhabited Us := ⟨⟨⟨#[]⟩, 0, 0⟩⟩
structure Mk where
  name : ByteArray
  args : List Y
def Mk.ts : Mk → List T
  | ⟨f_name, f_args⟩ => [.lit (.string f_name), Y.row f_args]
theorem Mk.ts_len (x : Mk) : x.ts.length = 2 := by simp [Mk.ts]
def Mk.t (x : Mk) : T := .agg x.ts
def Mk.row (l : List Mk) : T := .row l.length 2 (l.flatMap Mk.ts)
theorem Mk.at {l : List Mk} {k : Nat} {x : Mk} (h : l[k]? = some x) : ((l.flatMap Mk.ts).drop (k * 2)).take 2 = x.ts := flat_at Mk.ts 2 Mk.ts_len h
def Mk.size : Mk → Nat
  | ⟨f_name, f_args⟩ => f_name.size + Y.sizes f_args + 1
def Mk.sizes (l : List Mk) : Nat := (l.map Mk.size).sum
theorem Mk.size_mem {x : Mk} {l : List Mk} (h : x ∈ l) : x.size ≤ Mk.sizes l := sum_mem' Mk.size h
theorem Mk.len_sizes (l : List Mk) : l.length ≤ Mk.sizes l := len_sum' Mk.size (fun x => by simp only [Mk.size]; omega) l
instance : Inhabited Mk := ⟨⟨⟨#[]⟩, []⟩⟩
structure Da where
  name : ByteArray
  params : List ByteArray
  makes : List Mk
def Da.ts : Da → List T
  | ⟨f_name, f_params, f_makes⟩ => [.lit (.string f_name), strRow f_params, Mk.row f_makes]
theorem Da.ts_len (x : Da) : x.ts.length = 3 := by simp [Da.ts]
def Da.t (x : Da) : T := .agg x.ts
def Da.row (l : List Da) : T := .row l.length 3 (l.flatMap Da.ts)
theorem Da.at {l : List Da} {k : Nat} {x : Da} (h : l[k]? = some x) : ((l.flatMap Da.ts).drop (k * 3)).take 3 = x.ts := flat_at Da.ts 3 Da.ts_len h
def Da.size : Da → Nat
  | ⟨f_name, f_params, f_makes⟩ => f_name.size + strSize f_params + Mk.sizes f_makes + 1
def Da.sizes (l : List Da) : Nat := (l.map Da.size).sum
theorem Da.size_mem {x : Da} {l : List Da} (h : x ∈ l) : x.size ≤ Da.sizes l := sum_mem' Da.size h
theorem Da.len_sizes (l : List Da) : l.length ≤ Da.sizes l := len_sum' Da.size (fun x => by simp only [Da.size]; omega) l
instance : Inhabited Da := ⟨⟨⟨#[]⟩, [], []⟩⟩
structure Fu where
  name : ByteArray
  params : List ByteArray
  names : List ByteArray
  types : List Y
  out : Y
  body : Ex
def Fu.ts : Fu → List T
  | ⟨f_name, f_params, f_names, f_types, f_out, f_body⟩ => [.lit (.string f_name), strRow f_params, strRow f_names, Y.row f_types] ++ f_out.ts ++ f_body.ts
theorem Fu.ts_len (x : Fu) : x.ts.length = 15 := by simp [Fu.ts, Ex.ts_len, Y.ts_len]
def Fu.t (x : Fu) : T := .agg x.ts
def Fu.row (l : List Fu) : T := .row l.length 15 (l.flatMap Fu.ts)
theorem Fu.at {l : List Fu} {k : Nat} {x : Fu} (h : l[k]? = some x) : ((l.flatMap Fu.ts).drop (k * 15)).take 15 = x.ts := flat_at Fu.ts 15 Fu.ts_len h
def Fu.size : Fu → Nat
  | ⟨f_name, f_params, f_names, f_types, f_out, f_body⟩ => f_name.size + strSize f_params + strSize f_names + Y.sizes f_types + f_out.size + f_body.size + 1
def Fu.sizes (l : List Fu) : Nat := (l.map Fu.size).sum
theorem Fu.size_mem {x : Fu} {l : List Fu} (h : x ∈ l) : x.size ≤ Fu.sizes l := sum_mem' Fu.size h
theorem Fu.len_sizes (l : List Fu) : l.length ≤ Fu.sizes l := len_sum' Fu.size (fun x => by simp only [Fu.size]; omega) l
instance : Inhabited Fu := ⟨⟨⟨#[]⟩, [], [], [], default, default⟩⟩
structure Tr where
  name : ByteArray
  funcs : List Fu
def Tr.ts : Tr → List T
  | ⟨f_name, f_funcs⟩ => [.lit (.string f_name), Fu.row f_funcs]
theorem Tr.ts_len (x : Tr) : x.ts.length = 2 := by simp [Tr.ts]
def Tr.t (x : Tr) : T := .agg x.ts
def Tr.row (l : List Tr) : T := .row l.length 2 (l.flatMap Tr.ts)
theorem Tr.at {l : List Tr} {k : Nat} {x : Tr} (h : l[k]? = some x) : ((l.flatMap Tr.ts).drop (k * 2)).take 2 = x.ts := flat_at Tr.ts 2 Tr.ts_len h
def Tr.size : Tr → Nat
  | ⟨f_name, f_funcs⟩ => f_name.size + Fu.sizes f_funcs + 1
def Tr.sizes (l : List Tr) : Nat := (l.map Tr.size).sum
theorem Tr.size_mem {x : Tr} {l : List Tr} (h : x ∈ l) : x.size ≤ Tr.sizes l := sum_mem' Tr.size h
theorem Tr.len_sizes (l : List Tr) : l.length ≤ Tr.sizes l := len_sum' Tr.size (fun x => by simp only [Tr.size]; omega) l
instance : Inhabited Tr := ⟨⟨⟨#[]⟩, []⟩⟩
structure Im where
  trait : ByteArray
  dat : ByteArray
  funcs : List Fu
def Im.ts : Im → List T
  | ⟨f_trait, f_dat, f_funcs⟩ => [.lit (.string f_trait), .lit (.string f_dat), Fu.row f_funcs]
theorem Im.ts_len (x : Im) : x.ts.length = 3 := by simp [Im.ts]
def Im.t (x : Im) : T := .agg x.ts
def Im.row (l : List Im) : T := .row l.length 3 (l.flatMap Im.ts)
theorem Im.at {l : List Im} {k : Nat} {x : Im} (h : l[k]? = some x) : ((l.flatMap Im.ts).drop (k * 3)).take 3 = x.ts := flat_at Im.ts 3 Im.ts_len h
def Im.size : Im → Nat
  | ⟨f_trait, f_dat, f_funcs⟩ => f_trait.size + f_dat.size + Fu.sizes f_funcs + 1
def Im.sizes (l : List Im) : Nat := (l.map Im.size).sum
theorem Im.size_mem {x : Im} {l : List Im} (h : x ∈ l) : x.size ≤ Im.sizes l := sum_mem' Im.size h
theorem Im.len_sizes (l : List Im) : l.length ≤ Im.sizes l := len_sum' Im.size (fun x => by simp only [Im.size]; omega) l
instance : Inhabited Im := ⟨⟨⟨#[]⟩, ⟨#[]⟩, []⟩⟩
structure Ac where
  name : ByteArray
  names : List ByteArray
  types : List Y
  msg : Y
  body : Ex
def Ac.ts : Ac → List T
  | ⟨f_name, f_names, f_types, f_msg, f_body⟩ => [.lit (.string f_name), strRow f_names, Y.row f_types] ++ f_msg.ts ++ f_body.ts
theorem Ac.ts_len (x : Ac) : x.ts.length = 14 := by simp [Ac.ts, Ex.ts_len, Y.ts_len]
def Ac.t (x : Ac) : T := .agg x.ts
def Ac.row (l : List Ac) : T := .row l.length 14 (l.flatMap Ac.ts)
theorem Ac.at {l : List Ac} {k : Nat} {x : Ac} (h : l[k]? = some x) : ((l.flatMap Ac.ts).drop (k * 14)).take 14 = x.ts := flat_at Ac.ts 14 Ac.ts_len h
def Ac.size : Ac → Nat
  | ⟨f_name, f_names, f_types, f_msg, f_body⟩ => f_name.size + strSize f_names + Y.sizes f_types + f_msg.size + f_body.size + 1
def Ac.sizes (l : List Ac) : Nat := (l.map Ac.size).sum
theorem Ac.size_mem {x : Ac} {l : List Ac} (h : x ∈ l) : x.size ≤ Ac.sizes l := sum_mem' Ac.size h
theorem Ac.len_sizes (l : List Ac) : l.length ≤ Ac.sizes l := len_sum' Ac.size (fun x => by simp only [Ac.size]; omega) l
instance : Inhabited Ac := ⟨⟨⟨#[]⟩, [], [], default, default⟩⟩
structure Pr where
  name : ByteArray
  version : Int
  uses : List Us
  datas : List Da
  traits : List Tr
  impls : List Im
  funcs : List Fu
  actors : List Ac
def Pr.ts : Pr → List T
  | ⟨f_name, f_version, f_uses, f_datas, f_traits, f_impls, f_funcs, f_actors⟩ => [.lit (.string f_name), .lit (.int .i64 f_version), Us.row f_uses, Da.row f_datas, Tr.row f_traits, Im.row f_impls, Fu.row f_funcs, Ac.row f_actors]
theorem Pr.ts_len (x : Pr) : x.ts.length = 8 := by simp [Pr.ts]
def Pr.t (x : Pr) : T := .agg x.ts
def Pr.row (l : List Pr) : T := .row l.length 8 (l.flatMap Pr.ts)
theorem Pr.at {l : List Pr} {k : Nat} {x : Pr} (h : l[k]? = some x) : ((l.flatMap Pr.ts).drop (k * 8)).take 8 = x.ts := flat_at Pr.ts 8 Pr.ts_len h
def Pr.size : Pr → Nat
  | ⟨f_name, _, f_uses, f_datas, f_traits, f_impls, f_funcs, f_actors⟩ => f_name.size + Us.sizes f_uses + Da.sizes f_datas + Tr.sizes f_traits + Im.sizes f_impls + Fu.sizes f_funcs + Ac.sizes f_actors + 1
def Pr.sizes (l : List Pr) : Nat := (l.map Pr.size).sum
theorem Pr.size_mem {x : Pr} {l : List Pr} (h : x ∈ l) : x.size ≤ Pr.sizes l := sum_mem' Pr.size h
theorem Pr.len_sizes (l : List Pr) : l.length ≤ Pr.sizes l := len_sum' Pr.size (fun x => by simp only [Pr.size]; omega) l
instance : Inhabited Pr := ⟨⟨⟨#[]⟩, 0, [], [], [], [], [], []⟩⟩
end Go.Proofs.Ytnkafjkcjpajgaa
namespace Go.Proofs.Ytnkafjkcjpajgaa
/-- may the byte x stand at place i of a name? -/
def okN (i x : Nat) : Bool := decide (97 ≤ x ∧ x ≤ 122) || (decide (i ≠ 0) && (decide (x = 95) || decide (48 ≤ x ∧ x ≤ 57)))
def okTo (s : List UInt8) (k : Nat) : Prop := ∀ j (h : j < s.length), j < k → okN j (s[j]).toNat = true
/-- is it a name? -/
noncomputable def nameOk (s : List UInt8) : Bool := @decide (s ≠ [] ∧ s.length ≤ 16 ∧ okTo s s.length) (Classical.propDecidable _)
theorem nameOk_bad {s : List UInt8} {k : Nat} (h : k < s.length) (hb : okN k (s[k]).toNat = false) : nameOk s = false := by
  simp only [nameOk, decide_eq_false_iff_not]
  rintro ⟨_, _, h3⟩
  have := h3 k h h
  rw [hb] at this
  cases this
theorem nameOk_long {s : List UInt8} (h : 16 < s.length) : nameOk s = false := by
  simp only [nameOk, decide_eq_false_iff_not]
  omega
theorem nameOk_nil : nameOk [] = false := by simp [nameOk]
theorem nameOk_yes {s : List UInt8} (h0 : s ≠ []) (h1 : s.length ≤ 16) (h : okTo s s.length) : nameOk s = true := by
  simp only [nameOk, decide_eq_true_eq]
  exact ⟨h0, h1, h⟩
theorem okTo_succ {s : List UInt8} {k : Nat} (h : okTo s k) (hk : k < s.length) (hx : okN k (s[k]).toNat = true) : okTo s (k + 1) := by
  intro j hj hjk
  rcases Nat.lt_succ_iff_lt_or_eq.1 hjk with h' | h'
  · exact h j hj h'
  · subst h'; exact hx
theorem okTo_zero (s : List UInt8) : okTo s 0 := fun _ _ h => absurd h (by omega)
end Go.Proofs.Ytnkafjkcjpajgaa
namespace Go.Proofs.Ytnkafjkcjpajgaa
open Go.RowKit
structure Md where
  name : ByteArray
  version : Int
  uses : List Us
def Md.ts : Md → List T
  | ⟨f_name, f_version, f_uses⟩ => [.lit (.string f_name), .lit (.int .i64 f_version), Us.row f_uses]
theorem Md.ts_len (x : Md) : x.ts.length = 3 := by simp [Md.ts]
def Md.t (x : Md) : T := .agg x.ts
def Md.row (l : List Md) : T := .row l.length 3 (l.flatMap Md.ts)
theorem Md.at {l : List Md} {k : Nat} {x : Md} (h : l[k]? = some x) : ((l.flatMap Md.ts).drop (k * 3)).take 3 = x.ts := flat_at Md.ts 3 Md.ts_len h
def Md.size : Md → Nat
  | ⟨f_name, _, f_uses⟩ => f_name.size + Us.sizes f_uses + 1
def Md.sizes (l : List Md) : Nat := (l.map Md.size).sum
theorem Md.size_mem {x : Md} {l : List Md} (h : x ∈ l) : x.size ≤ Md.sizes l := sum_mem' Md.size h
theorem Md.len_sizes (l : List Md) : l.length ≤ Md.sizes l := len_sum' Md.size (fun x => by simp only [Md.size]; omega) l
instance : Inhabited Md := ⟨⟨⟨#[]⟩, 0, []⟩⟩
structure Pk where
  name : ByteArray
  version : Int
def Pk.ts : Pk → List T
  | ⟨f_name, f_version⟩ => [.lit (.string f_name), .lit (.int .i64 f_version)]
theorem Pk.ts_len (x : Pk) : x.ts.length = 2 := by simp [Pk.ts]
def Pk.t (x : Pk) : T := .agg x.ts
def Pk.row (l : List Pk) : T := .row l.length 2 (l.flatMap Pk.ts)
theorem Pk.at {l : List Pk} {k : Nat} {x : Pk} (h : l[k]? = some x) : ((l.flatMap Pk.ts).drop (k * 2)).take 2 = x.ts := flat_at Pk.ts 2 Pk.ts_len h
def Pk.size : Pk → Nat
  | ⟨f_name, _⟩ => f_name.size + 1
def Pk.sizes (l : List Pk) : Nat := (l.map Pk.size).sum
theorem Pk.size_mem {x : Pk} {l : List Pk} (h : x ∈ l) : x.size ≤ Pk.sizes l := sum_mem' Pk.size h
theorem Pk.len_sizes (l : List Pk) : l.length ≤ Pk.sizes l := len_sum' Pk.size (fun x => by simp only [Pk.size]; omega) l
instance : Inhabited Pk := ⟨⟨⟨#[]⟩, 0⟩⟩
noncomputable def useE (u : Us) : Int := if nameOk u.name.data.toList then (if u.low < 1 ∨ 9999 < u.high ∨ u.high < u.low then 1 else 0) else 11
noncomputable def usesE : List Us → Int
  | [] => 0
  | u :: r => if useE u = 0 then usesE r else useE u
noncomputable def wantsE (l : List Us) : Int := if 5 < l.length then 2 else usesE l
noncomputable def modE (m : Md) : Int := if nameOk m.name.data.toList then (if m.version < 1 ∨ 9999 < m.version then 1 else wantsE m.uses) else 11
def mordB (p m : Md) : Bool := strLt p.name m.name || (decide (p.name = m.name) && decide (p.version < m.version))
def ordE (p : Option Md) (m : Md) : Int := match p with | some q => if mordB q m then 0 else 21 | none => 0
noncomputable def modsE (p : Option Md) : List Md → Int
  | [] => 0
  | m :: r => if modE m = 0 then (if ordE p m = 0 then modsE (some m) r else ordE p m) else modE m
noncomputable def checkE (l : List Md) : Int := if 30 < l.length then 2 else modsE none l
def prevAt {α : Type} (l : List α) (k : Nat) : Option α := if k = 0 then none else l[k - 1]?
theorem prevAt_succ {α : Type} {l : List α} {k : Nat} {a : α} (h : l[k]? = some a) : prevAt l (k + 1) = some a := by simp [prevAt, h]
theorem usesE_step {l : List Us} {k : Nat} {u : Us} (h : l[k]? = some u) : usesE (l.drop k) = if useE u = 0 then usesE (l.drop (k + 1)) else useE u := by
  obtain ⟨h1, rfl⟩ := List.getElem?_eq_some_iff.1 h
  rw [List.drop_eq_getElem_cons h1, usesE]
theorem modsE_step {l : List Md} {k : Nat} {m : Md} (h : l[k]? = some m) : modsE (prevAt l k) (l.drop k) = if modE m = 0 then (if ordE (prevAt l k) m = 0 then modsE (prevAt l (k + 1)) (l.drop (k + 1)) else ordE (prevAt l k) m) else modE m := by
  rw [prevAt_succ h]
  obtain ⟨h1, rfl⟩ := List.getElem?_eq_some_iff.1 h
  rw [List.drop_eq_getElem_cons h1, modsE]
theorem usesE_all : ∀ {l : List Us}, usesE l = 0 → ∀ u ∈ l, useE u = 0
  | [], _, _, h => by simp at h
  | u :: r, h, v, hv => by
    rw [usesE] at h
    by_cases h0 : useE u = 0
    · rw [if_pos h0] at h
      rcases List.mem_cons.1 hv with rfl | hv
      · exact h0
      · exact usesE_all h v hv
    · rw [if_neg h0] at h; exact absurd h h0
theorem wantsE_ok {l : List Us} (h : wantsE l = 0) : l.length ≤ 5 ∧ ∀ u ∈ l, useE u = 0 := by
  unfold wantsE at h
  by_cases h5 : 5 < l.length
  · rw [if_pos h5] at h; cases h
  · rw [if_neg h5] at h; exact ⟨by omega, usesE_all h⟩
theorem useE_name {u : Us} (h : useE u = 0) : u.name ≠ ⟨#[]⟩ := by
  rintro e
  unfold useE at h
  rw [e] at h
  rw [show nameOk (ByteArray.mk #[]).data.toList = false from nameOk_nil] at h
  simp at h
theorem modE_ok {m : Md} (h : modE m = 0) : (1 ≤ m.version ∧ m.version ≤ 9999) ∧ wantsE m.uses = 0 := by
  unfold modE at h
  split at h
  · split at h
    · cases h
    · exact ⟨by omega, h⟩
  · cases h
/-- each register entry comes behind all before it -/
theorem strLt_irrefl (s : ByteArray) : strLt s s = false := by
  unfold strLt
  generalize s.toList = l
  induction l with
  | nil => rfl
  | cons a l ih => simp [Op.bytesLess, ih]
theorem modsE_all : ∀ {l : List Md} {p : Option Md}, modsE p l = 0 → (∀ m ∈ l, modE m = 0) ∧ ∀ i (h : i + 1 < l.length), mordB l[i] l[i + 1] = true
  | [], _, _ => ⟨fun _ h => by simp at h, fun _ h => by simp at h⟩
  | m :: r, p, h => by
    rw [modsE] at h
    by_cases h0 : modE m = 0
    · rw [if_pos h0] at h
      have hr : modsE (some m) r = 0 := by
        split at h
        · exact h
        · rename_i hx; exact absurd h hx
      obtain ⟨h1, h2⟩ := modsE_all hr
      refine ⟨fun x hx => ?_, fun i hi => ?_⟩
      · rcases List.mem_cons.1 hx with rfl | hx
        · exact h0
        · exact h1 x hx
      · cases i with
        | succ i => exact h2 i (by simpa using hi)
        | zero =>
          cases r with
          | nil => simp at hi
          | cons x r =>
            rw [modsE] at hr
            split at hr
            · split at hr
              · rename_i _ hx
                unfold ordE at hx
                simp only at hx
                split at hx
                · assumption
                · cases hx
              · rename_i hx; exact absurd hr hx
            · rename_i hx; exact absurd hr hx
    · rw [if_neg h0] at h; exact absurd h h0
theorem lt_eq (a b : ByteArray) : strLt a b = decide (a.toList < b.toList) := bytesLess_eq _ _
theorem ba_ext {a b : ByteArray} (h : a.toList = b.toList) : a = b := by
  have h2 : a.data.toList = b.data.toList := by
    rwa [str_toList, str_toList] at h
  cases a; cases b
  simp only [ByteArray.mk.injEq]
  exact Array.ext' h2
theorem strLt_trans {a b c : ByteArray} (h : strLt a b = true) (h' : strLt b c = true) : strLt a c = true := by
  rw [lt_eq, decide_eq_true_eq] at h h' ⊢
  exact List.lt_trans h h'
theorem mordB_trans {a b c : Md} (h : mordB a b = true) (h' : mordB b c = true) : mordB a c = true := by
  simp only [mordB, Bool.or_eq_true, Bool.and_eq_true, decide_eq_true_eq] at h h' ⊢
  rcases h with h | ⟨h1, h2⟩
  · rcases h' with h' | ⟨h3, _⟩
    · exact .inl (strLt_trans h h')
    · rw [h3] at h; exact .inl h
  · rcases h' with h' | ⟨h3, h4⟩
    · rw [← h1] at h'; exact .inl h'
    · exact .inr ⟨h1.trans h3, by omega⟩
theorem mordB_irrefl {a b : Md} (h : mordB a b = true) : ¬ (b.name = a.name ∧ b.version = a.version) := by
  rintro ⟨h1, h2⟩
  simp only [mordB, Bool.or_eq_true, Bool.and_eq_true, decide_eq_true_eq, h1, strLt_irrefl] at h
  rcases h with h | ⟨_, h⟩
  · cases h
  · omega
theorem ord_pair {l : List Md} (h : ∀ i (h : i + 1 < l.length), mordB l[i] l[i + 1] = true) : l.Pairwise (fun a b => mordB a b = true) := by
  induction l with
  | nil => exact .nil
  | cons a l ih =>
    have hl : ∀ i (h : i + 1 < l.length), mordB l[i] l[i + 1] = true := fun i hi => h (i + 1) (by simpa using hi)
    have hp := ih hl
    refine .cons (fun b hb => ?_) hp
    cases l with
    | nil => simp at hb
    | cons x l =>
      have h0 : mordB a x = true := h 0 (by simp)
      rcases List.mem_cons.1 hb with rfl | hb
      · exact h0
      · exact mordB_trans h0 ((List.pairwise_cons.1 hp).1 b hb)
def hitB (nm : ByteArray) (v : Int) (m : Md) : Bool := decide (m.name = nm) && decide (m.version = v)
def pv (ps : List Pk) (nm : ByteArray) : Option Int := (ps.find? fun p => decide (p.name = nm)).map Pk.version
def usOf (l : List Md) (nm : ByteArray) (v : Int) : Option (List Us) := (l.find? (hitB nm v)).map Md.uses
def okU (l : List Md) (ps : List Pk) (u : Us) : Option (List Us) :=
  match pv ps u.name with
  | none => none
  | some v => if v < u.low ∨ u.high < v then none else usOf l u.name v
inductive Runs (l : List Md) (ps : List Pk) : List Us → List ByteArray → Option (List ByteArray) → Prop where
  | done (R : List ByteArray) : Runs l ps [] R (some R)
  | bad {u : Us} {q : List Us} {R : List ByteArray} (h : okU l ps u = none) : Runs l ps (u :: q) R none
  | old {u : Us} {q : List Us} {R : List ByteArray} {r : Option (List ByteArray)} {us : List Us} (h : okU l ps u = some us) (hm : u.name ∈ R) (hr : Runs l ps q R r) : Runs l ps (u :: q) R r
  | new {u : Us} {q : List Us} {R : List ByteArray} {r : Option (List ByteArray)} {us : List Us} (h : okU l ps u = some us) (hm : u.name ∉ R) (hr : Runs l ps (q ++ us) (R ++ [u.name]) r) : Runs l ps (u :: q) R r
theorem Runs.det {l : List Md} {ps : List Pk} {q : List Us} {R : List ByteArray} {r r' : Option (List ByteArray)} (h : Runs l ps q R r) (h' : Runs l ps q R r') : r = r' := by
  induction h with
  | done R => cases h'; rfl
  | bad h =>
    cases h' with
    | bad _ => rfl
    | old h2 _ _ => rw [h] at h2; cases h2
    | new h2 _ _ => rw [h] at h2; cases h2
  | old h hm hr ih =>
    cases h' with
    | bad h2 => rw [h] at h2; cases h2
    | old h2 _ h3 => exact ih h3
    | new _ h2 _ => exact absurd hm h2
  | new h hm hr ih =>
    cases h' with
    | bad h2 => rw [h] at h2; cases h2
    | old _ h2 _ => exact absurd h2 hm
    | new h2 _ h3 =>
      rw [h] at h2
      injection h2 with h2
      subst h2
      exact ih h3
theorem pv_mem {ps : List Pk} {nm : ByteArray} {v : Int} (h : pv ps nm = some v) : nm ∈ ps.map Pk.name := by
  unfold pv at h
  cases hf : ps.find? (fun p => decide (p.name = nm)) with
  | none => rw [hf] at h; cases h
  | some p =>
    have h1 := List.find?_some hf
    have h2 := List.mem_of_find?_eq_some hf
    simp at h1
    exact List.mem_map.2 ⟨p, h2, h1⟩
theorem usOf_mem {l : List Md} {nm : ByteArray} {v : Int} {us : List Us} (h : usOf l nm v = some us) : ∃ m ∈ l, m.name = nm ∧ m.version = v ∧ m.uses = us := by
  unfold usOf at h
  cases hf : l.find? (hitB nm v) with
  | none => rw [hf] at h; cases h
  | some m =>
    rw [hf] at h
    have h1 := List.find?_some hf
    have h2 := List.mem_of_find?_eq_some hf
    simp [hitB] at h1
    exact ⟨m, h2, h1.1, h1.2, by simpa using h⟩
theorem okU_some {l : List Md} {ps : List Pk} {u : Us} {us : List Us} (h : okU l ps u = some us) : ∃ v, pv ps u.name = some v ∧ ¬ (v < u.low ∨ u.high < v) ∧ usOf l u.name v = some us := by
  unfold okU at h
  cases hp : pv ps u.name with
  | none => rw [hp] at h; cases h
  | some v =>
    rw [hp] at h
    simp only at h
    split at h
    · cases h
    · exact ⟨v, rfl, by assumption, h⟩
/-- names met: each once, of the selection, none empty -/
def Met (ps : List Pk) (R : List ByteArray) : Prop := R.Nodup ∧ ∀ nm ∈ R, nm ∈ ps.map Pk.name ∧ nm ≠ ⟨#[]⟩
theorem Runs.met {l : List Md} {ps : List Pk} (hl : ∀ m ∈ l, modE m = 0) {q : List Us} {R : List ByteArray} {r : Option (List ByteArray)} (h : Runs l ps q R r) (hq : ∀ u ∈ q, useE u = 0) (hR : Met ps R) : ∀ R', r = some R' → Met ps R' := by
  induction h with
  | done R => rintro R' e; injection e with e; subst e; exact hR
  | bad _ => rintro _ e; cases e
  | old h hm hr ih => exact ih (fun u hu => hq u (List.mem_cons_of_mem _ hu)) hR
  | @new u q R r us h hm hr ih =>
    obtain ⟨v, h1, _, h3⟩ := okU_some h
    obtain ⟨m, h4, _, _, h5⟩ := usOf_mem h3
    refine ih (fun x hx => ?_) ⟨?_, fun nm hn => ?_⟩
    · rcases List.mem_append.1 hx with hx | hx
      · exact hq x (List.mem_cons_of_mem _ hx)
      · rw [← h5] at hx
        exact (wantsE_ok (modE_ok (hl m h4)).2).2 x hx
    · rw [List.nodup_append]
      refine ⟨hR.1, by simp, fun a ha b hb => ?_⟩
      rw [List.mem_singleton] at hb
      rintro rfl
      rw [hb] at ha
      exact hm ha
    · rcases List.mem_append.1 hn with hn | hn
      · exact hR.2 nm hn
      · rw [List.mem_singleton] at hn
        subst hn
        exact ⟨pv_mem h1, useE_name (hq u (by simp))⟩
def leB (a b : ByteArray) : Bool := strLt a b || decide (a = b)
def ascR : ByteArray → List Pk → Bool
  | _, [] => true
  | last, p :: r => !leB p.name last && ascR p.name r
def lastOf (l : List Pk) (k : Nat) : ByteArray := match prevAt l k with | none => ⟨#[]⟩ | some p => p.name
theorem lastOf_succ {l : List Pk} {k : Nat} {p : Pk} (h : l[k]? = some p) : lastOf l (k + 1) = p.name := by simp [lastOf, prevAt_succ h]
theorem leB_nil {s : ByteArray} : leB s ⟨#[]⟩ = decide (s = ⟨#[]⟩) := by
  have : strLt s ⟨#[]⟩ = false := by
    rw [lt_eq]
    have : (ByteArray.mk #[]).toList = [] := by rw [str_toList]
    rw [this]
    simp
  simp [leB, this]
theorem leB_false {a b : ByteArray} (h : leB a b = false) : strLt b a = true := by
  simp only [leB, Bool.or_eq_false_iff, decide_eq_false_iff_not] at h
  rw [lt_eq, decide_eq_false_iff_not] at h
  rw [lt_eq, decide_eq_true_eq]
  have h2 : b.toList ≤ a.toList := Std.not_lt.1 h.1
  rcases Std.le_iff_lt_or_eq.1 h2 with h1 | h1
  · exact h1
  · exact absurd (ba_ext h1.symm) h.2
/-- modules whose names are not met yet -/
noncomputable def left (l : List Md) (R : List ByteArray) : Nat := by classical exact (l.filter fun m => decide (m.name ∉ R)).length
def runOut (ps : List Pk) (r : Option (List ByteArray)) : Bool := match r with | none => false | some R => decide (R.length = ps.length)
/-- what both answer -/
def RightIs (l : List Md) (root : List Us) (ps : List Pk) (b : Bool) : Prop :=
  ((checkE l ≠ 0 ∨ wantsE root ≠ 0 ∨ ascR ⟨#[]⟩ ps = false) ∧ b = false) ∨
  (checkE l = 0 ∧ wantsE root = 0 ∧ ascR ⟨#[]⟩ ps = true ∧ ∃ r, Runs l ps root [] r ∧ b = runOut ps r)
theorem RightIs.det {l : List Md} {root : List Us} {ps : List Pk} {b b' : Bool} (h : RightIs l root ps b) (h' : RightIs l root ps b') : b = b' := by
  rcases h with ⟨h1, rfl⟩ | ⟨h1, h2, h3, r, h4, rfl⟩
  · rcases h' with ⟨_, rfl⟩ | ⟨g1, g2, g3, _⟩
    · rfl
    · rcases h1 with h1 | h1 | h1
      · exact absurd g1 h1
      · exact absurd g2 h1
      · rw [g3] at h1; cases h1
  · rcases h' with ⟨g1, rfl⟩ | ⟨g1, g2, g3, r', h5, rfl⟩
    · rcases g1 with g1 | g1 | g1
      · exact absurd h1 g1
      · exact absurd h2 g1
      · rw [h3] at g1; cases g1
    · rw [h4.det h5]
end Go.Proofs.Ytnkafjkcjpajgaa
namespace Go.Proofs.Ytnkafjkcjpajgaa
open Go.RowKit
def bl (s : ByteArray) : List UInt8 := s.data.toList
def ofB (l : List UInt8) : ByteArray := ⟨l.toArray⟩
theorem ofB_bl (s : ByteArray) : ofB (bl s) = s := by cases s; simp [ofB, bl]
theorem bl_inj {a b : ByteArray} (h : bl a = bl b) : a = b := by rw [← ofB_bl a, h, ofB_bl]
theorem strLt_bl (a b : ByteArray) : strLt a b = decide (bl a < bl b) := by rw [lt_eq, str_toList, str_toList]; rfl
def leL (x y : List UInt8) : Bool := decide (x ≤ y)
theorem leL_trans (a b c : List UInt8) (h : leL a b = true) (h' : leL b c = true) : leL a c = true := by
  unfold leL at *
  rw [decide_eq_true_eq] at *
  exact List.le_trans h h'
theorem leL_total (a b : List UInt8) : (leL a b || leL b a) = true := by
  unfold leL
  rw [Bool.or_eq_true, decide_eq_true_eq, decide_eq_true_eq]
  exact List.le_total a b
theorem leL_anti {a b : List UInt8} (h : leL a b = true) (h' : leL b a = true) : a = b := by
  unfold leL at *
  rw [decide_eq_true_eq] at *
  exact List.le_antisymm h h'
/-- texts, sorted -/
def sortB (l : List ByteArray) : List ByteArray := ((l.map bl).mergeSort leL).map ofB
theorem sortB_perm (l : List ByteArray) : (sortB l).Perm l := by
  unfold sortB
  have h := (List.mergeSort_perm (l.map bl) leL).map ofB
  rw [List.map_map, show (ofB ∘ bl) = id from funext ofB_bl, List.map_id] at h
  exact h
theorem sortB_len (l : List ByteArray) : (sortB l).length = l.length := (sortB_perm l).length_eq
theorem sort_eq {a b : List (List UInt8)} (h : a.Perm b) : a.mergeSort leL = b.mergeSort leL := by
  refine List.Perm.eq_of_pairwise (le := fun x y => leL x y = true) (fun x y _ _ h1 h2 => leL_anti h1 h2) (List.pairwise_mergeSort leL_trans leL_total a) (List.pairwise_mergeSort leL_trans leL_total b) ?_
  exact (List.mergeSort_perm a leL).trans (h.trans (List.mergeSort_perm b leL).symm)
theorem sortB_eq {a b : List ByteArray} (h : a.Perm b) : sortB a = sortB b := by
  unfold sortB
  rw [sort_eq (h.map bl)]
theorem rts_strs {M : Mm} : ∀ {l : List ByteArray} {xs : List Value}, RTs M (l.flatMap strTs) xs → xs = l.map Value.string
  | [], _, h => by simpa [RTs] using h
  | s :: l, xs, h => by
    simp only [List.flatMap_cons, strTs, List.cons_append, List.nil_append, RTs, RT] at h
    obtain ⟨x, r1, rfl, rfl, h⟩ := h
    rw [rts_strs h]
    rfl
theorem strs_rts {M : Mm} : ∀ (l : List ByteArray), RTs M (l.flatMap strTs) (l.map Value.string)
  | [] => by simp [RTs]
  | s :: l => by
    simp only [List.flatMap_cons, strTs, List.cons_append, List.nil_append, List.map_cons, RTs, RT]
    exact ⟨_, _, rfl, rfl, strs_rts l⟩
theorem strs_one (l : List ByteArray) : OneAll (l.map Value.string) := fun x hx => by
  obtain ⟨s, _, rfl⟩ := List.mem_map.1 hx
  rfl
theorem enc_ofB (l : List (List UInt8)) : l.map Go.Proofs.encStr = (l.map ofB).map Value.string := by
  rw [List.map_map]
  rfl
theorem map_ofB (l : List ByteArray) : (l.map bl).map ofB = l := by
  rw [List.map_map, show (ofB ∘ bl) = id from funext ofB_bl, List.map_id]
theorem enc_bl (l : List ByteArray) : (l.map bl).map Go.Proofs.encStr = l.map Value.string := by
  rw [enc_ofB, map_ofB]
theorem put_heap {α : Type} [Inhabited α] (enc : α → Value) (w : World) (n blk off : Nat) (d : Array α) (os : Array Obj) (hb : blk < w.heap.size) :
    (∀ b, b < w.heap.size → b ≠ blk → (Sort.grow (Sort.putRow enc (Sort.ahead w n) blk off d) os).heap[b]? = w.heap[b]?) ∧
    (∀ cur e fr, w.heap[blk]? = some (.cells cur e fr) → (Sort.grow (Sort.putRow enc (Sort.ahead w n) blk off d) os).heap[blk]? = some (.cells (Sort.putCells enc off d cur) e fr)) ∧ w.heap.size ≤ (Sort.grow (Sort.putRow enc (Sort.ahead w n) blk off d) os).heap.size := by
  have hh : (Sort.grow (Sort.putRow enc (Sort.ahead w n) blk off d) os).heap = w.heap.modify blk (Sort.onCells (Sort.putCells enc off d)) ++ os := rfl
  rw [hh]
  refine ⟨fun b h1 h2 => ?_, fun cur e fr h => ?_, by rw [Array.size_append, Array.size_modify]; omega⟩
  · rw [Array.getElem?_append_left (by rw [Array.size_modify]; exact h1), Array.getElem?_modify, if_neg (Ne.symm h2)]
  · rw [Array.getElem?_append_left (by rw [Array.size_modify]; exact hb), Array.getElem?_modify, if_pos rfl, h]
    rfl
theorem putEnc_list {α : Type} [Inhabited α] (enc : α → Value) (d : Array α) (cur : Array Value) (off : Nat) (h : off + d.size ≤ cur.size) : ((Sort.putCells enc off d cur).toList.drop off).take d.size = d.toList.map enc := by
  apply List.ext_getElem?
  intro t
  rw [List.getElem?_take]
  by_cases h1 : t < d.size
  · rw [if_pos h1, List.getElem?_drop, Array.getElem?_toList, List.getElem?_map, Array.getElem?_toList, Array.getElem?_eq_getElem h1]
    have h2 : off + t < (Sort.putCells enc off d cur).size := by simp only [Sort.putCells, Array.size_mapIdx]; omega
    rw [Array.getElem?_eq_getElem h2]
    simp only [Sort.putCells, Array.getElem_mapIdx]
    rw [if_pos ⟨by omega, by omega⟩, show off + t - off = t by omega, getElem!_pos d t h1]
    rfl
  · rw [if_neg h1, List.getElem?_map, Array.getElem?_toList, Array.getElem?_eq_none (by omega)]
    rfl
/-- a step that writes the cells of the one block, and makes others -/
theorem sorted_heap {F : Frm} {M : Mm} {w w' : World} {v v' : Value} {e : TypeId} {sz n n' : Nat} {ts ts' : List T} {g0 : Nat} (hM : HeapOk F M [.row v e sz n ts] w) (hv : v.ownBlock = some g0) (hv' : v'.ownBlock = some g0)
    (hos : w'.os = w.os) (htape : w'.tape = w.tape) (hout : w'.output = w.output) (hsz : w.heap.size ≤ w'.heap.size) (hother : ∀ b, b < w.heap.size → b ≠ g0 → w'.heap[b]? = w.heap[b]?) (hx : BlkOk M w' (.row v' e sz n' ts')) : HeapOk F M [.row v' e sz n' ts'] w' := by
  refine hM.step 0 hos htape hout hsz (fun b hb hne => hother b hb fun h => ?_) (Ext.refl _ _) (fun p v h1 h2 => by rw [h2] at h1; cases h1) (fun j hj => ?_) (fun x' hx' => ?_)
  · exact hne _ rfl (by rw [h]; exact hv)
  · cases j with
    | zero => exact absurd rfl hj
    | succ j => rfl
  · obtain rfl : _ = x' := by simpa using hx'
    exact ⟨hx, fun b hb => .inl ⟨_, rfl, hv.trans (hv'.symm.trans hb)⟩⟩
set_option maxHeartbeats 1000000 in
theorem sortS_ag {P : Program} {ρ : Shelf.Ren} (L : SlLaysM.n6 P ρ) (hE : Enters P (ρ.f 6)) (l : List ByteArray) (hlen : l.length ≤ 4611686018427387) (v : Value) (e : TypeId) :
    AG P (ρ.f 6) [.own 0 v] [.row v e 1 l.length (l.flatMap strTs)] (fun r hs => r = .tup [] ∧ hs = [.row v e 1 (sortB l).length ((sortB l).flatMap strTs)]) := by
  refine ⟨hE, fun F M w vs hM hv => ?_⟩
  simp only [RAs, RA] at hv
  obtain ⟨u, r1, rfl, ⟨rfl, -⟩, rfl⟩ := hv
  obtain ⟨xs, ho, hx, h1, h2⟩ := hM.at_ 0 _ rfl
  obtain rfl := rts_strs hx
  have hsl := sortB_len l
  rcases ho.2 with ⟨rfl, h0⟩ | ⟨g0, off, cap, cur, rfl, hg, hnc, hcm, hcs, htk⟩
  · obtain rfl : l = [] := List.length_eq_zero_iff.1 h0
    refine (AnyM.slices_Sort_string_none L none 0 w).mono fun e' w' ⟨he, hw⟩ => ?_
    subst hw
    exact ⟨_, .tup [], _, M, he, ⟨rfl, rfl⟩, Ext.refl _ _, (by rw [show sortB [] = [] by simp [sortB]]; exact hM), by simp only [RA, RAs]; exact ⟨[], rfl, rfl⟩⟩
  · have hblk : g0 < w.heap.size := (Array.getElem?_eq_some_iff.1 hg).1
    have hl2 : (l.map bl).length = l.length := List.length_map _
    have hH : Sort.Holds Go.Proofs.encStr w g0 off (l.map bl).toArray := by
      intro j hj
      have hj1 : j < l.length := by simpa using hj
      have hj2 : (l.map Value.string)[j]? = some (Go.Proofs.encStr (l.map bl).toArray[j]!) := by
        rw [← enc_bl, List.getElem?_map, getElem!_pos (l.map bl).toArray j (by simpa using hj1)]
        simp [hj1]
      refine ⟨?_, ?_⟩
      · have := ho.cells j _ hj2
        rwa [offs_add] at this
      · simp only [World.frozen?, hg]
        simp
    have hcon := AnyM.slices_Sort_string L g0 off cap (l.map bl) w hH hblk (by rw [hl2]; omega)
    rw [hl2] at hcon
    refine hcon.mono fun e' w' ⟨he, n, os, hw⟩ => ?_
    have hfz : (((l.map bl).mergeSort leL).toArray).size = l.length := by simp [(List.mergeSort_perm (l.map bl) leL).length_eq]
    obtain ⟨hW1, hW2, hW3⟩ := put_heap Go.Proofs.encStr w n g0 off ((l.map bl).mergeSort leL).toArray os hblk
    have hW4 := hW2 cur e (0, 0) hg
    have hww : w' = Sort.grow (Sort.putRow Go.Proofs.encStr (Sort.ahead w n) g0 off ((l.map bl).mergeSort leL).toArray) os := hw
    rw [← hww] at hW1 hW3 hW4
    have hos : w'.os = w.os ∧ w'.tape = w.tape ∧ w'.output = w.output := by rw [hww]; exact ⟨rfl, rfl, rfl⟩
    clear hw hww hcon hW2 hH
    have hcz : off + (((l.map bl).mergeSort leL).toArray).size ≤ cur.size := by
      rw [hfz]
      omega
    have hown : OwnsO w' e 1 (.slice (some ⟨g0, off, none⟩) l.length cap) l.length ((sortB l).map Value.string) := by
      refine ⟨by rw [List.length_map, hsl, Nat.mul_one], .inr ⟨g0, off, cap, _, rfl, hW4, hnc, hcm, by simp only [Sort.putCells, Array.size_mapIdx]; exact hcs, ?_⟩⟩
      have := putEnc_list Go.Proofs.encStr ((l.map bl).mergeSort leL).toArray cur off hcz
      rw [hfz, List.toList_toArray, enc_ofB] at this
      rw [Nat.mul_one]
      exact this
    refine ⟨_, .tup [], _, M, he, ⟨rfl, rfl⟩, Ext.refl _ _, ?_, by simp only [RA, RAs]; exact ⟨[], rfl, rfl⟩⟩
    rw [hsl]
    exact sorted_heap hM rfl rfl hos.1 hos.2.1 hos.2.2 hW3 hW1 ⟨_, hown, strs_rts _, strs_one _, by omega⟩
set_option maxHeartbeats 1000000 in
theorem sortedK_ag {P : Program} {ρk ρs ρm : Shelf.Ren} (LK : SlLaysZ.n10 P ρk) (LS : SlLaysZ.n6 P ρs) (LM : SlLaysM.n6 P ρm) (h9 : ρs.f 9 = ρm.f 6) (h26 : ρs.t 26 = ρk.t 26) (hk : P.underlying (ρk.t 26) = some .string) (hE : Enters P (ρs.f 6))
    (e9 : ∀ args w, (callFunc (ρs.f 9) args).run P w = .ok (.enter (ρs.f 9) args) w) (eg : ∀ args w, (callFunc (ρk.f 10) args).run P w = .ok (.enter (ρk.f 10) args) w) (l : List (ByteArray × T)) (hn : (l.map (·.1)).Nodup) (hsz : ∀ p ∈ l, p.1.size ≤ maxLen) (hlen : l.length ≤ 1048576) (bb b : Nat) (mt : TypeId) (q1 q2 : Nat) :
    AG P (ρs.f 6) [.fn (.func (ρk.f 10)) [.ptr q1 bb 0]] [.box bb mt [.own q2 (.map (some b))], .mp b (mkeys Value.string l)]
      (fun r hs => ∃ v, r = .own 2 v ∧ hs = [.box bb mt [.own q2 (.map (some b))], .mp b (mkeys Value.string l), .row v (ρs.t 26) 1 (sortB (l.map (·.1))).length ((sortB (l.map (·.1))).flatMap strTs)]) := by
  refine ⟨hE, fun F M w vs hM hv => ?_⟩
  simp only [RAs, RA] at hv
  obtain ⟨u, r1, rfl, ⟨xs, rfl, ⟨x, r2, rfl, rfl, rfl⟩⟩, rfl⟩ := hv
  obtain ⟨cs, hbox, hcs, hone⟩ := hM.at_ 0 _ rfl
  simp only [RAs, RA] at hcs
  obtain ⟨x, r2, rfl, ⟨rfl, -⟩, rfl⟩ := hcs
  obtain ⟨es, clock, hmap, hkeys, hvals, hstm, -⟩ := hM.at_ 1 _ rfl
  have hkeys' : es.map (·.key) = l.map (fun p => Value.string p.1) := by rw [hkeys]; simp [mkeys]
  have hesl : es.length = l.length := by simpa using congrArg List.length hkeys'
  let R : Value → Option (DataW Unit × List MemPlace) := fun _ => some (.lit (.bool true), [])
  have hkey : ∀ y ∈ es, ∃ s : ByteArray, y.key = .string s ∧ s.size ≤ maxLen := fun y hy => by
    have : y.key ∈ l.map (fun p => Value.string p.1) := by rw [← hkeys']; exact List.mem_map.2 ⟨y, hy, rfl⟩
    obtain ⟨p, hp, he⟩ := List.mem_map.1 this
    exact ⟨p.1, he.symm, hsz p hp⟩
  have hkk : ∀ s : ByteArray, s.size ≤ maxLen → keyOf P (ρk.t 26) (.string s) = some (Lit.string s.data.toList) := fun s hs => by
    simp [keyOf, hk, mapKey, hs]
  have hFit : WideElems.Fit P (ρk.t 26) R es.toArray clock := by
    refine ⟨by simp only [List.size_toArray]; unfold maxLen; omega, ?_, fun y hy => ?_⟩
    · rw [MapKept.stamped_iff]
      refine ⟨fun y hy => hstm.2 y hy, hstm.1, ?_⟩
      have : (es.map (·.key)).Pairwise (· ≠ ·) := by
        rw [hkeys', List.pairwise_map]
        have := List.pairwise_map.1 hn
        exact this.imp fun hne e => hne (by injection e)
      exact List.pairwise_map.1 this
    · obtain ⟨s, h1, h2⟩ := hkey y hy
      exact ⟨_, by simp [WideElems.rd, h1, hkk s h2, R]; rfl⟩
  have hrg : ∀ y ∈ es, WideElems.rg P (ρk.t 26) R y = (Lit.string (match y.key with | .string s => bl s | _ => []), DataW.lit (.bool true)) := fun y hy => by
    obtain ⟨s, h1, h2⟩ := hkey y hy
    have : WideElems.rd P (ρk.t 26) R y = some (Lit.string (bl s), DataW.lit (.bool true)) := by simp [WideElems.rd, h1, hkk s h2, R]; rfl
    rw [WideElems.rg_of this, h1]
  have hown : w.ownsMap P (ρk.t 26) R b l.length (.map ((es.map (WideElems.rg P (ρk.t 26) R)).foldr DataW.insert [])) := ⟨es.toArray, clock, hmap, hFit, by simp [hesl], rfl⟩
  have hsize : Maps.size (DataW.map ((es.map (WideElems.rg P (ρk.t 26) R)).foldr DataW.insert [])) = l.length := by simp [Maps.size, length_sorted, hesl]
  have hkl : strKeys (DataW.map ((es.map (WideElems.rg P (ρk.t 26) R)).foldr DataW.insert [])) = ((es.map (WideElems.rg P (ρk.t 26) R)).foldr DataW.insert []).map fun p => strOf p.1 := rfl
  have hperm : (strKeys (DataW.map ((es.map (WideElems.rg P (ρk.t 26) R)).foldr DataW.insert []))).Perm ((l.map (·.1)).map bl) := by
    rw [hkl]
    refine ((WideShapes.sorted_perm _).map _).trans (List.Perm.of_eq ?_)
    rw [List.map_map, List.map_map]
    have h1 : es.map ((fun p : Lit × DataW Unit => strOf p.1) ∘ WideElems.rg P (ρk.t 26) R) = es.map (fun y => match y.key with | .string s => bl s | _ => []) := List.map_congr_left fun y hy => by
      show strOf (WideElems.rg P (ρk.t 26) R y).1 = _
      rw [hrg y hy]
      rfl
    have h2 : es.map (fun y => match y.key with | .string s => bl s | _ => []) = (es.map (·.key)).map (fun k => match k with | .string s => bl s | _ => []) := by rw [List.map_map]; rfl
    rw [h1, h2, hkeys', List.map_map]
    rfl
  generalize DataW.map ((es.map (WideElems.rg P (ρk.t 26) R)).foldr DataW.insert []) = D0 at *
  have hseq := AnyZ.keys_gives LK Fence.wide 2 trivial rfl (by omega) bb b l.length D0 w (Array.getElem?_eq_some_iff.1 hbox).1 (by simp [World.cell?, hbox]) hown
  have hsorts : AnyZ.SortsIn P ρs Fence.wide 4 := ⟨fun blk off cap ss W hH hblk hsz => callsIn_wide.2 (by rw [h9]; exact AnyM.slices_Sort_string LM blk off cap ss W hH hblk hsz),
    fun p cap W => callsIn_wide.2 (by rw [h9]; exact AnyM.slices_Sort_string_none LM p cap W)⟩
  have hcon := AnyZ.sorted_in LS Fence.wide 5 trivial trivial trivial trivial rfl (by omega) hsorts e9 (ρk.f 10) #[.pointer (some ⟨bb, 0, none⟩)] trivial eg _ (Maps.size D0) (by rw [hsize]; unfold maxLen; omega) (by rw [hsize]; omega) w hseq
  refine (callsIn_wide.1 hcon).mono fun e w' ⟨v, ss, he, hS, hrow, _, hb⟩ => ?_
  have hss : (ss.mergeSort (fun x y => decide (x ≤ y))).map Go.Proofs.encStr = (sortB (l.map (·.1))).map Value.string := by
    have h1 : ss.mergeSort leL = ((l.map (·.1)).map bl).mergeSort leL := sort_eq (hS.trans hperm)
    show (ss.mergeSort leL).map Go.Proofs.encStr = _
    rw [h1, enc_ofB]
    rfl
  have hsl : ss.length = (sortB (l.map (·.1))).length := by rw [sortB_len, (hS.trans hperm).length_eq, List.length_map]
  rw [hss, hsl] at hrow
  refine ⟨v, .own 2 v, _, M, he, ⟨v, rfl, rfl⟩, Ext.refl _ _, ?_, by
    simp only [RA]
    refine ⟨trivial, ?_⟩
    rcases hrow.2 with ⟨rfl, _⟩ | ⟨g, cap, cur, rfl, _⟩ <;> rfl⟩
  refine push_row (x := .row v (ρs.t 26) 1 (sortB (l.map (·.1))).length ((sortB (l.map (·.1))).flatMap strTs)) hM hb.os hb.tape hb.output hb.size hb.block (Ext.refl _ _) (fun p v h1 h2 => by rw [h2] at h1; cases h1) ⟨_, ownsO_of hrow, strs_rts _, strs_one _, by omega⟩ (fun q hq => ?_)
  rcases hrow.2 with ⟨rfl, _⟩ | ⟨g, cap, cur, rfl, hbase, _⟩
  · cases hq
  · obtain rfl : g = q := by simpa [Blk.blk, Value.ownBlock] using hq
    exact ⟨hbase, fun p hp => mem_fresh hM.mem (by omega)⟩
end Go.Proofs.Ytnkafjkcjpajgaa
