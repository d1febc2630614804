/-
  Texts of this proof, part 8: Tab Kma Koc Kod Ab52 Koe Kof Koj Kol Kom Kon Kra Krb Krc Kre Kfa Kfb Kfp Kfq Kfr Kmb Kmc.
-/
import Derived.Test.YtdogdjcjmhogmaaQMarkRuns7
import Derived.Test.YtdogdjcjmhogmaaProg
namespace Go.Proofs.Ytdogdjcjmhogmaa
set_option maxRecDepth 100000 in
def tab : Tab :=
  (.node 119 ⟨1, 8, [.nilFunc], .other⟩ (.node 61 ⟨1, 8, [.nilFunc], .other⟩ (.node 28 ⟨1, 8, [.nilFunc], .other⟩ (.node 14 ⟨2, 24, [.string ⟨#[]⟩, .int .u64 0], (.struct [(0, 1), (1, 1)])⟩ (.node 7 ⟨4, 24, [.int .i64 0, .int .i64 0, .bool false, .int .u8 0], (.struct [(0, 1), (1, 1), (2, 1), (3, 1)])⟩ (.node 4 ⟨1, 1, [.bool false], .bool⟩ (.node 2 ⟨1, 8, [.int .i64 0], (.int .i64)⟩ (.node 1 ⟨1, 8, [.nilFunc], .other⟩ .nil .nil) (.node 3 ⟨1, 8, [.int .i64 0], (.int .i64)⟩ .nil .nil)) (.node 6 ⟨1, 1, [.int .u8 0], (.int .u8)⟩ (.node 5 ⟨1, 1, [.int .u8 0], (.int .u8)⟩ .nil .nil) .nil)) (.node 11 ⟨1, 16, [.string ⟨#[]⟩], .string⟩ (.node 9 ⟨1, 16, [.string ⟨#[]⟩], .string⟩ (.node 8 ⟨4, 24, [.int .i64 0, .int .i64 0, .bool false, .int .u8 0], (.struct [(0, 1), (1, 1), (2, 1), (3, 1)])⟩ .nil .nil) (.node 10 ⟨1, 16, [.string ⟨#[]⟩], .string⟩ .nil .nil)) (.node 13 ⟨2, 24, [.string ⟨#[]⟩, .int .u64 0], (.struct [(0, 1), (1, 1)])⟩ (.node 12 ⟨1, 8, [.int .u64 0], (.int .u64)⟩ .nil .nil) .nil))) (.node 21 ⟨1, 4, [.int .i32 0], (.int .i32)⟩ (.node 18 ⟨1, 8, [.pointer none], (.struct [(0, 1)])⟩ (.node 16 ⟨1, 8, [.pointer none], .other⟩ (.node 15 ⟨1, 8, [.pointer none], .other⟩ .nil .nil) (.node 17 ⟨1, 8, [.pointer none], .other⟩ .nil .nil)) (.node 20 ⟨1, 16, [.nilIface], .other⟩ (.node 19 ⟨1, 8, [.pointer none], (.struct [(0, 1)])⟩ .nil .nil) .nil)) (.node 24 ⟨1, 8, [.pointer none], .other⟩ (.node 23 ⟨1, 24, [.slice none 0 0], (.slice 34)⟩ (.node 22 ⟨1, 24, [.slice none 0 0], (.slice 3)⟩ .nil .nil) .nil) (.node 27 ⟨1, 8, [.nilFunc], .other⟩ (.node 25 ⟨1, 8, [.int .i64 0], (.int .i64)⟩ .nil .nil) .nil)))) (.node 43 ⟨1, 8, [.pointer none], .other⟩ (.node 36 ⟨1, 8, [.nilFunc], .other⟩ (.node 32 ⟨1, 24, [.slice none 0 0], (.slice 5)⟩ (.node 30 ⟨1, 8, [.map none], .other⟩ (.node 29 ⟨1, 8, [.nilFunc], .other⟩ .nil .nil) (.node 31 ⟨1, 8, [.map none], .other⟩ .nil .nil)) (.node 34 ⟨4, 64, [.int .i64 0, .int .i64 0, .slice none 0 0, .slice none 0 0], (.struct [(0, 1), (1, 1), (2, 1), (3, 1)])⟩ (.node 33 ⟨4, 64, [.int .i64 0, .int .i64 0, .slice none 0 0, .slice none 0 0], (.struct [(0, 1), (1, 1), (2, 1), (3, 1)])⟩ .nil .nil) .nil)) (.node 40 ⟨1, 8, [.nilFunc], .other⟩ (.node 38 ⟨1, 24, [.slice none 0 0], (.slice 22)⟩ (.node 37 ⟨1, 8, [.nilFunc], .other⟩ .nil .nil) .nil) (.node 42 ⟨1, 8, [.nilFunc], .other⟩ (.node 41 ⟨1, 8, [.nilFunc], .other⟩ .nil .nil) .nil))) (.node 53 ⟨1, 8, [.nilFunc], .other⟩ (.node 48 ⟨1, 8, [.nilFunc], .other⟩ (.node 45 ⟨1, 8, [.map none], .other⟩ (.node 44 ⟨1, 8, [.nilFunc], .other⟩ .nil .nil) (.node 46 ⟨1, 8, [.map none], .other⟩ .nil .nil)) (.node 52 ⟨1, 8, [.nilFunc], .other⟩ (.node 50 ⟨1, 8, [.nilFunc], .other⟩ .nil .nil) .nil)) (.node 57 ⟨1, 8, [.pointer none], .other⟩ (.node 56 ⟨1, 8, [.nilFunc], .other⟩ (.node 54 ⟨1, 8, [.nilFunc], .other⟩ .nil .nil) .nil) (.node 59 ⟨2, 24, [.string ⟨#[]⟩, .int .i64 0], (.struct [(0, 1), (1, 1)])⟩ (.node 58 ⟨2, 24, [.string ⟨#[]⟩, .int .i64 0], (.struct [(0, 1), (1, 1)])⟩ .nil .nil) .nil))))) (.node 91 ⟨1, 8, [.nilFunc], .other⟩ (.node 76 ⟨1, 8, [.nilFunc], .other⟩ (.node 69 ⟨5, 40, [.int .i64 0, .int .i64 0, .int .i64 0, .int .i64 0, .int .i64 0], (.struct [(0, 1), (1, 1), (2, 1), (3, 1), (4, 1)])⟩ (.node 65 ⟨4, 64, [.slice none 0 0, .slice none 0 0, .int .i64 0, .int .i64 0], (.struct [(0, 1), (1, 1), (2, 1), (3, 1)])⟩ (.node 63 ⟨1, 24, [.slice none 0 0], (.slice 70)⟩ (.node 62 ⟨1, 8, [.nilFunc], .other⟩ .nil .nil) (.node 64 ⟨1, 24, [.slice none 0 0], (.slice 71)⟩ .nil .nil)) (.node 68 ⟨1, 8, [.nilFunc], .other⟩ (.node 66 ⟨4, 64, [.slice none 0 0, .slice none 0 0, .int .i64 0, .int .i64 0], (.struct [(0, 1), (1, 1), (2, 1), (3, 1)])⟩ .nil .nil) .nil)) (.node 73 ⟨2, 16, [.int .i64 0, .int .i64 0], (.struct [(0, 1), (1, 1)])⟩ (.node 71 ⟨1, 24, [.slice none 0 0], (.slice 73)⟩ (.node 70 ⟨5, 40, [.int .i64 0, .int .i64 0, .int .i64 0, .int .i64 0, .int .i64 0], (.struct [(0, 1), (1, 1), (2, 1), (3, 1), (4, 1)])⟩ .nil .nil) (.node 72 ⟨2, 16, [.int .i64 0, .int .i64 0], (.struct [(0, 1), (1, 1)])⟩ .nil .nil)) (.node 75 ⟨1, 8, [.nilFunc], .other⟩ (.node 74 ⟨1, 8, [.nilFunc], .other⟩ .nil .nil) .nil))) (.node 84 ⟨4, 32, [.int .i64 0, .int .i64 0, .int .i64 0, .int .i64 0], (.struct [(0, 1), (1, 1), (2, 1), (3, 1)])⟩ (.node 80 ⟨5, 88, [.bool false, .slice none 0 0, .slice none 0 0, .slice none 0 0, .int .i64 0], (.struct [(0, 1), (1, 1), (2, 1), (3, 1), (4, 1)])⟩ (.node 78 ⟨1, 24, [.slice none 0 0], (.slice 38)⟩ (.node 77 ⟨1, 24, [.slice none 0 0], (.slice 84)⟩ .nil .nil) (.node 79 ⟨5, 88, [.bool false, .slice none 0 0, .slice none 0 0, .slice none 0 0, .int .i64 0], (.struct [(0, 1), (1, 1), (2, 1), (3, 1), (4, 1)])⟩ .nil .nil)) (.node 83 ⟨4, 32, [.int .i64 0, .int .i64 0, .int .i64 0, .int .i64 0], (.struct [(0, 1), (1, 1), (2, 1), (3, 1)])⟩ (.node 82 ⟨1, 8, [.nilFunc], .other⟩ .nil .nil) .nil)) (.node 87 ⟨1, 8, [.nilFunc], .other⟩ (.node 86 ⟨1, 8, [.nilFunc], .other⟩ (.node 85 ⟨1, 8, [.nilFunc], .other⟩ .nil .nil) .nil) (.node 89 ⟨1, 24, [.slice none 0 0], (.slice 93)⟩ (.node 88 ⟨1, 8, [.nilFunc], .other⟩ .nil .nil) .nil)))) (.node 104 ⟨2, 16, [.map none, .map none], (.struct [(0, 1), (1, 1)])⟩ (.node 98 ⟨5, 88, [.slice none 0 0, .bool false, .int .i64 0, .slice none 0 0, .slice none 0 0], (.struct [(0, 1), (1, 1), (2, 1), (3, 1), (4, 1)])⟩ (.node 95 ⟨1, 8, [.nilFunc], .other⟩ (.node 93 ⟨3, 32, [.int .i64 0, .int .i64 0, .string ⟨#[]⟩], (.struct [(0, 1), (1, 1), (2, 1)])⟩ (.node 92 ⟨3, 32, [.int .i64 0, .int .i64 0, .string ⟨#[]⟩], (.struct [(0, 1), (1, 1), (2, 1)])⟩ .nil .nil) (.node 94 ⟨1, 8, [.nilFunc], .other⟩ .nil .nil)) (.node 97 ⟨1, 24, [.slice none 0 0], (.slice 4)⟩ (.node 96 ⟨1, 8, [.nilFunc], .other⟩ .nil .nil) .nil)) (.node 101 ⟨1, 8, [.nilFunc], .other⟩ (.node 100 ⟨1, 8, [.nilFunc], .other⟩ (.node 99 ⟨5, 88, [.slice none 0 0, .bool false, .int .i64 0, .slice none 0 0, .slice none 0 0], (.struct [(0, 1), (1, 1), (2, 1), (3, 1), (4, 1)])⟩ .nil .nil) .nil) (.node 103 ⟨1, 8, [.map none], .other⟩ (.node 102 ⟨1, 8, [.map none], .other⟩ .nil .nil) .nil))) (.node 113 ⟨1, 24, [.slice none 0 0], (.slice 9)⟩ (.node 109 ⟨1, 8, [.nilFunc], .other⟩ (.node 107 ⟨2, 24, [.string ⟨#[]⟩, .int .i64 0], (.struct [(0, 1), (1, 1)])⟩ (.node 105 ⟨2, 16, [.map none, .map none], (.struct [(0, 1), (1, 1)])⟩ .nil .nil) (.node 108 ⟨2, 24, [.string ⟨#[]⟩, .int .i64 0], (.struct [(0, 1), (1, 1)])⟩ .nil .nil)) (.node 112 ⟨1, 8, [.nilFunc], .other⟩ (.node 111 ⟨1, 24, [.slice none 0 0], (.slice 32)⟩ .nil .nil) .nil)) (.node 116 ⟨1, 8, [.nilFunc], .other⟩ (.node 115 ⟨1, 8, [.map none], .other⟩ (.node 114 ⟨1, 8, [.nilFunc], .other⟩ .nil .nil) .nil) (.node 118 ⟨1, 8, [.pointer none], .other⟩ (.node 117 ⟨1, 8, [.nilFunc], .other⟩ .nil .nil) .nil)))))) (.node 173 ⟨1, 24, [.slice none 0 0], (.slice 201)⟩ (.node 146 ⟨1, 24, [.slice none 0 0], (.slice 145)⟩ (.node 133 ⟨2, 16, [.int .i64 0, .map none], (.struct [(0, 1), (1, 1)])⟩ (.node 126 ⟨8, 112, [.int .i64 0, .slice none 0 0, .map none, .map none, .map none, .map none, .slice none 0 0, .slice none 0 0], (.struct [(0, 1), (1, 1), (2, 1), (3, 1), (4, 1), (5, 1), (6, 1), (7, 1)])⟩ (.node 123 ⟨1, 8, [.map none], .other⟩ (.node 121 ⟨1, 8, [.map none], .other⟩ (.node 120 ⟨1, 8, [.nilFunc], .other⟩ .nil .nil) (.node 122 ⟨1, 8, [.map none], .other⟩ .nil .nil)) (.node 125 ⟨1, 24, [.slice none 0 0], (.slice 129)⟩ (.node 124 ⟨1, 8, [.map none], .other⟩ .nil .nil) .nil)) (.node 130 ⟨2, 16, [.int .i64 0, .int .i64 0], (.struct [(0, 1), (1, 1)])⟩ (.node 128 ⟨2, 16, [.int .i64 0, .int .i64 0], (.array 2 3)⟩ (.node 127 ⟨8, 112, [.int .i64 0, .slice none 0 0, .map none, .map none, .map none, .map none, .slice none 0 0, .slice none 0 0], (.struct [(0, 1), (1, 1), (2, 1), (3, 1), (4, 1), (5, 1), (6, 1), (7, 1)])⟩ .nil .nil) (.node 129 ⟨1, 24, [.slice none 0 0], (.slice 184)⟩ .nil .nil)) (.node 132 ⟨1, 8, [.pointer none], .other⟩ (.node 131 ⟨2, 16, [.int .i64 0, .int .i64 0], (.struct [(0, 1), (1, 1)])⟩ .nil .nil) .nil))) (.node 140 ⟨1, 8, [.map none], .other⟩ (.node 137 ⟨1, 24, [.slice none 0 0], (.slice 141)⟩ (.node 135 ⟨1, 24, [.slice none 0 0], (.slice 115)⟩ (.node 134 ⟨2, 16, [.int .i64 0, .map none], (.struct [(0, 1), (1, 1)])⟩ .nil .nil) (.node 136 ⟨1, 24, [.slice none 0 0], (.slice 138)⟩ .nil .nil)) (.node 139 ⟨1, 24, [.slice none 0 0], (.slice 146)⟩ (.node 138 ⟨1, 8, [.map none], .other⟩ .nil .nil) .nil)) (.node 143 ⟨2, 16, [.int .i64 0, .int .i64 0], (.struct [(0, 1), (1, 1)])⟩ (.node 142 ⟨2, 16, [.int .i64 0, .int .i64 0], (.struct [(0, 1), (1, 1)])⟩ (.node 141 ⟨1, 24, [.slice none 0 0], (.slice 143)⟩ .nil .nil) .nil) (.node 145 ⟨7, 56, [.int .i64 0, .int .i64 0, .int .i64 0, .int .i64 0, .int .i64 0, .int .i64 0, .int .i64 0], (.struct [(0, 1), (1, 1), (2, 1), (3, 1), (4, 1), (5, 1), (6, 1)])⟩ (.node 144 ⟨7, 56, [.int .i64 0, .int .i64 0, .int .i64 0, .int .i64 0, .int .i64 0, .int .i64 0, .int .i64 0], (.struct [(0, 1), (1, 1), (2, 1), (3, 1), (4, 1), (5, 1), (6, 1)])⟩ .nil .nil) .nil)))) (.node 159 ⟨1, 8, [.nilFunc], .other⟩ (.node 153 ⟨1, 8, [.nilFunc], .other⟩ (.node 150 ⟨1, 8, [.pointer none], .other⟩ (.node 148 ⟨1, 8, [.nilFunc], .other⟩ (.node 147 ⟨1, 8, [.nilFunc], .other⟩ .nil .nil) (.node 149 ⟨1, 8, [.nilFunc], .other⟩ .nil .nil)) (.node 152 ⟨1, 8, [.nilFunc], .other⟩ (.node 151 ⟨1, 8, [.nilFunc], .other⟩ .nil .nil) .nil)) (.node 156 ⟨5, 56, [.slice none 0 0, .int .i64 0, .int .i64 0, .bool false, .int .i64 0], (.struct [(0, 1), (1, 1), (2, 1), (3, 1), (4, 1)])⟩ (.node 155 ⟨1, 8, [.pointer none], .other⟩ (.node 154 ⟨1, 8, [.map none], .other⟩ .nil .nil) .nil) (.node 158 ⟨1, 8, [.map none], .other⟩ (.node 157 ⟨5, 56, [.slice none 0 0, .int .i64 0, .int .i64 0, .bool false, .int .i64 0], (.struct [(0, 1), (1, 1), (2, 1), (3, 1), (4, 1)])⟩ .nil .nil) .nil))) (.node 166 ⟨1, 16, [.nilIface], .other⟩ (.node 163 ⟨5, 32, [.int .i64 0, .int .i64 0, .bool false, .bool false, .int .i64 0], (.struct [(0, 1), (1, 1), (2, 1), (3, 1), (4, 1)])⟩ (.node 161 ⟨2, 32, [.pointer none, .slice none 0 0], (.struct [(0, 1), (1, 1)])⟩ (.node 160 ⟨1, 8, [.pointer none], .other⟩ .nil .nil) (.node 162 ⟨2, 32, [.pointer none, .slice none 0 0], (.struct [(0, 1), (1, 1)])⟩ .nil .nil)) (.node 165 ⟨1, 24, [.slice none 0 0], (.slice 164)⟩ (.node 164 ⟨5, 32, [.int .i64 0, .int .i64 0, .bool false, .bool false, .int .i64 0], (.struct [(0, 1), (1, 1), (2, 1), (3, 1), (4, 1)])⟩ .nil .nil) .nil)) (.node 170 ⟨1, 8, [.nilFunc], .other⟩ (.node 169 ⟨1, 8, [.nilFunc], .other⟩ (.node 167 ⟨1, 16, [.nilIface], .other⟩ .nil .nil) .nil) (.node 172 ⟨1, 8, [.nilFunc], .other⟩ (.node 171 ⟨1, 8, [.nilFunc], .other⟩ .nil .nil) .nil))))) (.node 201 ⟨1, 8, [.pointer none], .other⟩ (.node 187 ⟨1, 8, [.map none], .other⟩ (.node 181 ⟨2, 16, [.int .i64 0, .int .i64 0], (.struct [(0, 1), (1, 1)])⟩ (.node 178 ⟨1, 8, [.nilFunc], .other⟩ (.node 176 ⟨1, 8, [.nilFunc], .other⟩ (.node 175 ⟨1, 8, [.nilFunc], .other⟩ .nil .nil) (.node 177 ⟨1, 8, [.nilFunc], .other⟩ .nil .nil)) (.node 180 ⟨1, 8, [.nilFunc], .other⟩ (.node 179 ⟨1, 8, [.nilFunc], .other⟩ .nil .nil) .nil)) (.node 184 ⟨7, 56, [.int .i64 0, .int .i64 0, .int .i64 0, .int .i64 0, .int .i64 0, .int .i64 0, .int .i64 0], (.struct [(0, 1), (1, 1), (2, 1), (3, 1), (4, 1), (5, 2)])⟩ (.node 183 ⟨7, 56, [.int .i64 0, .int .i64 0, .int .i64 0, .int .i64 0, .int .i64 0, .int .i64 0, .int .i64 0], (.struct [(0, 1), (1, 1), (2, 1), (3, 1), (4, 1), (5, 2)])⟩ (.node 182 ⟨2, 16, [.int .i64 0, .int .i64 0], (.struct [(0, 1), (1, 1)])⟩ .nil .nil) .nil) (.node 186 ⟨1, 8, [.nilFunc], .other⟩ (.node 185 ⟨1, 8, [.nilFunc], .other⟩ .nil .nil) .nil))) (.node 194 ⟨3, 24, [.int .i64 0, .int .i64 0, .int .i64 0], (.struct [(0, 1), (1, 1), (2, 1)])⟩ (.node 191 ⟨1, 8, [.nilFunc], .other⟩ (.node 189 ⟨3, 56, [.slice none 0 0, .slice none 0 0, .map none], (.struct [(0, 1), (1, 1), (2, 1)])⟩ (.node 188 ⟨1, 24, [.slice none 0 0], (.slice 24)⟩ .nil .nil) (.node 190 ⟨3, 56, [.slice none 0 0, .slice none 0 0, .map none], (.struct [(0, 1), (1, 1), (2, 1)])⟩ .nil .nil)) (.node 193 ⟨3, 24, [.int .i64 0, .int .i64 0, .int .i64 0], (.struct [(0, 1), (1, 1), (2, 1)])⟩ (.node 192 ⟨1, 24, [.slice none 0 0], (.slice 194)⟩ .nil .nil) .nil)) (.node 198 ⟨1, 8, [.nilFunc], .other⟩ (.node 196 ⟨1, 8, [.int .u64 0], (.int .u64)⟩ (.node 195 ⟨1, 8, [.nilFunc], .other⟩ .nil .nil) .nil) (.node 200 ⟨1, 8, [.nilFunc], .other⟩ (.node 199 ⟨1, 8, [.pointer none], .other⟩ .nil .nil) .nil)))) (.node 217 ⟨1, 8, [.nilFunc], .other⟩ (.node 210 ⟨1, 8, [.nilFunc], .other⟩ (.node 205 ⟨1, 8, [.nilFunc], .other⟩ (.node 203 ⟨5, 64, [.int .i64 0, .int .i64 0, .string ⟨#[]⟩, .slice none 0 0, .int .i64 0], (.struct [(0, 3), (3, 1), (4, 1)])⟩ (.node 202 ⟨5, 64, [.int .i64 0, .int .i64 0, .string ⟨#[]⟩, .slice none 0 0, .int .i64 0], (.struct [(0, 3), (3, 1), (4, 1)])⟩ .nil .nil) (.node 204 ⟨1, 8, [.nilFunc], .other⟩ .nil .nil)) (.node 208 ⟨1, 4, [.int .u32 0], (.int .u32)⟩ (.node 207 ⟨1, 8, [.nilFunc], .other⟩ .nil .nil) .nil)) (.node 214 ⟨1, 8, [.nilFunc], .other⟩ (.node 213 ⟨1, 8, [.nilFunc], .other⟩ (.node 211 ⟨1, 8, [.int .u64 0], (.int .u64)⟩ .nil .nil) .nil) (.node 216 ⟨1, 8, [.nilFunc], .other⟩ (.node 215 ⟨1, 8, [.nilFunc], .other⟩ .nil .nil) .nil))) (.node 224 ⟨1, 1, [.int .u8 0], (.int .u8)⟩ (.node 221 ⟨0, 0, [], (.struct [(0, 0)])⟩ (.node 219 ⟨4, 40, [.pointer none, .pointer none, .pointer none, .string ⟨#[]⟩], (.struct [(0, 1), (1, 1), (2, 1), (3, 1)])⟩ (.node 218 ⟨4, 40, [.pointer none, .pointer none, .pointer none, .string ⟨#[]⟩], (.struct [(0, 1), (1, 1), (2, 1), (3, 1)])⟩ .nil .nil) (.node 220 ⟨0, 0, [], (.array 0 16)⟩ .nil .nil)) (.node 223 ⟨1, 1, [.int .u8 0], (.int .u8)⟩ (.node 222 ⟨0, 0, [], (.struct [(0, 0)])⟩ .nil .nil) .nil)) (.node 227 ⟨1, 4, [.int .i32 0], (.int .i32)⟩ (.node 226 ⟨1, 4, [.int .i32 0], (.int .i32)⟩ (.node 225 ⟨1, 8, [.nilFunc], .other⟩ .nil .nil) .nil) (.node 229 ⟨11, 48, [.int .u64 0, .int .u64 0, .int .u32 0, .int .u8 0, .int .u8 0, .int .u8 0, .int .u8 0, .nilFunc, .pointer none, .int .i32 0, .int .i32 0], (.struct [(0, 1), (1, 1), (2, 1), (3, 1), (4, 1), (5, 1), (6, 1), (7, 1), (8, 1), (9, 1), (10, 1)])⟩ (.node 228 ⟨11, 48, [.int .u64 0, .int .u64 0, .int .u32 0, .int .u8 0, .int .u8 0, .int .u8 0, .int .u8 0, .nilFunc, .pointer none, .int .i32 0, .int .i32 0], (.struct [(0, 1), (1, 1), (2, 1), (3, 1), (4, 1), (5, 1), (6, 1), (7, 1), (8, 1), (9, 1), (10, 1)])⟩ .nil .nil) .nil)))))))
set_option maxRecDepth 100000 in
theorem tabOkB : tab.okB Try.prog = true := by kernel_rfl
theorem tok : TabOk Try.prog tab := tab_ok tabOkB
end Go.Proofs.Ytdogdjcjmhogmaa
namespace Go.Proofs.Ytdogdjcjmhogmaa
open Go.RowKit
theorem nth {α : Type} {l : List α} {k : Nat} (h : k < l.length) : ∃ a, l[k]? = some a := ⟨_, List.getElem?_eq_getElem h⟩
def boTs (b : Bool) : List T := [.lit (.bool b)]
def boRow (l : List Bool) : T := .row l.length 1 (l.flatMap boTs)
theorem bo_at {l : List Bool} {k : Nat} {b : Bool} (h : l[k]? = some b) : (l.flatMap boTs)[k * 1]? = some (.lit (.bool b)) := flat_get boTs 1 (fun _ => rfl) h (j := 0) (by omega)
theorem flat_ints : ∀ l : List Int, flatTs (l.flatMap intTs) = true
  | [] => rfl
  | a :: l => by
    rw [List.flatMap_cons]
    show flatTs (.lit (.int .i64 a) :: l.flatMap intTs) = true
    rw [flatTs, flat_ints l]; rfl
set_option maxRecDepth 100000 in
set_option maxHeartbeats 1000000 in
theorem idxInt_af (l : List Int) (s : Int) : AF Try.prog 44 [intRow l, .lit (.int .i64 s)] (· = .lit (.int .i64 (idxI (fun a => decide (s = a)) l))) := by
  refine af_enter tok Try.func44 Try.ntmps44 Try.results44 rfl (by kernel_rfl) rfl rfl fun F hX => ?_
  repeat (first | refine gG ?_ | refine zN1 (fun hlen => ?_) | refine zN2 (fun hlen => ?_))
  refine x_loop [4, 5, 8, 9, 10, 11, 12, 13, 14, 15, 16, 17, 18] (fun k : Nat => [(8, .c (.lit (.int .i64 (k : Nat))))]) (fun _ => []) (fun k => k ≤ l.length ∧ idxAt (fun a => decide (s = a)) l k) (fun k => l.length - k) 0 ⟨Nat.zero_le _, idxAt_zero _ l⟩ ⟨rfl, trivial⟩ rfl fun k hk => ?_
  repeat (first | refine gG ?_ | refine zN1 (fun hlen => ?_) | refine zN2 (fun hlen => ?_))
  refine x_cond rfl (fun h => ?_) (fun h => ?_)
  · have hk' : k < l.length := by simpa using h
    obtain ⟨a, ha⟩ := nth hk'
    have hat := int_at ha
    have hno := fun hp => idxAt_no hk.2 ha hp
    have hyes := fun hp => idxAt_yes hk.2 ha hp
    clear h ha hk
    cases d1 : decide (s = a)
    · replace hno := hno d1
      repeat (first | refine gG ?_ | refine zN1 (fun hlen => ?_) | refine zN2 (fun hlen => ?_))
      refine zIx k hk' ?_
      repeat (first | refine gG ?_ | refine zN1 (fun hlen => ?_) | refine zN2 (fun hlen => ?_))
      refine zEl1 hat ?_
      repeat (first | refine gG ?_ | refine zN1 (fun hlen => ?_) | refine zN2 (fun hlen => ?_))
      exact ⟨k + 1, ⟨hk', hno⟩, by omega, x_wkd 0 ⟨rfl, trivial⟩ rfl (by repeat (first | exact ag_refl | refine ag_upd rfl ?_ | refine ag_at rfl rfl ?_))⟩
    · replace hyes := hyes d1
      repeat (first | refine gG ?_ | refine zN1 (fun hlen => ?_) | refine zN2 (fun hlen => ?_))
      refine zIx k hk' ?_
      repeat (first | refine gG ?_ | refine zN1 (fun hlen => ?_) | refine zN2 (fun hlen => ?_))
      refine zEl1 hat ?_
      repeat (first | refine gG ?_ | refine zN1 (fun hlen => ?_) | refine zN2 (fun hlen => ?_))
      first | refine zR ?_ | refine zQ ?_
      rw [hyes]; rfl
  · have hk' : k = l.length := by have : ¬ k < l.length := by simpa using h
                                  omega
    subst hk'
    repeat (first | refine gG ?_ | refine zN1 (fun hlen => ?_) | refine zN2 (fun hlen => ?_))
    first | refine zR ?_ | refine zQ ?_
    rw [idxAt_end hk.2]; rfl
set_option maxRecDepth 100000 in
set_option maxHeartbeats 1000000 in
theorem hasInt_af (l : List Int) (s : Int) : AF Try.prog 10 [intRow l, .lit (.int .i64 s)] (· = .lit (.bool (l.any fun a => decide (s = a)))) := by
  have hc := idxInt_af l s
  refine af_enter tok Try.func10 Try.ntmps10 Try.results10 rfl (by kernel_rfl) rfl rfl fun F hX => ?_
  repeat (first | refine gG ?_)
  refine zCall (hc) ?_
  rintro _ rfl
  repeat (first | refine gG ?_)
  first | refine zR ?_ | refine zQ ?_
  rw [← idxI_any]; rfl
set_option maxRecDepth 100000 in
set_option maxHeartbeats 1000000 in
theorem idxFalse_af (l : List Bool) : AF Try.prog 70 [boRow l, .lit (.bool false)] (· = .lit (.int .i64 (idxI (fun a => !a) l))) := by
  refine af_enter tok Try.func70 Try.ntmps70 Try.results70 rfl (by kernel_rfl) rfl rfl fun F hX => ?_
  repeat (first | refine gG ?_ | refine zN1 (fun hlen => ?_) | refine zN2 (fun hlen => ?_))
  refine x_loop [4, 5, 8, 9, 10, 11, 12, 13, 14, 15, 16, 17, 18] (fun k : Nat => [(8, .c (.lit (.int .i64 (k : Nat))))]) (fun _ => []) (fun k => k ≤ l.length ∧ idxAt (fun a => !a) l k) (fun k => l.length - k) 0 ⟨Nat.zero_le _, idxAt_zero _ l⟩ ⟨rfl, trivial⟩ rfl fun k hk => ?_
  repeat (first | refine gG ?_ | refine zN1 (fun hlen => ?_) | refine zN2 (fun hlen => ?_))
  refine x_cond rfl (fun h => ?_) (fun h => ?_)
  · have hk' : k < l.length := by simpa using h
    obtain ⟨a, ha⟩ := nth hk'
    have hat := bo_at ha
    have hno := fun hp => idxAt_no hk.2 ha hp
    have hyes := fun hp => idxAt_yes hk.2 ha hp
    clear h ha hk
    cases a
    · replace hyes := hyes rfl
      repeat (first | refine gG ?_ | refine zN1 (fun hlen => ?_) | refine zN2 (fun hlen => ?_))
      refine zIx k hk' ?_
      repeat (first | refine gG ?_ | refine zN1 (fun hlen => ?_) | refine zN2 (fun hlen => ?_))
      refine zEl1 hat ?_
      repeat (first | refine gG ?_ | refine zN1 (fun hlen => ?_) | refine zN2 (fun hlen => ?_))
      refine lo_eqbr (r := true) rfl ?_
      repeat (first | refine gG ?_ | refine zN1 (fun hlen => ?_) | refine zN2 (fun hlen => ?_))
      first | refine zR ?_ | refine zQ ?_
      rw [hyes]; rfl
    · replace hno := hno rfl
      repeat (first | refine gG ?_ | refine zN1 (fun hlen => ?_) | refine zN2 (fun hlen => ?_))
      refine zIx k hk' ?_
      repeat (first | refine gG ?_ | refine zN1 (fun hlen => ?_) | refine zN2 (fun hlen => ?_))
      refine zEl1 hat ?_
      repeat (first | refine gG ?_ | refine zN1 (fun hlen => ?_) | refine zN2 (fun hlen => ?_))
      refine lo_eqbr (r := false) rfl ?_
      repeat (first | refine gG ?_ | refine zN1 (fun hlen => ?_) | refine zN2 (fun hlen => ?_))
      exact ⟨k + 1, ⟨hk', hno⟩, by omega, x_wkd 0 ⟨rfl, trivial⟩ rfl (by repeat (first | exact ag_refl | refine ag_upd rfl ?_ | refine ag_at rfl rfl ?_))⟩
  · have hk' : k = l.length := by have : ¬ k < l.length := by simpa using h
                                  omega
    subst hk'
    repeat (first | refine gG ?_ | refine zN1 (fun hlen => ?_) | refine zN2 (fun hlen => ?_))
    first | refine zR ?_ | refine zQ ?_
    rw [idxAt_end hk.2]; rfl
set_option maxRecDepth 100000 in
set_option maxHeartbeats 1000000 in
theorem hasFalse_af (l : List Bool) : AF Try.prog 45 [boRow l, .lit (.bool false)] (· = .lit (.bool (l.any fun a => !a))) := by
  have hc := idxFalse_af l
  refine af_enter tok Try.func45 Try.ntmps45 Try.results45 rfl (by kernel_rfl) rfl rfl fun F hX => ?_
  repeat (first | refine gG ?_)
  refine zCall (hc) ?_
  rintro _ rfl
  repeat (first | refine gG ?_)
  first | refine zR ?_ | refine zQ ?_
  rw [← idxI_any]; rfl
def Cloned (e : TypeId) (n sz : Nat) (ts : List T) (r : AV) (hs : List Blk) : Prop := ∃ v, r = .own 0 v ∧ hs = [.row v e sz n ts]
set_option maxRecDepth 100000 in
set_option maxHeartbeats 1000000 in
theorem cloneInt_ag (l : List Int) (hl : l.length ≤ 1048576) : AG Try.prog 43 [.c (intRow l)] [] (Cloned 3 l.length 1 (l.flatMap intTs)) := by
  refine ag_enter (1) tok Try.func43 Try.ntmps43 Try.results43 rfl (by kernel_rfl) rfl fun F => ?_
  repeat (first | refine gG ?_ | refine zAp (fun _ => ?_))
  refine zNs (fun b hb => ?_)
  cases b
  · repeat (first | refine gX ?_ | refine zAp (fun _ => ?_))
    refine zBo (fun _ => ?_)
    repeat (first | refine gG ?_ | refine zAp (fun _ => ?_))
    refine zG ?_
    exact ⟨_, rfl, by simp only [List.nil_append, Nat.zero_add]⟩
  · have h0 := hb rfl
    have : l = [] := List.eq_nil_of_length_eq_zero h0
    subst this
    repeat (first | refine gO ?_ | refine ac_seq ?_ | refine ac_block ?_ | refine ac_region ?_ | refine ac_skip ?_ | refine zT ?_)
    refine x_own 2 3 1 rfl rfl rfl rfl rfl ?_
    repeat (first | refine gG ?_ | refine zAp (fun _ => ?_))
    refine zG ?_
    exact ⟨_, rfl, rfl⟩
theorem eqL_len {l r : List Int} (h : l.length ≠ r.length) : decide (l = r) = false := decide_eq_false fun e => h (by rw [e])
def eqAt (l r : List Int) (k : Nat) : Prop := l.take k = r.take k
set_option maxRecDepth 100000 in
set_option maxHeartbeats 1000000 in
theorem eqInt_af (l r : List Int) : AF Try.prog 14 [intRow l, intRow r] (· = .lit (.bool (decide (l = r)))) := by
  cases q1 : decide (((l.length : Nat) : Int) = ((r.length : Nat) : Int))
  · have q2 : (!decide (((l.length : Nat) : Int) = ((r.length : Nat) : Int))) = true := by rw [q1]; rfl
    have hne : l.length ≠ r.length := by have := of_decide_eq_false q1; omega
    have hf := eqL_len hne
    generalize decide (l = r) = z at *
    subst hf
    refine af_enter tok Try.func14 Try.ntmps14 Try.results14 rfl (by kernel_rfl) rfl rfl fun F hX => ?_
    repeat (first | refine gG ?_ | refine zN1 (fun hlen => ?_) | refine zN2 (fun hlen => ?_))
    first | refine zR ?_ | refine zQ ?_
    rfl
  · have q2 : (!decide (((l.length : Nat) : Int) = ((r.length : Nat) : Int))) = false := by rw [q1]; rfl
    have hlr : l.length = r.length := by have := of_decide_eq_true q1; omega
    refine af_enter tok Try.func14 Try.ntmps14 Try.results14 rfl (by kernel_rfl) rfl rfl fun F hX => ?_
    repeat (first | refine gG ?_ | refine zN1 (fun hlen => ?_) | refine zN2 (fun hlen => ?_))
    refine x_loop [4, 5, 13, 14, 15, 16, 17, 18, 19, 20, 21, 22, 23, 24, 25] (fun k : Nat => [(13, .c (.lit (.int .i64 (k : Nat))))]) (fun _ => []) (fun k => k ≤ l.length ∧ eqAt l r k) (fun k => l.length - k) 0 ⟨Nat.zero_le _, rfl⟩ ⟨rfl, trivial⟩ rfl ?_
    rintro k ⟨hk, hE⟩
    repeat (first | refine gG ?_ | refine zN1 (fun hlen => ?_) | refine zN2 (fun hlen => ?_))
    refine x_cond rfl (fun h => ?_) (fun h => ?_)
    · have hk' : k < l.length := by simpa using h
      have hk2 : k < r.length := by omega
      obtain ⟨a, ha⟩ := nth hk'
      obtain ⟨b, hb⟩ := nth hk2
      have hat := int_at ha
      have hbt := int_at hb
      cases d1 : decide (a = b)
      · have d2 : (!decide (a = b)) = true := by rw [d1]; rfl
        have hf : decide (l = r) = false := decide_eq_false fun e => by
          rw [e, hb] at ha
          injection ha with ha
          exact of_decide_eq_false d1 ha.symm
        clear h ha hb q1 q2 hE
        repeat (first | refine gG ?_ | refine zN1 (fun hlen => ?_) | refine zN2 (fun hlen => ?_))
        refine ac_draw [1, 1, 1, 1, 1, 1, 1, 1, 1] [0, 1, 2, 3, 4, 5, 6, 7, 8] (by kernel_rfl) (by kernel_rfl) ?_
        refine gW ?_
        apply w_q; (focus exact rfl); (focus exact rfl); focus (intro _; (refine zIx k hk' ?_); exact det_refl)
        apply w_q; (focus exact rfl); (focus exact rfl); focus (intro _; (refine zEl1 hat ?_); exact det_refl)
        refine gW ?_
        apply w_q; (focus exact rfl); (focus exact rfl); focus (intro _; (refine zIx k hk2 ?_); exact det_refl)
        apply w_q; (focus exact rfl); (focus exact rfl); focus (intro _; (refine zEl1 hbt ?_); exact det_refl)
        refine gW ?_
        refine w_nil ?_
        repeat (first | refine gG ?_ | refine zN1 (fun hlen => ?_) | refine zN2 (fun hlen => ?_))
        first | refine zR ?_ | refine zQ ?_
        rw [hf]; rfl
      · have d2 : (!decide (a = b)) = false := by rw [d1]; rfl
        have hE' : eqAt l r (k + 1) := by
          unfold eqAt at *
          rw [List.take_add_one, List.take_add_one, hE, ha, hb, of_decide_eq_true d1]
        clear h ha hb q1 q2 hE
        repeat (first | refine gG ?_ | refine zN1 (fun hlen => ?_) | refine zN2 (fun hlen => ?_))
        refine ac_draw [1, 1, 1, 1, 1, 1, 1, 1, 1] [0, 1, 2, 3, 4, 5, 6, 7, 8] (by kernel_rfl) (by kernel_rfl) ?_
        refine gW ?_
        apply w_q; (focus exact rfl); (focus exact rfl); focus (intro _; (refine zIx k hk' ?_); exact det_refl)
        apply w_q; (focus exact rfl); (focus exact rfl); focus (intro _; (refine zEl1 hat ?_); exact det_refl)
        refine gW ?_
        apply w_q; (focus exact rfl); (focus exact rfl); focus (intro _; (refine zIx k hk2 ?_); exact det_refl)
        apply w_q; (focus exact rfl); (focus exact rfl); focus (intro _; (refine zEl1 hbt ?_); exact det_refl)
        refine gW ?_
        refine w_nil ?_
        repeat (first | refine gG ?_ | refine zN1 (fun hlen => ?_) | refine zN2 (fun hlen => ?_))
        exact ⟨k + 1, ⟨hk', hE'⟩, by omega, x_wkd 0 ⟨rfl, trivial⟩ rfl (by repeat (first | exact ag_refl | refine ag_upd rfl ?_ | refine ag_at rfl rfl ?_))⟩
    · have hk' : k = l.length := by
        have : ¬ k < l.length := by simpa using h
        omega
      subst hk'
      have hf : decide (l = r) = true := decide_eq_true (by
        unfold eqAt at hE
        rwa [List.take_length, hlr, List.take_length] at hE)
      clear h hE q1 q2
      repeat (first | refine gG ?_ | refine zN1 (fun hlen => ?_) | refine zN2 (fun hlen => ?_))
      first | refine zR ?_ | refine zQ ?_
      rw [hf]; rfl
end Go.Proofs.Ytdogdjcjmhogmaa
namespace Go.Proofs.Ytdogdjcjmhogmaa
open Go.RowKit
abbrev pI : Int × Int → Value := pairV (Value.int .i64)
theorem keyWay : KeyR Try.prog 128 pI := keyArr (e := 3) (by kernel_rfl) (cellI (by kernel_rfl))
@[reducible] def iL (z : Int) : T := .lit (.int .i64 z)
structure Fx where
  b : Nat
  bb : Nat
  bs : Nat
  bi : Nat
  bw : Nat
  nd : Nat
  nA : Nat
  va : Value
  vw : Value
  vg : Value
  ib : Int × Int → Nat × Nat
structure Ws where
  at_ : List Int
  bel : Int → Int → Int × Int
  nxt : Int → Int → Int
  sto : Int → Int → List (Int × Int)
  seqs : List ((Int × Int) × Int)
  ways : List ((Int × Int) × (Value × List El))
  wait : List (Value × List El)
  got : List (Value × List (Int × Int))
def bare (W : List ((Int × Int) × (Value × List El))) : List ((Int × Int) × List El) := W.map fun p => (p.1, p.2.2)
def Ws.z (w : Ws) : Zt := ⟨w.at_, w.bel, w.nxt, w.sto, w.seqs, bare w.ways, w.wait.map (·.2), w.got.map (·.2)⟩
def tabK (f : Int × Int → T) (ks : List (Int × Int)) : List ((Int × Int) × T) := ks.map fun k => (k, f k)
@[reducible] def atB (x : Fx) (l : List Int) : Blk := .row x.va 3 1 l.length (l.flatMap intTs)
def litV {α : Type} (p : Value × α) : T := .lit p.1
theorem gcase {α β : Type} [DecidableEq α] (k : α) : ∀ W : List (α × β), (gget k W = none ∧ ∀ b, gput k b W = W ++ [(k, b)]) ∨ ∃ j b, gget k W = some b ∧ W[j]? = some (k, b) ∧ ∀ b', gput k b' W = W.set j (k, b')
  | [] => .inl ⟨rfl, fun _ => rfl⟩
  | (k', b') :: W => by
    by_cases h : k = k'
    · subst h
      exact .inr ⟨0, b', by simp [gget], rfl, fun b => by simp [gput]⟩
    · rcases gcase k W with ⟨h1, h2⟩ | ⟨j, b, h1, h2, h3⟩
      · exact .inl ⟨by simp [gget, h, h1], fun b => by simp [gput, h, h2]⟩
      · exact .inr ⟨j + 1, b, by simp [gget, h, h1], by simpa using h2, fun b => by simp [gput, h, h3]⟩
end Go.Proofs.Ytdogdjcjmhogmaa
namespace Go.Proofs.Ytdogdjcjmhogmaa
open Go.RowKit
theorem tabK_get (f : Int × Int → T) (k : Int × Int) : ∀ {ks : List (Int × Int)}, k ∈ ks → mget k (tabK f ks) = some (f k)
  | [], h => by cases h
  | k' :: ks, h => by
    show mget k ((k', f k') :: tabK f ks) = _
    unfold mget
    by_cases hk : k = k'
    · simp [hk]
    · rw [if_neg hk]
      exact tabK_get f k (by rcases List.mem_cons.1 h with h | h; exact absurd h hk; exact h)
end Go.Proofs.Ytdogdjcjmhogmaa
namespace Go.Proofs.Ytdogdjcjmhogmaa
open Go.RowKit
section
variable {P : Program} {F : Frm} {L : Tab} {d : Option Tmp} {ty : TypeId} {pos : String} {aft : Array Edge} {g : Option (Nat × Bool)} {o : Oper} {ρ : Operand → AV} {hp : List Blk} {K : AV → List Blk → Prop}
theorem lo_hint (j : Nat) (h : LO P F o ρ hp fun a hp' => ∃ i b off, a = .ptr i b off ∧ K (.ptr j b off) hp') : LO P F o ρ hp K := by
  refine ⟨fun M e w he hh => (h.out M e w he hh).mono ?_⟩
  rintro u w' ⟨M', a, hp', ⟨i, b, off, rfl, hK⟩, hx, hh2, hr⟩
  exact ⟨M', _, hp', hK, hx, hh2, by simpa only [RA] using hr⟩
/-- a variable is made, at the end of the blocks; its hint is 0 -/
theorem zAlE {t : TypeId} {ti : TI} {cs : List AV} (h : ∀ b, K (.ptr 0 b 0) (hp ++ [.box b t cs])) (hL : TabOk P L := by exact tok) (ht : L.look t = some ti := by exact rfl) (hz : evl (ti.zero.map fun v => AV.c (.lit v)) = some cs := by exact rfl) : LO P F ⟨d, .alloc t, ty, pos, aft, g⟩ ρ hp K :=
  lo_hint 0 (lo_alloc hL ht fun b => ⟨_, b, 0, rfl, by rw [← evl_eq hz]; exact h b⟩)
/-- it is filled, and stands at the head of the blocks -/
theorem zStE {t : TypeId} {ti : TI} {x y : Operand} {hp1 : List Blk} {b off : Nat} {tb : TypeId} {cs vs cs' : List AV} {v : AV} (hp0 : hp = hp1 ++ [.box b tb cs]) (h : K (.c (.lit undef)) (.box b tb cs' :: hp1)) (hL : TabOk P L := by exact tok) (hx : ρ x = .ptr 0 b off := by exact rfl) (hv : fc (ρ y) = some v := by exact rfl) (ht : L.look t = some ti := by exact rfl) (hc : evl (cellsA v) = some vs := by exact rfl) (h1 : allOne vs = true := by first | exact rfl | assumption) (hl : lenU vs = some ti.size := by exact rfl) (hb : Nat.ble (off + ti.size) cs.length = true := by exact rfl) (hs : evl (spl cs off vs) = some cs' := by exact rfl) :
    LO P F ⟨d, .store t x y, ty, pos, aft, g⟩ ρ hp K := by
  subst hp0
  refine lo_frame [.box b tb cs] hp1 List.perm_append_comm fun F' => ?_
  exact v_store (hp := [.box b tb cs]) (hp' := [.box b tb cs']) hL hx rfl (fc_eq hv) ht hc h1 hl hb hs rfl h
end
/-- parts of a list, in any order -/
theorem perm_parts {α : Type} (L : List (List α)) (σ : List Nat) (h : σ.Perm (List.range L.length)) : L.flatten.Perm (σ.map fun i => L.getD i []).flatten := by
  have e : (List.range L.length).map (fun i => L.getD i []) = L := by
    apply List.ext_getElem
    · simp
    · intro i h1 h2
      simp [List.getD, h2]
  have := (h.map fun i => L.getD i []).flatten
  rw [e] at this
  exact this.symm
theorem erase_not {α : Type} {l : List α} {i : Nat} {a : α} (hn : l.Nodup) (hi : l[i]? = some a) : a ∉ l.eraseIdx i := by
  intro hm
  have hp := erase_perm (l := l) (i := i) (List.getElem?_eq_some_iff.1 hi).1
  rw [(List.getElem?_eq_some_iff.1 hi).2] at hp
  exact (List.nodup_cons.1 ((hp.nodup_iff).1 hn)).1 hm
end Go.Proofs.Ytdogdjcjmhogmaa
namespace Go.Proofs.Ytdogdjcjmhogmaa
open Go.RowKit
theorem ints_at {l : List Int} {j : Nat} {a : Int} (h : l[j]? = some a) : (l.flatMap intTs)[j * 1]? = some (iL a) := flat_get intTs 1 (fun _ => rfl) h (j := 0) (by omega)
end Go.Proofs.Ytdogdjcjmhogmaa
namespace Go.Proofs.Ytdogdjcjmhogmaa
open Go.RowKit
section
variable {P : Program} {F : Frm} {L : Tab} {d : Option Tmp} {ty : TypeId} {pos : String} {aft : Array Edge} {g : Option (Nat × Bool)} {ρ : Operand → AV} {hp : List Blk} {K : AV → List Blk → Prop}
theorem shut_lit {u : Value} (h : u.oneCell' = true) : Shut (.c (.lit u)) [.lit u] := by
  intro M v hv
  simp only [RA, RT] at hv
  subst hv
  rw [cells_one h]
  exact ⟨by simp [RTs, RT], fun x hx => by simp at hx; rw [hx]; exact h⟩
/-- a cell into an element of an own row, where the other blocks are not written out -/
theorem zSei {t : TypeId} {ti : TI} {x y : Operand} {i off n sz : Nat} {v u : Value} {e' : TypeId} {cs : List T} (hb : off + 1 ≤ cs.length) (h : K (.c (.lit undef)) (hp.set i (.row v e' sz n (cs.set off (.lit u))))) (hL : TabOk P L := by exact tok) (hx : ρ x = .eptr i v off := by exact rfl) (hi : hp[i]? = some (.row v e' sz n cs) := by exact rfl) (hy : ρ y = .c (.lit u) := by exact rfl) (h1 : u.oneCell' = true := by exact rfl) (ht : L.look t = some ti := by exact rfl) (hs : ti.size = 1 := by exact rfl) : LO P F ⟨d, .store t x y, ty, pos, aft, g⟩ ρ hp K :=
  lo_store_eG hL hx hi (us := [.lit u]) (by rw [hy]; exact shut_lit h1) ht (by rw [hs]; rfl) (by rw [hs]; exact hb) h
end
theorem ints_map (l : List Int) : l.flatMap intTs = l.map iL := by
  induction l with
  | nil => rfl
  | cons a l ih => rw [List.flatMap_cons, ih]; rfl
theorem ints_set (l : List Int) (j : Nat) (a : Int) : (l.flatMap intTs).set (j * 1) (iL a) = (l.set j a).flatMap intTs := by
  rw [ints_map, ints_map, Nat.mul_one, List.map_set]
theorem ints_len (l : List Int) : (l.flatMap intTs).length = l.length := by rw [ints_map, List.length_map]
end Go.Proofs.Ytdogdjcjmhogmaa
namespace Go.Proofs.Ytdogdjcjmhogmaa
open Go.RowKit
section
variable {P : Program} {F : Frm} {d : Option Tmp} {ty : TypeId} {pos : String} {aft : Array Edge} {g : Option (Nat × Bool)} {o : Oper} {ρ : Operand → AV} {hp : List Blk} {K : AV → List Blk → Prop}
theorem lo_hintO (j : Nat) (h : LO P F o ρ hp fun a hp' => ∃ i v, a = .own i v ∧ K (.own j v) hp') : LO P F o ρ hp K := by
  refine ⟨fun M e w he hh => (h.out M e w he hh).mono ?_⟩
  rintro u w' ⟨M', a, hp', ⟨i, v, rfl, hK⟩, hx, hh2, hr⟩
  exact ⟨M', _, hp', hK, hx, hh2, by simpa only [RA] using hr⟩
/-- a variable with a value, at the end of the blocks; its hint is 0 -/
theorem zBxE {t : TypeId} {x : Operand} {v : AV} {cs : List AV} (h : ∀ b, K (.ptr 0 b 0) (hp ++ [.box b t cs])) (hv : fc (ρ x) = some v := by exact rfl) (hc : evl (cellsA v) = some cs := by exact rfl) (h1 : allOne cs = true := by first | exact rfl | assumption) : LO P F ⟨d, .box t x, ty, pos, aft, g⟩ ρ hp K :=
  lo_hint 0 (lo_box (fc_eq hv) (by rw [← evl_eq hc]; exact h1) fun b => ⟨_, b, 0, rfl, by rw [← evl_eq hc]; exact h b⟩)
end
theorem tab_new (f : Int × Int → T) (k : Int × Int) : ∀ {ks : List (Int × Int)}, k ∉ ks → mput k (f k) (tabK f ks) = tabK f (ks ++ [k])
  | [], _ => rfl
  | k' :: ks, h => by
    have h1 : k ≠ k' := fun e => h (e ▸ List.mem_cons_self)
    show mput k (f k) ((k', f k') :: tabK f ks) = (k', f k') :: tabK f (ks ++ [k])
    unfold mput
    rw [if_neg h1, tab_new f k (fun h2 => h (List.mem_cons_of_mem _ h2))]
def bel0 (l : List Int) : Int → Int → Int × Int := fun _ w => (l.getD w.toNat 0, 0)
def nilV {α : Type} (n : Nat) : List (Value × List α) := List.replicate n (.slice none 0 0, [])
def w0 (nd : Nat) (l : List Int) : Ws := ⟨l, bel0 l, fun _ _ => 0, fun _ _ => [], [], [], nilV (nd + 1), nilV l.length⟩
end Go.Proofs.Ytdogdjcjmhogmaa
namespace Go.Proofs.Ytdogdjcjmhogmaa
open Go.RowKit
section
variable {F : Frm} {τ : Nat → AV} {hp : List Blk} {N : Nat}
theorem set_get {α : Type} {l : List α} {j : Nat} {a : α} (h : l[j]? = some a) : l.set j a = l := by
  obtain ⟨h1, rfl⟩ := List.getElem?_eq_some_iff.1 h
  exact List.set_getElem_self _
end
section
variable {P : Program} {F : Frm} {L : Tab} {d : Option Tmp} {ty : TypeId} {pos : String} {aft : Array Edge} {g : Option (Nat × Bool)} {ρ : Operand → AV} {hp : List Blk} {K : AV → List Blk → Prop}
/-- how long a row is that is held asq a literal -/
theorem zLenL {t el : TypeId} {ti : TI} {x : Operand} {n sz : Nat} {v : Value} {e' : TypeId} {cs : List T} (i : Nat) (hi : hp[i]? = some (.row v e' sz n cs)) (h : n ≤ 9223372036854775807 → K (.c (.lit (.int .i64 n))) hp) (hL : TabOk P L := by exact tok) (hx : ρ x = .c (.lit v) := by exact rfl) (ht : L.look t = some ti := by exact rfl) (hd : ti.d = .slice el := by exact rfl) : LO P F ⟨d, .call { callee := .builtin .len, args := #[x], argTypes := #[t] }, ty, pos, aft, g⟩ ρ hp K := by
  refine ⟨fun M e w he hh => ?_⟩
  have h1 := he x (by first | (simp [Op.operands]; done) | simp [Op.operands, Call.operands])
  rw [hx] at h1
  simp only [RA, RT] at h1
  obtain ⟨xs, ho, _⟩ := hh.at_ i _ hi
  obtain ⟨A, c, rfl, hnc, hc⟩ := ownO_shape ho
  have : (execOp e ⟨d, .call { callee := .builtin .len, args := #[x], argTypes := #[t] }, ty, pos, aft, g⟩).run P w = .ok (.value (.int .i64 n)) w := by
    simp [execOp, resolve, invoke, builtin, Builtin.len_, h1, run_underlying (hL.slice ht hd), goInt]
  rw [this]
  exact ⟨M, _, hp, h (Nat.le_trans hnc hc), Ext.refl _ _, hh, by simp only [RA, RT]⟩
end
def sumF (f : Nat → Nat) (Q : List Nat) : Nat := (Q.map f).sum
theorem sumF_snoc (f : Nat → Nat) (Q : List Nat) (k : Nat) : sumF f (Q ++ [k]) = sumF f Q + f k := by simp [sumF]
theorem sumF_perm {f : Nat → Nat} {Q Q' : List Nat} (h : Q.Perm Q') : sumF f Q = sumF f Q' := (h.map f).sum_nat
theorem sumF_range {α : Type} (f : α → Nat) : ∀ (l : List α) (o : Nat), sumF (fun k => ((l[k - o]?).map f).getD 0) (List.range' o l.length) = (l.map f).sum
  | [], _ => rfl
  | a :: l, o => by
    have ih := sumF_range f l (o + 1)
    unfold sumF at ih ⊢
    rw [List.length_cons, List.range'_succ, List.map_cons, List.sum_cons, List.map_cons, List.sum_cons, ← ih]
    have e : (List.range' (o + 1) l.length).map (fun k => (((a :: l)[k - o]?).map f).getD 0) = (List.range' (o + 1) l.length).map (fun k => ((l[k - (o + 1)]?).map f).getD 0) := List.map_congr_left fun k hk => by
      have := (List.mem_range'_1.1 hk).1
      rw [show k - o = (k - (o + 1)) + 1 by omega]
      rfl
    rw [e]
    simp
theorem perm_range {Q : List Nat} {n : Nat} (hn : Q.Nodup) (hl : ∀ p ∈ Q, p < n) (ha : ∀ k, k < n → k ∈ Q) : Q.Perm (List.range n) :=
  (List.perm_ext_iff_of_nodup hn List.nodup_range).2 fun a => ⟨fun h => List.mem_range.2 (hl a h), fun h => ha a (List.mem_range.1 h)⟩
theorem sumF_all {α : Type} (f : α → Nat) {l : List α} {Q : List Nat} (hn : Q.Nodup) (hl : ∀ p ∈ Q, p < l.length) (ha : ∀ k, k < l.length → k ∈ Q) : sumF (fun k => ((l[k]?).map f).getD 0) Q = (l.map f).sum := by
  rw [sumF_perm (perm_range hn hl ha), List.range_eq_range']
  exact sumF_range f l 0
end Go.Proofs.Ytdogdjcjmhogmaa
namespace Go.Proofs.Ytdogdjcjmhogmaa
open Go.RowKit
set_option maxRecDepth 100000 in
set_option maxHeartbeats 1000000 in
theorem idxIntF_af (p : Int → Bool) (f : FuncId) (cap : List T) (l : List Int) (hf : ∀ a ∈ l, AF Try.prog f ((intTs a).headD (.lit undef) :: cap) (· = .lit (.bool (p a)))) :
    AF Try.prog 72 [.row l.length 1 (l.flatMap intTs), .fn (.func f) cap] (· = .lit (.int .i64 (idxI p l))) := by
  refine af_enter tok Try.func72 Try.ntmps72 Try.results72 rfl (by kernel_rfl) rfl rfl fun F hX => ?_
  repeat (first | refine gG ?_ | refine zN1 (fun hlen => ?_) | refine zN2 (fun hlen => ?_))
  refine x_loop [4, 5, 8, 9, 10, 11, 12, 13, 14, 15, 16, 17, 18] (fun k : Nat => [(8, .c (.lit (.int .i64 k)))]) (fun _ => []) (fun k => k ≤ l.length ∧ idxAt p l k) (fun k => l.length - k) 0 ⟨Nat.zero_le _, idxAt_zero p l⟩ ⟨rfl, trivial⟩ rfl fun k hk => ?_
  repeat (first | refine gG ?_ | refine zN1 (fun hlen => ?_) | refine zN2 (fun hlen => ?_))
  refine x_cond rfl (fun h => ?_) (fun h => ?_)
  · have hk' : k < l.length := by simpa using h
    obtain ⟨a, ha⟩ := nth hk'
    have hs := hf a (List.mem_of_getElem? ha)
    repeat (first | refine gG ?_ | refine zN1 (fun hlen => ?_) | refine zN2 (fun hlen => ?_))
    refine lo_idx tok k rfl rfl rfl hk' rfl rfl rfl rfl ?_
    repeat (first | refine gG ?_ | refine zN1 (fun hlen => ?_) | refine zN2 (fun hlen => ?_))
    refine lo_load_pin1 tok rfl rfl rfl (int_at ha) ?_
    repeat (first | refine gG ?_ | refine zN1 (fun hlen => ?_) | refine zN2 (fun hlen => ?_))
    refine v_callc hs rfl (by first | exact rzs_cons rz_c rzs_self | (repeat (first | exact rzs_nil | apply rzs_cons | exact rz_c | exact rz_nil rfl | apply rz_agg | exact rz_own rfl | apply rz_fn | exact rz_ptr rfl | apply rz_tup))) ?_
    rintro _ rfl
    cases hp : p a
    · repeat (first | refine gG ?_ | refine zN1 (fun hlen => ?_) | refine zN2 (fun hlen => ?_))
      exact ⟨k + 1, ⟨hk', idxAt_no hk.2 ha hp⟩, by omega, x_wkd 0 ⟨rfl, trivial⟩ rfl (by repeat (first | exact ag_refl | refine ag_upd rfl ?_ | refine ag_at rfl rfl ?_))⟩
    · repeat (first | refine gG ?_ | refine zN1 (fun hlen => ?_) | refine zN2 (fun hlen => ?_))
      first | refine zR ?_ | refine zQ ?_
      rw [idxAt_yes hk.2 ha hp]; rfl
  · have hk' : k = l.length := by have : ¬ k < l.length := by simpa using h
                                  omega
    subst hk'
    repeat (first | refine gG ?_ | refine zN1 (fun hlen => ?_) | refine zN2 (fun hlen => ?_))
    first | refine zR ?_ | refine zQ ?_
    rw [idxAt_end hk.2]; rfl
set_option maxRecDepth 100000 in
set_option maxHeartbeats 1000000 in
theorem hasIntF_af (p : Int → Bool) (f : FuncId) (cap : List T) (l : List Int) (hf : ∀ a ∈ l, AF Try.prog f (.lit (.int .i64 a) :: cap) (· = .lit (.bool (p a)))) :
    AF Try.prog 49 [intRow l, .fn (.func f) cap] (· = .lit (.bool (l.any p))) := by
  have hc := idxIntF_af p f cap l hf
  refine af_enter tok Try.func49 Try.ntmps49 Try.results49 rfl (by kernel_rfl) rfl rfl fun F hX => ?_
  repeat (first | refine gG ?_)
  refine zCall (hc) ?_
  rintro _ rfl
  repeat (first | refine gG ?_)
  first | refine zR ?_ | refine zQ ?_
  rw [← idxI_any]; rfl
end Go.Proofs.Ytdogdjcjmhogmaa
namespace Go.Proofs.Ytdogdjcjmhogmaa
open Go.RowKit
section
variable {P : Program} {F : Frm} {L : Tab} {d : Option Tmp} {ty : TypeId} {pos : String} {aft : Array Edge} {g : Option (Nat × Bool)} {ρ : Operand → AV} {hp : List Blk} {K : AV → List Blk → Prop}
/-- a store into a variable, where the other blocks are not written out -/
theorem zStS {t : TypeId} {ti : TI} {x y : Operand} {i b off : Nat} {tb : TypeId} {cs cs' : List AV} {v : AV} (h : K (.c (.lit undef)) (hp.set i (.box b tb cs'))) (hL : TabOk P L := by exact tok) (hx : ρ x = .ptr i b off := by exact rfl) (hi : hp[i]? = some (.box b tb cs) := by exact rfl) (hv : fc (ρ y) = some v := by exact rfl) (ht : L.look t = some ti := by exact rfl) (h1 : allOne (cellsA v) = true := by first | exact rfl | assumption) (hl : (cellsA v).length = ti.size := by exact rfl) (hb : Nat.ble (off + ti.size) cs.length = true := by exact rfl) (hs : evl (spl cs off (cellsA v)) = some cs' := by exact rfl) :
    LO P F ⟨d, .store t x y, ty, pos, aft, g⟩ ρ hp K := lo_store hL hx hi (fc_eq hv) ht h1 hl hb (by rw [← evl_eq hs]; exact h)
end
structure WalkQ (n : Nat) (P : List Nat) : Prop where
  nd : P.Nodup
  lt : ∀ p ∈ P, p < n
theorem wk_forget {F : Frm} {τ : Nat → AV} {N : Nat} {H L : List Blk} {a : Blk} : Wk F ⟨τ, H ++ (a :: L), N⟩ ⟨τ, H ++ L, N⟩ := by
  refine Wk.trans (wk_perm (hp' := (H ++ L) ++ [a]) ?_) ?_
  · simpa using perm_parts [H, [a], L] [0, 2, 1] (show List.Perm _ (List.range 3) by decide)
  refine Wk.trans (wk_drop (H ++ L).length) ?_
  dsimp only
  rw [show ((H ++ L) ++ [a]).take (H ++ L).length = H ++ L from List.take_left]
  exact Wk.refl _
end Go.Proofs.Ytdogdjcjmhogmaa
namespace Go.Proofs.Ytdogdjcjmhogmaa
open Go.RowKit
/-- where the variables that the closures hold lie: where, got, next, early, sure, waits, ways, put -/
structure Gx where
  ba : Nat
  bg : Nat
  bn : Nat
  be : Nat
  bs : Nat
  bw : Nat
  by_ : Nat
  bp : Nat
  my : Nat
  nd : Nat
  nA : Nat
  va : Value
  vg : Value
  vn : Value
  ve : Value
  vs : Value
  vw : Value
  sv : Nat → Value
  mn : Nat → Nat
  me : Nat → Nat
structure Rs where
  at_ : List Int
  bel : Int → Int → Int × Int
  nxt : Nat → List (Int × Int)
  ear : Nat → List ((Int × Int) × Int)
  ways : List ((Int × Int) × (Value × List El))
  wait : List (Value × List El)
  got : List (Value × List (Int × Int))
end Go.Proofs.Ytdogdjcjmhogmaa
namespace Go.Proofs.Ytdogdjcjmhogmaa
open Go.RowKit
def filt (f : Int) (E : List ((Int × Int) × Int)) : List (Int × Int) := E.filterMap fun e => if e.1.1 = f then some (e.1.2, e.2) else none
/-- the reference's world stands asq the machine does -/
structure Rel (x : Gx) (w : Rs) (Z : Zt) : Prop where
  at_ : w.at_ = Z.at_
  bel : w.bel = Z.bel
  ways : bare w.ways = Z.ways
  wait : w.wait.map (·.2) = Z.wait
  got : w.got.map (·.2) = Z.got
  nxt : ∀ (f : Int) (j : Nat), (gget f (w.nxt j)).getD 0 = Z.nxt f j
  ear : ∀ (f : Int) (j : Nat), filt f (w.ear j) = Z.sto f j
  src : ∀ (j : Nat), ∀ e ∈ w.ear j, isN x.nd e.1.1
end Go.Proofs.Ytdogdjcjmhogmaa
namespace Go.Proofs.Ytdogdjcjmhogmaa
open Go.RowKit
theorem rng_at {α : Type} (f : Nat → α) {n i : Nat} (h : i < n) : ((List.range n).map f)[i]? = some (f i) := by rw [List.getElem?_map, List.getElem?_range h]; rfl
theorem rng_at1 {α : Type} (f : Nat → α) {n i : Nat} (h : i < n) : ((List.range n).map f)[i * 1]? = some (f i) := by rw [Nat.mul_one]; exact rng_at f h
def updN {α : Type} (f : Nat → α) (j : Nat) (v : α) : Nat → α := fun i => if i = j then v else f i
theorem updN_at {α : Type} {f : Nat → α} {j : Nat} {v : α} : updN f j v j = v := if_pos rfl
theorem rng_get {n j : Nat} (h : j < n) : (List.range n)[j]? = some j := List.getElem?_range h
end Go.Proofs.Ytdogdjcjmhogmaa
namespace Go.Proofs.Ytdogdjcjmhogmaa
open Go.RowKit
theorem any_take {p : Int → Bool} {l : List Int} {k : Nat} {a : Int} (h : l[k]? = some a) : (l.take (k + 1)).any p = ((l.take k).any p || p a) := by
  obtain ⟨h1, rfl⟩ := List.getElem?_eq_some_iff.1 h
  rw [List.take_succ_eq_append_getElem h1, List.any_append]
  simp
end Go.Proofs.Ytdogdjcjmhogmaa
namespace Go.Proofs.Ytdogdjcjmhogmaa
open Go.RowKit
theorem take_eq {α : Type} {a b : List α} {k : Nat} {x y : α} (ha : a[k]? = some x) (hb : b[k]? = some y) (h : a.take k = b.take k) (he : x = y) : a.take (k + 1) = b.take (k + 1) := by
  obtain ⟨h1, rfl⟩ := List.getElem?_eq_some_iff.1 ha
  obtain ⟨h2, rfl⟩ := List.getElem?_eq_some_iff.1 hb
  rw [List.take_succ_eq_append_getElem h1, List.take_succ_eq_append_getElem h2, h, he]
end Go.Proofs.Ytdogdjcjmhogmaa
namespace Go.Proofs.Ytdogdjcjmhogmaa
open Go.RowKit
theorem nil_ints : ∀ M u, RT M (.lit (.slice none 0 0)) u → RT M (intRow []) u := fun M u h => rt_nil (by omega) h
theorem AF.out {P : Program} {f : FuncId} {l : List T} {t t' : T} (h : AF P f l (· = t)) (hr : ∀ M u, RT M t u → RT M t' u) : AF P f l (· = t') :=
  ⟨h.1, fun M w vs hg hm hv => (h.2 M w vs hg hm hv).mono fun e w' ⟨v, r, M', he, hR, hx, hmk, hrt, hb⟩ => ⟨v, t', M', he, rfl, hx, hmk, hr _ _ (by have e : r = t := hR; rw [← e]; exact hrt), hb⟩⟩
end Go.Proofs.Ytdogdjcjmhogmaa
namespace Go.Proofs.Ytdogdjcjmhogmaa
open Go.RowKit
/-- a list in another order -/
theorem perm_sel {α : Type} (L L' : List α) (n : Nat) (σ : List Nat) (h : σ.Perm (List.range n)) (hn : L.length = n) (e : σ.filterMap (fun i => L[i]?) = L') : L.Perm L' := by
  subst e hn
  have h1 : (List.range L.length).filterMap (fun i => L[i]?) = L := by
    clear h
    induction L with
    | nil => rfl
    | cons a L ih =>
      rw [List.length_cons, List.range_succ_eq_map, List.filterMap_cons, List.filterMap_map]
      simp only [List.getElem?_cons_zero, Function.comp_def, List.getElem?_cons_succ]
      rw [ih]
  have := h.filterMap fun i => L[i]?
  rw [h1] at this
  exact this.symm
theorem rep_one (t : T) (n : Nat) : (List.replicate n [t]).flatten = List.replicate n t := by
  induction n with
  | zero => rfl
  | succ n ih => rw [List.replicate_succ, List.replicate_succ, List.flatten_cons, ih]; rfl
theorem rng_const {α : Type} (a : α) : ∀ n : Nat, (List.range n).map (fun _ => a) = List.replicate n a
  | 0 => rfl
  | n + 1 => by rw [List.range_succ, List.map_append, rng_const a n, List.replicate_succ']; rfl
theorem rng_set {α : Type} (f g : Nat → α) (n w : Nat) (v : α) (h1 : g w = v) (h2 : ∀ j, j ≠ w → g j = f j) : ((List.range n).map f).set w v = (List.range n).map g := by
  apply List.ext_getElem
  · simp
  · intro i ha hb
    simp only [List.length_set, List.length_map, List.length_range] at ha hb
    rw [List.getElem_set]
    by_cases e : w = i
    · subst e
      simp [h1]
    · rw [if_neg e]
      simp [h2 i (fun h => e h.symm)]
end Go.Proofs.Ytdogdjcjmhogmaa
namespace Go.Proofs.Ytdogdjcjmhogmaa
open Go.RowKit
theorem Rel.seqs {x : Gx} {w : Rs} {Z : Zt} (h : Rel x w Z) (s : List ((Int × Int) × Int)) : Rel x w { Z with seqs := s } := ⟨h.at_, h.bel, h.ways, h.wait, h.got, h.nxt, h.ear, h.src⟩
end Go.Proofs.Ytdogdjcjmhogmaa
namespace Go.Proofs.Ytdogdjcjmhogmaa
open Go.RowKit
theorem then_n {next : AS → Prop} {Q : Exit → AS → Prop} {σ : AS} (h : next σ) : thenA next Q .normal σ := h
end Go.Proofs.Ytdogdjcjmhogmaa
namespace Go.Proofs.Ytdogdjcjmhogmaa
open Go.RowKit
@[reducible] def sdB (b : Nat) (l : List Int) (bg : Bool) (st : Int) (vm vw : Value) : Blk := .box b 99 [.c (intRow l), .c (.lit (.bool bg)), .c (.lit (.int .i64 st)), .own 1 vm, .own 2 vw]
@[reducible] def mkB (vm : Value) (m : List Bool) : Blk := .row vm 4 1 m.length (m.flatMap boTs)
def vLits (S : List (Value × List Int)) : List T := S.map fun x => .lit x.1
@[reducible] def owB (vw : Value) (S : List (Value × List Int)) : Blk := .row vw 22 1 S.length (vLits S)
@[reducible] def inB (x : Value × List Int) : Blk := .row x.1 3 1 x.2.length (x.2.flatMap intTs)
def nils (n : Nat) : List (Value × List Int) := List.replicate n (.slice none 0 0, [])
theorem any_iff {l : List Int} {s : Int} : (l.any fun a => decide (s = a)) = true ↔ s ∈ l := by
  rw [List.any_eq_true]
  constructor
  · rintro ⟨x, hx, he⟩
    rw [of_decide_eq_true he]; exact hx
  · exact fun h => ⟨s, h, decide_eq_true rfl⟩
theorem not_nodup {l : List Int} {k : Nat} {x : Int} (hx : l[k]? = some x) (hm : x ∈ l.take k) : ¬ l.Nodup := by
  intro h
  obtain ⟨h1, rfl⟩ := List.getElem?_eq_some_iff.1 hx
  rw [← List.take_append_drop k l, List.nodup_append] at h
  exact h.2.2 _ hm _ (by rw [List.drop_eq_getElem_cons h1]; exact List.mem_cons_self) rfl
set_option maxRecDepth 100000 in
set_option maxHeartbeats 4000000 in
theorem new_ok (l : List Int) (hl : l.length ≤ 8) (hnd : l.Nodup) : AG Try.prog 8 [.c (intRow l)] [] (fun r hs => ∃ b vm vw, r = .tup [.ptr 0 b 0, .c (.lit (.int .i64 0))] ∧ hs = [sdB b l false 0 vm vw, mkB vm (List.replicate l.length false), owB vw (nils l.length)]) := by
  have d0 : decide ((8 : Int) < ((l.length : Nat) : Int)) = false := decide_eq_false (by omega)
  have hC := cloneInt_ag l (by omega)
  have e1 : (List.replicate l.length [T.lit (.bool false)]).flatten = (List.replicate l.length false).flatMap boTs := by
    rw [List.flatMap, List.map_replicate]; rfl
  have e2 : (List.replicate l.length [T.lit (.slice none 0 0)]).flatten = vLits (nils l.length) := by
    unfold vLits nils
    rw [List.map_replicate]
    generalize l.length = n
    induction n with
    | zero => rfl
    | succ n ih => rw [List.replicate_succ, List.replicate_succ, List.flatten_cons, ih]; rfl
  refine ag_enter (3) tok Try.func8 Try.ntmps8 Try.results8 rfl (by kernel_rfl) rfl fun F => ?_
  repeat (first | refine gG ?_ | refine zN1 (fun hlen => ?_) | refine zN2 (fun hlen => ?_) | refine zBx (fun _ => ?_))
  refine x_loop [2, 3, 4, 5, 11, 12, 13, 14, 15, 16, 17, 18, 19, 20, 21] (fun k : Nat => [(11, .c (.lit (.int .i64 (k : Nat))))]) (fun _ => []) (fun k => k ≤ l.length) (fun k => l.length - k) 0 (Nat.zero_le _) ⟨rfl, trivial⟩ rfl ?_
  rintro k hk
  repeat (first | refine gG ?_ | refine zN1 (fun hlen => ?_) | refine zN2 (fun hlen => ?_) | refine zBx (fun _ => ?_))
  refine x_cond rfl (fun h => ?_) (fun h => ?_)
  · have hk' : k < l.length := by simpa using h
    obtain ⟨a, ha⟩ := nth hk'
    have hat := int_at ha
    have hc := hasInt_af (l.take k) a
    have hz : (l.take k).any (fun x => decide (a = x)) = false := by
      cases hz : (l.take k).any (fun x => decide (a = x)) with
      | false => rfl
      | true => exact absurd hnd (not_nodup ha (any_iff.1 hz))
    rw [hz] at hc
    clear h ha hz
    repeat (first | refine gG ?_ | refine zN1 (fun hlen => ?_) | refine zN2 (fun hlen => ?_) | refine zBx (fun _ => ?_))
    refine zIx k hk' ?_
    repeat (first | refine gG ?_ | refine zN1 (fun hlen => ?_) | refine zN2 (fun hlen => ?_) | refine zBx (fun _ => ?_))
    refine zEl1 hat ?_
    repeat (first | refine gG ?_ | refine zN1 (fun hlen => ?_) | refine zN2 (fun hlen => ?_) | refine zBx (fun _ => ?_))
    refine zPhf (f := intTs) k hk (fun _ => rfl) ?_
    repeat (first | refine gG ?_ | refine zN1 (fun hlen => ?_) | refine zN2 (fun hlen => ?_) | refine zBx (fun _ => ?_))
    refine zCall (hc) ?_
    rintro _ rfl
    repeat (first | refine gG ?_ | refine zN1 (fun hlen => ?_) | refine zN2 (fun hlen => ?_) | refine zBx (fun _ => ?_))
    exact ⟨k + 1, hk', by omega, x_wkd 0 ⟨rfl, trivial⟩ rfl (by repeat (first | exact ag_refl | refine ag_upd rfl ?_ | refine ag_at rfl rfl ?_))⟩
  · clear h
    repeat (first | refine gG ?_ | refine zN1 (fun hlen => ?_) | refine zN2 (fun hlen => ?_) | refine zBx (fun _ => ?_))
    refine ac_drawT [1, 1, 1, 1, 3, 1, 1, 3, 1, 3, 1, 1] (.fork [0, 1, 2, 3, 5, 6] 4 (.fin [7, 8, 9, 10, 11]) 7 (.fin [4, 8, 9, 10, 11])) (by kernel_rfl) (by kernel_rfl) ?_
    refine wt_fork ?_
    refine gW ?_
    apply w_q; (focus exact rfl); (focus exact rfl); focus (intro _; (refine zPeekC hC (fun r hs h => h) (flat_ints l) ?_); exact det_refl)
    refine gW ?_
    refine w_nil ?_
    refine ⟨?_, ?_⟩
    · apply w_a; (focus exact rfl); (focus exact rfl); refine zMk l.length [.lit (.bool false)] (fun _ => ⟨⟨_, rfl⟩, ?_⟩)
      refine w_nil ?_
      refine wt_fin ?_
      apply w_a; (focus exact rfl); (focus exact rfl); refine zMk l.length [.lit (.slice none 0 0)] (fun _ => ⟨⟨_, rfl⟩, ?_⟩)
      refine gW ?_
      apply w_a; (focus exact rfl); (focus exact rfl); refine v_box rfl rfl rfl rfl (fun _ => rfl) (fun _ => ⟨⟨_, rfl⟩, ?_⟩)
      refine gW ?_
      refine w_nil ?_
      rename_i va vb bb
      first | (refine x_pick [2, 0, 1] ?_; refine x_boxR 0 [.c (intRow l), .c (.lit (.bool false)), .c (.lit (.int .i64 0)), .own 1 va, .own 2 vb] ?_ rfl (res_cons re_refl (res_cons re_refl (res_cons re_refl (res_cons re_own (res_cons re_own res_nil))))) rfl; refine x_reptr 2 0 rfl ?_; refine ac_ret ?_; refine zG ?_; refine ⟨bb, va, vb, rfl, ?_⟩; simp only [e1, e2, nils, sdB, mkB, owB, List.length_replicate]) | (refine x_pick [2, 1, 0] ?_; refine x_boxR 0 [.c (intRow l), .c (.lit (.bool false)), .c (.lit (.int .i64 0)), .own 1 vb, .own 2 va] ?_ rfl (res_cons re_refl (res_cons re_refl (res_cons re_refl (res_cons re_own (res_cons re_own res_nil))))) rfl; refine x_reptr 2 0 rfl ?_; refine ac_ret ?_; refine zG ?_; refine ⟨bb, vb, va, rfl, ?_⟩; simp only [e1, e2, nils, sdB, mkB, owB, List.length_replicate])
          
    · apply w_a; (focus exact rfl); (focus exact rfl); refine zMk l.length [.lit (.slice none 0 0)] (fun _ => ⟨⟨_, rfl⟩, ?_⟩)
      refine w_nil ?_
      refine wt_fin ?_
      apply w_a; (focus exact rfl); (focus exact rfl); refine zMk l.length [.lit (.bool false)] (fun _ => ⟨⟨_, rfl⟩, ?_⟩)
      refine gW ?_
      apply w_a; (focus exact rfl); (focus exact rfl); refine v_box rfl rfl rfl rfl (fun _ => rfl) (fun _ => ⟨⟨_, rfl⟩, ?_⟩)
      refine gW ?_
      refine w_nil ?_
      rename_i va vb bb
      first | (refine x_pick [2, 0, 1] ?_; refine x_boxR 0 [.c (intRow l), .c (.lit (.bool false)), .c (.lit (.int .i64 0)), .own 1 va, .own 2 vb] ?_ rfl (res_cons re_refl (res_cons re_refl (res_cons re_refl (res_cons re_own (res_cons re_own res_nil))))) rfl; refine x_reptr 2 0 rfl ?_; refine ac_ret ?_; refine zG ?_; refine ⟨bb, va, vb, rfl, ?_⟩; simp only [e1, e2, nils, sdB, mkB, owB, List.length_replicate]) | (refine x_pick [2, 1, 0] ?_; refine x_boxR 0 [.c (intRow l), .c (.lit (.bool false)), .c (.lit (.int .i64 0)), .own 1 vb, .own 2 va] ?_ rfl (res_cons re_refl (res_cons re_refl (res_cons re_refl (res_cons re_own (res_cons re_own res_nil))))) rfl; refine x_reptr 2 0 rfl ?_; refine ac_ret ?_; refine zG ?_; refine ⟨bb, vb, va, rfl, ?_⟩; simp only [e1, e2, nils, sdB, mkB, owB, List.length_replicate])
set_option maxRecDepth 100000 in
set_option maxHeartbeats 2000000 in
theorem begin_yes (b : Nat) (l : List Int) (st : Int) (vm vw : Value) (k : Int) : AG Try.prog 9 [.ptr 0 b 0, .c (.lit (.int .i64 k))] [sdB b l true st vm vw] (fun r hs => r = .c (.lit (.int .i64 8)) ∧ hs = [sdB b l true st vm vw]) := by
  refine ag_enter (1) tok Try.func9 Try.ntmps9 Try.results9 rfl (by kernel_rfl) rfl fun F => ?_
  repeat (first | refine gG ?_)
  refine zG ?_
  exact ⟨rfl, rfl⟩
set_option maxRecDepth 100000 in
set_option maxHeartbeats 2000000 in
theorem begin_no (b : Nat) (l : List Int) (st : Int) (vm vw : Value) (k : Int) : AG Try.prog 9 [.ptr 0 b 0, .c (.lit (.int .i64 k))] [sdB b l false st vm vw] (fun r hs => r = .c (.lit (.int .i64 0)) ∧ hs = [sdB b l true k vm vw]) := by
  refine ag_enter (1) tok Try.func9 Try.ntmps9 Try.results9 rfl (by kernel_rfl) rfl fun F => ?_
  repeat (first | refine gG ?_)
  refine zG ?_
  exact ⟨rfl, rfl⟩
end Go.Proofs.Ytdogdjcjmhogmaa
namespace Go.Proofs.Ytdogdjcjmhogmaa
open Go.RowKit
def posI (l : List Int) (s : Int) : Int := idxI (fun a => decide (s = a)) l
theorem spl_one1 {α : Type} (l : List α) (k : Nat) (v : α) : spl l (k * 1) [v] = l.set k v := by rw [Nat.mul_one]; rfl
theorem bo_set (m : List Bool) (i : Nat) (b : Bool) : spl (m.flatMap boTs) (i * 1) [T.lit (.bool b)] = (m.set i b).flatMap boTs := by
  rw [spl_one1]
  have h : ∀ l : List Bool, l.flatMap boTs = l.map fun b => T.lit (.bool b) := fun l => by
    induction l with
    | nil => rfl
    | cons a l ih => rw [List.flatMap_cons, ih]; rfl
  rw [h, h, List.map_set]
theorem bo_len (m : List Bool) : (m.flatMap boTs).length = m.length := by
  have := flat_len boTs 1 (fun _ => rfl) m
  omega
theorem vl_at {S : List (Value × List Int)} {i : Nat} {x : Value × List Int} (h : S[i]? = some x) : (vLits S)[i * 1]? = some (.lit x.1) := by
  unfold vLits
  rw [Nat.mul_one, List.getElem?_map, h]; rfl
theorem vl_len (S : List (Value × List Int)) : (vLits S).length = S.length := by simp [vLits]
theorem vl_set (S : List (Value × List Int)) (i : Nat) (x : Value × List Int) : (vLits S).set (i * 1) (.lit x.1) = vLits (S.set i x) := by
  unfold vLits
  rw [Nat.mul_one, List.map_set]
set_option maxRecDepth 100000 in
set_option maxHeartbeats 4000000 in
theorem marker_new (b : Nat) (l : List Int) (bg : Bool) (st : Int) (vm vw : Value) (m : List Bool) (s k : Int) (i : Nat) (hp : posI l s = (i : Int)) (hm : m[i]? = some false) : AG Try.prog 11 [.ptr 0 b 0, .c (.lit (.int .i64 s)), .c (.lit (.int .i64 k))] [sdB b l bg st vm vw, mkB vm m] (fun r hs => r = .tup [.c (.lit (.bool (!bg))), .c (.lit (.int .i64 0))] ∧ hs = [sdB b l true (if bg then st else k) vm vw, mkB vm (m.set i true)]) := by
  have hc := idxInt_af l s
  unfold posI at hp
  rw [hp] at hc
  have d0 : decide (((i : Nat) : Int) < 0) = false := decide_eq_false (by omega)
  have hmt := bo_at hm
  have him : i < m.length := (List.getElem?_eq_some_iff.1 hm).1
  have hse := bo_set m i true
  have hbl := bo_len m
  have hsl : (m.set i true).length = m.length := List.length_set
  have by_ := begin_yes b l st vm vw k
  have bn_ := begin_no b l st vm vw k
  refine ag_enter (2) tok Try.func11 Try.ntmps11 Try.results11 rfl (by kernel_rfl) rfl fun F => ?_
  repeat (first | refine gG ?_)
  refine zCall (hc) ?_
  rintro _ rfl
  repeat (first | refine gG ?_)
  refine zIxo i him ?_
  repeat (first | refine gG ?_)
  refine zElo1 hmt ?_
  repeat (first | refine gG ?_)
  refine zIxo i him ?_
  repeat (first | refine gG ?_)
  refine zSe hse (show i * 1 + 1 ≤ (m.flatMap boTs).length by rw [hbl]; omega) ?_
  cases bg
  · repeat (first | refine gG ?_)
    refine zCallG [0] bn_ ?_
    rintro _ _ ⟨rfl, rfl⟩
    refine ⟨_, _, re_refl, rfl, rfl, ?_⟩
    repeat (first | refine gG ?_)
    refine zG ?_
    exact ⟨rfl, by simp only [mkB, hsl]; rfl⟩
  · repeat (first | refine gG ?_)
    refine zCallG [0] by_ ?_
    rintro _ _ ⟨rfl, rfl⟩
    refine ⟨_, _, re_refl, rfl, rfl, ?_⟩
    repeat (first | refine gG ?_)
    refine zG ?_
    exact ⟨rfl, by simp only [mkB, hsl]; rfl⟩
set_option maxRecDepth 100000 in
set_option maxHeartbeats 2000000 in
theorem message_idle (b : Nat) (l : List Int) (st : Int) (vm vw : Value) (s k : Int) (i : Nat) (hp : posI l s = (i : Int)) : AG Try.prog 12 [.ptr 0 b 0, .c (.lit (.int .i64 s)), .c (.lit (.int .i64 k))] [sdB b l false st vm vw] (fun r hs => r = .c (.lit (.int .i64 0)) ∧ hs = [sdB b l false st vm vw]) := by
  have hc := idxInt_af l s
  unfold posI at hp
  rw [hp] at hc
  have d0 : decide (((i : Nat) : Int) < 0) = false := decide_eq_false (by omega)
  refine ag_enter (1) tok Try.func12 Try.ntmps12 Try.results12 rfl (by kernel_rfl) rfl fun F => ?_
  repeat (first | refine gG ?_ | refine zN1 (fun hlen => ?_) | refine zN2 (fun hlen => ?_) | refine zAp (fun _ => ?_))
  refine zCall (hc) ?_
  rintro _ rfl
  repeat (first | refine gG ?_ | refine zN1 (fun hlen => ?_) | refine zN2 (fun hlen => ?_) | refine zAp (fun _ => ?_))
  refine zG ?_
  exact ⟨rfl, rfl⟩
set_option maxRecDepth 100000 in
set_option maxHeartbeats 2000000 in
theorem message_shut (b : Nat) (l : List Int) (st : Int) (vm vw : Value) (m : List Bool) (s k : Int) (i : Nat) (hp : posI l s = (i : Int)) (hm : m[i]? = some true) : AG Try.prog 12 [.ptr 0 b 0, .c (.lit (.int .i64 s)), .c (.lit (.int .i64 k))] [sdB b l true st vm vw, mkB vm m] (fun r hs => r = .c (.lit (.int .i64 0)) ∧ hs = [sdB b l true st vm vw, mkB vm m]) := by
  have hc := idxInt_af l s
  unfold posI at hp
  rw [hp] at hc
  have d0 : decide (((i : Nat) : Int) < 0) = false := decide_eq_false (by omega)
  have hmt := bo_at hm
  have him : i < m.length := (List.getElem?_eq_some_iff.1 hm).1
  refine ag_enter (2) tok Try.func12 Try.ntmps12 Try.results12 rfl (by kernel_rfl) rfl fun F => ?_
  repeat (first | refine gG ?_ | refine zN1 (fun hlen => ?_) | refine zN2 (fun hlen => ?_) | refine zAp (fun _ => ?_))
  refine zCall (hc) ?_
  rintro _ rfl
  repeat (first | refine gG ?_ | refine zN1 (fun hlen => ?_) | refine zN2 (fun hlen => ?_) | refine zAp (fun _ => ?_))
  refine zIxo i him ?_
  repeat (first | refine gG ?_ | refine zN1 (fun hlen => ?_) | refine zN2 (fun hlen => ?_) | refine zAp (fun _ => ?_))
  refine zElo1 hmt ?_
  repeat (first | refine gG ?_ | refine zN1 (fun hlen => ?_) | refine zN2 (fun hlen => ?_) | refine zAp (fun _ => ?_))
  refine zG ?_
  exact ⟨rfl, rfl⟩
set_option maxRecDepth 100000 in
set_option maxHeartbeats 4000000 in
theorem message_put (b : Nat) (l : List Int) (st : Int) (vm vw : Value) (m : List Bool) (S : List (Value × List Int)) (x : Value × List Int) (s k : Int) (i : Nat) (hp : posI l s = (i : Int)) (hm : m[i]? = some false) (hS : S[i]? = some x) (hx : x.2.length < 200) : AG Try.prog 12 [.ptr 0 b 0, .c (.lit (.int .i64 s)), .c (.lit (.int .i64 k))] [sdB b l true st vm vw, mkB vm m, owB vw S, inB x] (fun r hs => ∃ v', r = .c (.lit (.int .i64 0)) ∧ hs = [sdB b l true st vm vw, mkB vm m, owB vw (S.set i (v', x.2 ++ [k])), inB (v', x.2 ++ [k])]) := by
  have hc := idxInt_af l s
  unfold posI at hp
  rw [hp] at hc
  have d0 : decide (((i : Nat) : Int) < 0) = false := decide_eq_false (by omega)
  have hmt := bo_at hm
  have him : i < m.length := (List.getElem?_eq_some_iff.1 hm).1
  have hat := vl_at hS
  have hiS : i < S.length := (List.getElem?_eq_some_iff.1 hS).1
  have hvl := vl_len S
  obtain ⟨v, x⟩ := x
  dsimp only at hx hat ⊢
  have d1 : decide (((x.length : Nat) : Int) = 200) = false := decide_eq_false (by omega)
  have hset := fun v' => vl_set S i (v', x ++ [k])
  have hsl : ∀ v' : Value, (S.set i (v', x ++ [k])).length = S.length := fun v' => List.length_set
  clear hS
  refine ag_enter (4) tok Try.func12 Try.ntmps12 Try.results12 rfl (by kernel_rfl) rfl fun F => ?_
  repeat (first | refine gG ?_ | refine zN1 (fun hlen => ?_) | refine zN2 (fun hlen => ?_) | refine zAp (fun _ => ?_))
  refine zCall (hc) ?_
  rintro _ rfl
  repeat (first | refine gG ?_ | refine zN1 (fun hlen => ?_) | refine zN2 (fun hlen => ?_) | refine zAp (fun _ => ?_))
  refine zIxo i him ?_
  repeat (first | refine gG ?_ | refine zN1 (fun hlen => ?_) | refine zN2 (fun hlen => ?_) | refine zAp (fun _ => ?_))
  refine zElo1 hmt ?_
  repeat (first | refine gG ?_ | refine zN1 (fun hlen => ?_) | refine zN2 (fun hlen => ?_) | refine zAp (fun _ => ?_))
  refine zIxo i hiS ?_
  repeat (first | refine gG ?_ | refine zN1 (fun hlen => ?_) | refine zN2 (fun hlen => ?_) | refine zAp (fun _ => ?_))
  refine lo_as 3 (zElo1 hat ⟨_, _, _, _, _, rfl, rfl, ?_⟩)
  repeat (first | refine gG ?_ | refine zN1 (fun hlen => ?_) | refine zN2 (fun hlen => ?_) | refine zAp (fun _ => ?_))
  refine x_row 2 rfl (by omega) (fun hv => ?_)
  refine ac_drawT [0, 0, 0, 3, 0, 1, 1, 1, 1, 1, 1, 1, 1, 1, 2, 0, 2] (.fork [0, 1, 2, 4, 5, 6, 7, 8, 9, 10, 11, 12, 13] 3 (.fin [14, 15, 16]) 14 (.fin [3, 15, 16])) (by kernel_rfl) (by kernel_rfl) ?_
  refine wt_fork ?_
  refine gW ?_
  apply w_q; (focus exact rfl); (focus exact rfl); focus (intro _; (refine zIxo i hiS ?_); exact det_refl)
  apply w_q; (focus exact rfl); (focus exact rfl); focus (intro _; (refine lo_as 3 (zElo1 hat ⟨_, _, _, _, _, rfl, rfl, ?_⟩)); exact det_refl)
  refine gW ?_
  refine w_nil ?_
  refine ⟨?_, ?_⟩
  · apply w_a; (focus exact rfl); (focus exact rfl); refine zL1 ⟨⟨[], rfl⟩, ?_⟩
    refine w_nil ?_
    refine wt_fin ?_
    apply w_l; (focus exact rfl); (focus exact rfl); (refine zAp (fun _ => ?_))
    apply w_p; (focus exact rfl); (focus exact rfl); focus (intro _; (refine zIxp i hv hiS ?_); exact det_refl)
    apply w_l; (focus exact rfl); (focus exact rfl); (refine zSeo (show i * 1 + 1 ≤ (vLits S).length by rw [hvl]; omega) ?_)
    refine w_nil ?_
    rename_i v'
    repeat (first | refine ac_seq ?_ | refine ac_block ?_ | refine ac_region ?_ | refine ac_skip ?_ | refine ac_ret ?_ | refine gG ?_)
    refine zG ?_
    refine ⟨v', rfl, ?_⟩
    rw [hset]
    simp only [hsl, owB, inB, List.length_append, List.length_cons, List.length_nil, List.flatMap_append, List.flatMap_cons, List.flatMap_nil, List.append_nil]
    rfl
      
  · apply w_l; (focus exact rfl); (focus exact rfl); (refine zAp (fun _ => ?_))
    refine w_nil ?_
    refine wt_fin ?_
    apply w_a; (focus exact rfl); (focus exact rfl); refine zL1 ⟨⟨[], rfl⟩, ?_⟩
    apply w_p; (focus exact rfl); (focus exact rfl); focus (intro _; (refine zIxp i hv hiS ?_); exact det_refl)
    apply w_l; (focus exact rfl); (focus exact rfl); (refine zSeo (show i * 1 + 1 ≤ (vLits S).length by rw [hvl]; omega) ?_)
    refine w_nil ?_
    rename_i v'
    repeat (first | refine ac_seq ?_ | refine ac_block ?_ | refine ac_region ?_ | refine ac_skip ?_ | refine ac_ret ?_ | refine gG ?_)
    refine zG ?_
    refine ⟨v', rfl, ?_⟩
    rw [hset]
    simp only [hsl, owB, inB, List.length_append, List.length_cons, List.length_nil, List.flatMap_append, List.flatMap_cons, List.flatMap_nil, List.append_nil]
    rfl
end Go.Proofs.Ytdogdjcjmhogmaa
